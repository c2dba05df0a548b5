/- Lemmas for the laws of this seat, laid together of PGec, PGed, PGee, PGef, PGeh, PIh. -/
import Derived.Test.YtimlbbleblijnaaV17
import Derived.Test.YtimlbbleblijnaaV18
import Derived.Test.YtimlbbleblijnaaV20
import Derived.Laws.CopyOwn
import Derived.Laws.OwnMore
import Derived.ArgAppend

set_option linter.unusedVariables false
set_option linter.unusedSimpArgs false
set_option maxRecDepth 100000
set_option maxHeartbeats 4000000
namespace Go.Proofs.Ytimlbbleblijnaa.Co
open Go Go.Conc Go.RowKit
open Go.ConcN (sumTo upd sumTo_upd upd_ne upd_same sumTo_congr le_sumTo)
theorem picks_k {ts:List (List Op3)}:∀ (l:List Int) (a:PA × Int),((playG ts).picks a l).2=a.2+l.length
  | [],a=>by simp [Game.picks]
  | p :: l,a=>by
    have e:(playG ts).picks a (p :: l)=(playG ts).picks ((playG ts).pk a (pickIx p (playG ts).n)) l:=by
      unfold Game.picks
      rw [List.foldl_cons]
    rw [e,picks_k l]
    show a.2+1+_=_
    rw [List.length_cons]
    push_cast
    omega
theorem drn_k {ts:List (List Op3)} {a z:PA × Int} {x:Nat} (h:(playG ts).Drn a x z):a.2≤z.2:=by
  induction h with
  | stop _=>exact Int.le_refl _
  | go _ _ ih=>dsimp only at ih; omega
theorem rf_le {ts:List (List Op3)} {picks:List Int} {drain:Bool} {a:PA} {K nxt:Nat} {z:PA × Int} (h:RF ts picks drain a K nxt z):(K:Int)≤z.2:=by
  rcases h with ⟨_,⟨_,_,h⟩ | ⟨_,_,_,h⟩⟩ | ⟨_,rfl⟩
  · have h1:=picks_k (ts:=ts) (picks.drop K) (a,(K:Int))
    dsimp only at h1
    cases drain with
    | true =>
      simp only [if_true] at h
      have:=drn_k h
      omega
    | false =>
      simp only [Bool.false_eq_true,if_false] at h
      rw [h]
      omega
  · exact drn_k h
  · exact Int.le_refl _
theorem info4:∃ i:TypeInfo,Try.prog.info? 4=some i∧i.zero=some (.bool false)∧i.size=1∧i.bytes=1:=by
  have h:(Try.prog.info? 4).isSome=true:=by kernel_rfl
  obtain ⟨i,hi⟩:=Option.isSome_iff_exists.1 h
  have h2:(Try.prog.info? 4).map (fun i=>(i.zero,i.size,i.bytes))=some (some (.bool false),1,1):=by kernel_rfl
  rw [hi] at h2
  simp only [Option.map_some,Option.some.injEq,Prod.mk.injEq] at h2
  exact ⟨i,hi,h2.1,h2.2.1,h2.2.2⟩
theorem made_b (n:Nat):madeCells (Value.bool false).cells n=((List.range n).map fun _=>Value.bool false).toArray:=by
  apply Array.ext
  · simp [madeCells]
  · intro i h1 h2
    simp [madeCells,Value.cells,Nat.mod_one]
theorem make_b (n:Nat) (hn:n≤8) (x:World):(Instr.makeSlice 90 (.int .i64 (n:Int)) (.int .i64 (n:Int))).run Try.prog x=.ok (.slice (some ⟨x.heap.size,0,none⟩) n n) (x.alloc (.cells ((List.range n).map fun _=>Value.bool false).toArray 4)):=by
  obtain ⟨i0,hi,hz,hs,hb⟩:=info4
  have h:=run_makeSlice (P:=Try.prog) (w:=x) 90 4 i0 _ Try.underlying90 hi hz .i64 .i64 (n:Int) (n:Int) (by omega) (Int.le_refl _) (by rw [hs,Int.toNat_natCast]; omega) (by rw [hb]; push_cast; omega) (by omega)
  rw [Int.toNat_natCast,hs,Nat.mul_one,made_b n] at h
  exact h
theorem row_set {x:World} {b n t:Nat} {e:TypeId} {g g':Nat→Value} {v:Value} (h:x.heap[b]?=some (.cells ((List.range n).map g).toArray e)) (ht:t < n) (h1:g' t=v) (h2:∀ s,s≠t→g' s=g s):(x.setCell ⟨b,t,none⟩ v).heap[b]?=some (.cells ((List.range n).map g').toArray e):=by
  have e1:(x.setCell ⟨b,t,none⟩ v).heap[b]?=some (.cells ((((List.range n).map g).toArray).setIfInBounds t v) e):=heap_set (a:=⟨b,t,none⟩) (w:=x) rfl h
  rw [e1]
  congr 2
  refine Array.ext_getElem? fun i=>?_
  rw [Array.getElem?_setIfInBounds]
  by_cases hi:t=i
  · subst hi
    simp [ht,h1]
  · rw [if_neg hi]
    by_cases hin:i < n
    · simp [hin,h2 i (fun e=>hi e.symm)]
    · simp [hin]
theorem row_cell {x:World} {b n t:Nat} {e:TypeId} {g:Nat→Value} (h:x.heap[b]?=some (.cells ((List.range n).map g).toArray e)) (ht:t < n):x.cell? ⟨b,t,none⟩=some (g t):=by
  refine obj_cell h ?_
  simp [ht]
def NxtR (ts:List (List Op3)) (picks:List Int) (drain:Bool) (a:PA) (r:Int) (K nxt:Nat) (z:PA × Int):Prop :=
  (r = -2∧z=(a,(K:Int)))∨(r = -1∧RF ts picks drain a K nxt z)∨∃ t:Nat,r=(t:Int)∧t < ts.length∧(playG ts).alive a t=true∧RF ts picks drain ((playG ts).pick a t (K:Int)) K nxt z
def rWt:Value→Nat
  | .int _ i=>if i = -2 then 0 else 1
  | _=>0
theorem meas {z:PA × Int} {r2:Int} {K K2:Nat} (hk:r2≠-2→K2=K+1) (hk2:K≤K2) (hle:(K:Int)≤z.2):2 * (z.2.toNat+1 - K2)+rWt (.int .i64 r2) < 2 * (z.2.toNat+1 - K)+1:=by
  unfold rWt
  by_cases h:r2 = -2
  · dsimp only
    rw [if_pos h]
    omega
  · dsimp only
    rw [if_neg h,hk h]
    omega
def kOf (rb:Nat) (w:World):Nat:=natOfV ((w.cell? ⟨rb,2,none⟩).getD undef)
theorem RP.kOf {B rb ab eb K nxt:Nat} {pv ov:Value} {ts:List (List Op3)} {drain:Bool} {a:PA} {x:World} (h:RP B rb ab eb pv drain ts a K nxt ov x):Co.kOf rb x=K:=by
  unfold Co.kOf
  rw [obj_cell h.run (o:=2) rfl]
  simp [natOfV]
theorem RP.next {B rb ab eb pcap pb po K nxt:Nat} {pa:Option Addr} {ts:List (List Op3)} {picks:List Int} {drain:Bool} {a:PA} {ov:Value} {x y:World} {z:PA × Int} (h:RP B rb ab eb (.slice pa picks.length pcap) drain ts a K nxt ov y) (hb:Below B x y) (hrb:B≤rb) (hf:RF ts picks drain a K nxt z) (hz2:z.2≤100000000000000) (hn:ts.length≤8) (hnp:picks.length≤100000000000) (hp64:∀ p ∈ picks,-9223372036854775808≤p∧p≤9223372036854775807)
    (hpa:picks≠[]→pa=some ⟨pb,po,none⟩) (hps:∀ i p,picks[i]?=some p→y.cell? ⟨pb,po+i,none⟩=some (.int .i64 p)) (d1:rb≠ab) (d2:rb≠eb) :
    Calls Try.prog 66 #[.pointer (some ⟨rb,0,none⟩),.slice (some ⟨eb,0,none⟩) ts.length ts.length] y fun e y'=>∃ r K' nxt',e=.returned (.int .i64 r)∧RP B rb ab eb (.slice pa picks.length pcap) drain ts a K' nxt' ov y'∧NxtR ts picks drain a r K' nxt' z∧(r≠-2→K'=K+1)∧K≤K'∧Below B x y'∧y'.heap.size=y.heap.size:=by
  have hle:=rf_le hf
  refine (next_any (alive:=(playG ts).alive a) hn (by omega) (by omega) hp64 (rf_nxt hf) h.run hpa hps (fun t ht=>row_cell h.en ht) d2).mono ?_
  rintro e y' ⟨rfl,hr⟩
  obtain ⟨r,K',nxt',hres⟩:∃ r K' nxt',(r,K',nxt')=nextF picks drain ts.length ((playG ts).alive a) K nxt:=⟨_,_,_,rfl⟩
  rw [← hres] at hr ⊢
  have hs:=rf_next hf hres
  refine ⟨r,K',nxt',rfl,⟨hr.run,(hr.old ab (fun e=>d1 e.symm)).trans h.at_,(hr.old eb (fun e=>d2 e.symm)).trans h.en,ownsRow_same h.out (fun g hg=>hr.old g (fun e=>h.n1 (by rw [← e]; exact hg))),h.n1,h.n2,h.n3⟩,?_,fun hne=>?_,?_,⟨?_,?_,?_,?_,?_⟩,hr.size⟩
  · rcases hs with ⟨e1,e2,e3⟩ | ⟨e1,_,_,e2⟩ | ⟨t,e1,e2,e3,e4,e5⟩
    · exact .inl ⟨e1,by rw [e2,e3]⟩
    · exact .inr (.inl ⟨e1,e2⟩)
    · refine .inr (.inr ⟨t,e1,e2,e3,?_⟩)
      rw [e4] at e5 ⊢
      push_cast
      exact e5
  · rcases hs with ⟨e1,_⟩ | ⟨_,e2,_⟩ | ⟨t,_,_,_,e4,_⟩
    · exact absurd e1 hne
    · exact e2
    · exact e4
  · rcases hs with ⟨_,_,e3⟩ | ⟨_,e2,_⟩ | ⟨t,_,_,_,e4,_⟩ <;> omega
  · exact hr.io.1.trans hb.os
  · exact hr.io.2.1.trans hb.tape
  · exact hr.io.2.2.trans hb.output
  · have:=hb.size
    have:=hr.size
    omega
  · intro b hbb
    rw [hr.old b (by omega)]
    exact hb.block b hbb
def MksAt (x:World) (v:Value) (ms:List Mk):Prop:=∃ (A:Option Addr) (g cap:Nat),v=.slice A ms.length cap∧(0 < ms.length→A=some ⟨g,0,none⟩)∧∀ i u,(mksV ms)[i]?=some u→x.cell? ⟨g,i,none⟩=some u
theorem MksAt.same {x x':World} {v:Value} {ms:List Mk} (h:MksAt x v ms) (hs:∀ g,v.ownBlock=some g→x'.heap[g]?=x.heap[g]?):MksAt x' v ms:=by
  obtain ⟨A,g,cap,rfl,h1,h2⟩:=h
  refine ⟨A,g,cap,rfl,h1,fun i u hu=>?_⟩
  have hp:0 < ms.length:=by
    cases ms with
    | nil=>cases i <;> cases hu
    | cons m ms=>exact Nat.succ_pos _
  rw [h1 hp] at hs
  exact (World.cell?_of_block (hs g rfl)).trans (h2 i u hu)
theorem MksAt.of_owns {x:World} {B:Nat} {v:Value} {ms:List Mk} (h:x.ownsRow B 37 4 v ms.length (mksV ms)):MksAt x v ms:=by
  obtain ⟨h1,h2⟩:=h
  rcases h2 with ⟨rfl,h0⟩ | ⟨g,cap,cur,rfl,hb,hg,_,_,_,ht⟩
  · have:ms=[]:=List.eq_nil_of_length_eq_zero h0
    subst this
    exact ⟨none,0,0,rfl,fun h=>absurd h (Nat.lt_irrefl _),fun i u hu=>by simp [mksV] at hu⟩
  · refine ⟨_,g,cap,rfl,fun _=>rfl,fun i u hu=>?_⟩
    rw [← ht] at hu
    refine obj_cell hg ?_
    rw [← Array.getElem?_toList]
    have hl:i < (cur.toList.take (ms.length * 4)).length:=(List.getElem?_eq_some_iff.1 hu).1
    rw [List.getElem?_take] at hu
    split at hu
    · exact hu
    · cases hu
theorem MksAt.mark {x:World} {g:Nat} {ms:List Mk} (h:∀ i u,(mksV ms)[i]?=some u→x.cell? ⟨g,i,none⟩=some u) {i:Nat} {m:Mk} (hm:ms[i]?=some m):x.cell? ⟨g,i * 4,none⟩=some (.int .i64 m.1)∧x.cell? ⟨g,i * 4+1,none⟩=some (.int .i64 m.2.1)∧x.cell? ⟨g,i * 4+2,none⟩=some (.int .i64 m.2.2.1)∧x.cell? ⟨g,i * 4+3,none⟩=some (.int .i64 m.2.2.2):=by
  have hmk:∀ j,j < 4→(mksV ms)[i * 4+j]?=(mkV m)[j]?:=fun j hj=>mksV_get hm hj
  exact ⟨h _ _ (by have:=hmk 0 (by decide); simpa [mkV] using this),h _ _ (by have:=hmk 1 (by decide); simpa [mkV] using this),h _ _ (by have:=hmk 2 (by decide); simpa [mkV] using this),h _ _ (by have:=hmk 3 (by decide); simpa [mkV] using this)⟩
def IntsX (x:World) (v:Value) (ps:List Int):Prop:=∃ (pa:Option Addr) (pb po cap:Nat),v=.slice pa ps.length cap∧(ps≠[]→pa=some ⟨pb,po,none⟩)∧∀ i p,ps[i]?=some p→x.cell? ⟨pb,po+i,none⟩=some (.int .i64 p)
def ownI (ps:List Int):List Value:=ps.map (fun p=>.int .i64 p) ++ [.int .i64 (-91),.int .i64 (-92)]
theorem ownI_get {ps:List Int} {i:Nat} {p:Int} (h:ps[i]?=some p):(ownI ps)[i]?=some (.int .i64 p):=by
  unfold ownI
  rw [List.getElem?_append_left (by simpa using (List.getElem?_eq_some_iff.1 h).1),List.getElem?_map,h]
  rfl
def opV (o:Op3):List Value:=[.int .i64 o.1,.int .i64 o.2.1,.int .i64 o.2.2]
def opsV (l:List Op3):List Value:=(l.map opV).flatten
theorem opsV_len:∀ l:List Op3,(opsV l).length=l.length * 3
  | []=>rfl
  | o :: l=>by
    have e:opsV (o :: l)=opV o ++ opsV l:=by simp [opsV]
    rw [e,List.length_append,opsV_len l,List.length_cons]
    show 3+_=_
    omega
theorem opsV_get:∀ {l:List Op3} {i:Nat} {o:Op3},l[i]?=some o→∀ {j:Nat},j < 3→(opsV l)[i * 3+j]?=(opV o)[j]?
  | [],i,o,h,j,hj=>by simp at h
  | o0 :: l,0,o,h,j,hj=>by
    have e:opsV (o0 :: l)=opV o0 ++ opsV l:=by simp [opsV]
    have h':o0=o:=by simpa using h
    rw [e,h',Nat.zero_mul,Nat.zero_add,List.getElem?_append_left (by show j < 3; exact hj)]
  | o0 :: l,i+1,o,h,j,hj=>by
    have e:opsV (o0 :: l)=opV o0 ++ opsV l:=by simp [opsV]
    have h':l[i]?=some o:=by simpa using h
    rw [e,List.getElem?_append_right (by show 3≤_; omega),← opsV_get h' hj]
    congr 1
    show (i+1) * 3+j - 3=_
    omega
def ownO (l:List Op3):List Value:=opsV l ++ [.int .i64 91,.int .i64 0,.int .i64 0,.int .i64 92,.int .i64 0,.int .i64 0]
def rowO (LB:Nat→Nat) (ts:List (List Op3)) (n:Nat):List Value:=(List.range n).map fun i=>.slice (some ⟨LB i,0,none⟩) (lenOf ts i) (lenOf ts i+2)
structure OwnT (B:Nat) (x:World) (ov:Value) (LB:Nat→Nat) (ts:List (List Op3)) (n:Nat):Prop where
  row:x.ownsRow B 32 1 ov n (rowO LB ts n)
  up:∀ i,i < n→B≤LB i
  ne:∀ i,i < n→ov.ownBlock≠some (LB i)
  inj:∀ i j,i < n→j < n→LB i=LB j→i=j
  ops:∀ i l,i < n→ts[i]?=some l→x.heap[LB i]?=some (.cells (ownO l).toArray 34)
theorem ownO_op {l:List Op3} {j:Nat} {o:Op3} (h:l[j]?=some o):(ownO l)[j * 3]?=some (.int .i64 o.1)∧(ownO l)[j * 3+1]?=some (.int .i64 o.2.1)∧(ownO l)[j * 3+2]?=some (.int .i64 o.2.2):=by
  have hj:=(List.getElem?_eq_some_iff.1 h).1
  have e:∀ k,k < 3→(ownO l)[j * 3+k]?=(opV o)[k]?:=fun k hk=>by
    unfold ownO
    rw [List.getElem?_append_left (by rw [opsV_len]; omega)]
    exact opsV_get h hk
  exact ⟨e 0 (by decide),e 1 (by decide),e 2 (by decide)⟩
theorem rowO_get {LB:Nat→Nat} {ts:List (List Op3)} {n i:Nat} (hi:i < n):(rowO LB ts n)[i]?=some (.slice (some ⟨LB i,0,none⟩) (lenOf ts i) (lenOf ts i+2)):=by
  unfold rowO
  rw [List.getElem?_map,List.getElem?_range hi]
  rfl
theorem owns_cells {x:World} {B e n:Nat} {v:Value} {xs:List Value} (h:x.ownsRow B e 1 v n xs):∃ (A:Option Addr) (g cap:Nat),v=.slice A n cap∧(0 < n→A=some ⟨g,0,none⟩)∧(0 < n→v.ownBlock=some g)∧∀ i u,xs[i]?=some u→x.cell? ⟨g,i,none⟩=some u:=by
  obtain ⟨h1,h2⟩:=h
  rcases h2 with ⟨rfl,h0⟩ | ⟨g,cap,cur,rfl,hb,hg,_,_,_,ht⟩
  · have:xs=[]:=List.eq_nil_of_length_eq_zero (by rw [h1,h0])
    subst this
    exact ⟨none,0,0,by rw [h0],fun h=>by omega,fun h=>by omega,fun i u hu=>by simp at hu⟩
  · refine ⟨_,g,cap,rfl,fun _=>rfl,fun _=>rfl,fun i u hu=>?_⟩
    rw [← ht] at hu
    refine obj_cell hg ?_
    rw [← Array.getElem?_toList]
    rw [List.getElem?_take] at hu
    split at hu
    · exact hu
    · cases hu
structure Grn (x wr:World) (av bv:Value):Prop where
  size:x.heap.size≤wr.heap.size
  old:∀ b,b < x.heap.size→av.ownBlock≠some b→bv.ownBlock≠some b→wr.heap[b]?=x.heap[b]?
def IntsM (wr:World) (g n:Nat) (k:Int):Prop:=∀ j,j < n→wr.cell? ⟨g,j * 4,none⟩=some (.int .i64 k)
theorem ints_of_owns {w:World} {v:Value} {g n:Nat} {m:Mk} (h:w.ownsRow 0 37 4 v n (mksV (List.replicate n m))) (hg:v.ownBlock=some g):IntsM w g n m.1:=by
  intro j hj
  have h':w.ownsRow 0 37 4 v (List.replicate n m).length (mksV (List.replicate n m)):=by rw [List.length_replicate]; exact h
  obtain ⟨A,g',cap,rfl,e1,e2⟩:=MksAt.of_owns h'
  obtain rfl:=e1 (by rw [List.length_replicate]; omega)
  cases hg
  exact (MksAt.mark e2 (i:=j) (m:=m) (by rw [List.getElem?_replicate,if_pos hj])).1
theorem IntsM.same {w w':World} {g n:Nat} {k:Int} (h:IntsM w g n k) (e:w'.heap[g]?=w.heap[g]?):IntsM w' g n k:=fun j hj=>(World.cell?_of_block (a:=⟨g,j * 4,none⟩) e).trans (h j hj)
structure Gr3 (x:World) (av bv:Value) (n n':Nat) (p q:Mk) (wr:World) (xv yv:Value) (i j:Nat):Prop where
  rx:wr.ownsRow 0 37 4 xv (n+i) (mksV (List.replicate (n+i) p))
  ry:wr.ownsRow 0 37 4 yv (n'+j) (mksV (List.replicate (n'+j) q))
  ca:∀ g,av.ownBlock=some g→g < wr.heap.size∧IntsM wr g n p.1
  cb:∀ g,bv.ownBlock=some g→g < wr.heap.size∧IntsM wr g n' q.1
  xy:∀ g,xv.ownBlock=some g→yv.ownBlock≠some g
  xb:∀ g,xv.ownBlock=some g→bv.ownBlock≠some g
  ya:∀ g,yv.ownBlock=some g→av.ownBlock≠some g
  fx:∀ g,xv.ownBlock=some g→av.ownBlock=some g∨x.heap.size≤g
  fy:∀ g,yv.ownBlock=some g→bv.ownBlock=some g∨x.heap.size≤g
  G:Grn x wr av bv
theorem Gr3.alloc {x:World} {av bv:Value} {n n':Nat} {p q:Mk} {wr:World} {xv yv:Value} {i j:Nat} (h:Gr3 x av bv n n' p q wr xv yv i j) (o:Obj):Gr3 x av bv n n' p q (wr.alloc o) xv yv i j :=
  ⟨h.rx.alloc _,h.ry.alloc _,fun g hg=>⟨by rw [alloc_size]; have:=(h.ca g hg).1; omega,(h.ca g hg).2.same (alloc_old (h.ca g hg).1)⟩,fun g hg=>⟨by rw [alloc_size]; have:=(h.cb g hg).1; omega,(h.cb g hg).2.same (alloc_old (h.cb g hg).1)⟩,h.xy,h.xb,h.ya,h.fx,h.fy,
    ⟨by rw [alloc_size]; have:=h.G.size; omega,fun b h1 h2 h3=>(alloc_old (by have:=h.G.size; omega)).trans (h.G.old b h1 h2 h3)⟩⟩
theorem Gr3.app {x:World} {av bv:Value} {n n':Nat} {p q:Mk} {w w':World} {xv yv v':Value} {i j:Nat} (h:Gr3 x av bv n n' p q w xv yv i j) (hr:w'.ownsRow 0 37 4 v' (n+i+1) (mksV (List.replicate (n+i) p ++ [p])))
    (hc:(v'.ownBlock=xv.ownBlock∧w.grownBy w' xv.ownBlock)∨((∀ g,v'.ownBlock=some g→w.heap.size≤g)∧w.grownBy w' none)):Gr3 x av bv n n' p q w' v' yv (i+1) j:=by
  rw [← List.replicate_succ'] at hr
  have hr':w'.ownsRow 0 37 4 v' (n+(i+1)) (mksV (List.replicate (n+(i+1)) p)):=hr
  have hsz:w.heap.size≤w'.heap.size:=by rcases hc with ⟨_,g⟩ | ⟨_,g⟩ <;> exact g.size
  have hold:∀ b,b < w.heap.size→xv.ownBlock≠some b→w'.heap[b]?=w.heap[b]?:=fun b h1 h2=>by
    rcases hc with ⟨_,g⟩ | ⟨_,g⟩
    · exact g.block b h1 (Ne.symm h2)
    · exact g.block b h1 (by intro e; cases e)
  have hgs:=h.G.size
  refine ⟨hr',ownsRow_same h.ry fun g hg=>hold g (h.ry.lt g hg).2 (fun e=>h.xy g e hg),fun g hg=>⟨Nat.lt_of_lt_of_le (h.ca g hg).1 hsz,?_⟩,fun g hg=>⟨Nat.lt_of_lt_of_le (h.cb g hg).1 hsz,(h.cb g hg).2.same (hold g (h.cb g hg).1 (fun e=>h.xb g e hg))⟩,fun g hg=>?_,fun g hg=>?_,h.ya,fun g hg=>?_,h.fy,⟨Nat.le_trans h.G.size hsz,fun b h1 h2 h3=>?_⟩⟩
  · rcases hc with ⟨e,gr⟩ | ⟨_,gr⟩
    · by_cases hx:xv.ownBlock=some g
      · have:=ints_of_owns hr' (e.trans hx)
        exact fun k hk=>this k (by omega)
      · exact (h.ca g hg).2.same (gr.block g (h.ca g hg).1 (Ne.symm hx))
    · exact (h.ca g hg).2.same (gr.block g (h.ca g hg).1 (by intro e; cases e))
  · rcases hc with ⟨e,gr⟩ | ⟨e,gr⟩
    · exact h.xy g (by rw [← e]; exact hg)
    · intro hy
      have:=e g hg
      have:=(h.ry.lt g hy).2
      omega
  · rcases hc with ⟨e,gr⟩ | ⟨e,gr⟩
    · exact h.xb g (by rw [← e]; exact hg)
    · intro hy
      have:=e g hg
      have:=(h.cb g hy).1
      omega
  · rcases hc with ⟨e,gr⟩ | ⟨e,gr⟩
    · exact h.fx g (by rw [← e]; exact hg)
    · have:=e g hg
      exact .inr (by omega)
  · rw [hold b (by omega) (fun e=>by
      rcases h.fx b e with k | k
      · exact h2 k
      · omega)]
    exact h.G.old b h1 h2 h3
def onF (ops:List Int) (t:Nat) (k:Int):Nat→Nat→Tl3→List Tld→Nat × Tl3 × List Tld
  | 0,i,tl,L=>(i,tl,L)
  | m+1,i,tl,L=>match ops[i]? with
    | none=>(i,tl,L)
    | some c=>if c=1 then (i,tl,L) else onF ops t k m (i+1) (actT c k tl) (actL c t k tl L)
theorem onF_stop {ops:List Int} {t:Nat} {k:Int} {m i:Nat} {tl:Tl3} {L:List Tld} (h:ops.length≤i):onF ops t k m i tl L=(i,tl,L):=by
  cases m with
  | zero=>rfl
  | succ m=>rw [onF,List.getElem?_eq_none h]
theorem onF_step {ops:List Int} {t:Nat} {k:Int} {m i:Nat} {tl:Tl3} {L:List Tld} (h:ops[i]?=some 1):onF ops t k m i tl L=(i,tl,L):=by
  cases m with
  | zero=>rfl
  | succ m=>rw [onF,h]; simp
theorem onF_act {ops:List Int} {t:Nat} {k:Int} {m i:Nat} {tl:Tl3} {L:List Tld} {c:Int} (h:ops[i]?=some c) (hc:c≠1):onF ops t k (m+1) i tl L=onF ops t k m (i+1) (actT c k tl) (actL c t k tl L):=by
  rw [onF,h]
  simp only [if_neg hc]
theorem onF_le {ops:List Int} {t:Nat} {k:Int}:∀ (m i:Nat) (tl:Tl3) (L:List Tld),i≤ops.length→i≤(onF ops t k m i tl L).1∧(onF ops t k m i tl L).1≤ops.length∧(onF ops t k m i tl L).2.2.length≤L.length+((onF ops t k m i tl L).1 - i)
  | 0,i,tl,L,h=>⟨Nat.le_refl _,h,by simp [onF]⟩
  | m+1,i,tl,L,h=>by
    by_cases hi:i < ops.length
    · obtain ⟨c,hc⟩:∃ c,ops[i]?=some c:=⟨_,List.getElem?_eq_getElem hi⟩
      by_cases h1:c=1
      · subst h1
        rw [onF_step hc]
        exact ⟨Nat.le_refl _,h,by simp⟩
      · rw [onF_act hc h1]
        obtain ⟨q1,q2,q3⟩:=onF_le m (i+1) (actT c k tl) (actL c t k tl L) hi
        have hl:(actL c t k tl L).length≤L.length+1:=by
          unfold actL
          split <;> simp
        exact ⟨by omega,q2,by omega⟩
    · rw [onF_stop (by omega)]
      exact ⟨Nat.le_refl _,h,by simp⟩
structure OnSt (B lb lo:Nat) (x0:World) (c0:Array Value) (ov0:Value) (a s p q:Int) (L:List Tld) (ov:Value) (wr:World):Prop where
  blk:∃ c,wr.heap[lb]?=some (.cells c 114)∧c.size=c0.size∧c[lo]?=some (.int .i64 a)∧c[lo+1]?=some (.int .i64 s)∧c[lo+2]?=some (.int .i64 p)∧c[lo+3]?=some (.int .i64 q)∧∀ j,(j < lo∨lo+4≤j)→c[j]?=c0[j]?
  row:wr.ownsRow B 117 5 ov L.length (tldsV L)
  old:∀ b,b < x0.heap.size→b≠lb→ov0.ownBlock≠some b→wr.heap[b]?=x0.heap[b]?
  own:∀ g,ov.ownBlock=some g→ov0.ownBlock=some g∨x0.heap.size≤g
  size:x0.heap.size≤wr.heap.size
  nlb:ov.ownBlock≠some lb
section
variable {B lb lo:Nat} {x0 wr:World} {c0:Array Value} {ov0 ov:Value} {a s p q:Int} {L:List Tld}
theorem OnSt.cells (h:OnSt B lb lo x0 c0 ov0 a s p q L ov wr):wr.cell? ⟨lb,lo,none⟩=some (.int .i64 a)∧wr.cell? ⟨lb,lo+1,none⟩=some (.int .i64 s)∧wr.cell? ⟨lb,lo+2,none⟩=some (.int .i64 p)∧wr.cell? ⟨lb,lo+3,none⟩=some (.int .i64 q)∧∀ o,wr.frozen? ⟨lb,o,none⟩=false:=by
  obtain ⟨c,h1,_,h3,h4,h5,h6,_⟩:=h.blk
  exact ⟨obj_cell h1 h3,obj_cell h1 h4,obj_cell h1 h5,obj_cell h1 h6,fun o=>obj_thaw h1 o⟩
theorem OnSt.set (h:OnSt B lb lo x0 c0 ov0 a s p q L ov wr) (o:Nat) (v:Int) (ho:o < 4):OnSt B lb lo x0 c0 ov0 (if o=0 then v else a) (if o=1 then v else s) (if o=2 then v else p) (if o=3 then v else q) L ov (wr.setCell ⟨lb,lo+o,none⟩ (.int .i64 v)):=by
  obtain ⟨c,h1,h2,h3,h4,h5,h6,h7⟩:=h.blk
  have l3:lo+3 < c.size:=(Array.getElem?_eq_some_iff.1 h6).1
  have hg:∀ j,(c.setIfInBounds (lo+o) (.int .i64 v))[j]?=if lo+o=j then some (.int .i64 v) else c[j]?:=fun j=>by
    rw [Array.getElem?_setIfInBounds]
    by_cases e:lo+o=j
    · subst e
      rw [if_pos rfl,if_pos rfl,if_pos (by omega)]
    · rw [if_neg e,if_neg e]
  refine ⟨⟨_,heap_set (a:=⟨lb,lo+o,none⟩) (w:=wr) rfl h1,by simp [h2],?_,?_,?_,?_,fun j hj=>?_⟩,?_,fun b hb h1 h2=>?_,h.own,?_,h.nlb⟩
  · rw [hg]; by_cases e:o=0
    · rw [if_pos (by omega),if_pos e]
    · rw [if_neg (by omega),if_neg e]; exact h3
  · rw [hg]; by_cases e:o=1
    · rw [if_pos (by omega),if_pos e]
    · rw [if_neg (by omega),if_neg e]; exact h4
  · rw [hg]; by_cases e:o=2
    · rw [if_pos (by omega),if_pos e]
    · rw [if_neg (by omega),if_neg e]; exact h5
  · rw [hg]; by_cases e:o=3
    · rw [if_pos (by omega),if_pos e]
    · rw [if_neg (by omega),if_neg e]; exact h6
  · rw [hg,if_neg (by omega)]; exact h7 j hj
  · refine ownsRow_setCell_other h.row (fun e=>h.nlb e) _
  · rw [heap_setCell_ne (a:=⟨lb,lo+o,none⟩) (Ne.symm h1)]; exact h.old b hb h1 h2
  · have:=h.size
    simp [World.setCell]; omega
theorem OnSt.same {wr':World} (h:OnSt B lb lo x0 c0 ov0 a s p q L ov wr) (hh:wr'.heap=wr.heap):OnSt B lb lo x0 c0 ov0 a s p q L ov wr':=by
  obtain ⟨h1,h2,h3,h4,h5,h6⟩:=h
  exact ⟨by rw [hh]; exact h1,ownsRow_same h2 (fun g _=>by rw [hh]),fun b x y z=>by rw [hh]; exact h3 b x y z,h4,by rw [hh]; exact h5,h6⟩
end
end Go.Proofs.Ytimlbbleblijnaa.Co
