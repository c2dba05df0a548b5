/- Lemmas for the laws of this seat, laid together of PGec, PGed, PNa, PNb, PHi. -/
import Derived.Test.YtimlbbleblijnaaW20
import Derived.Test.YtimlbbleblijnaaW23
import Derived.Test.YtimlbbleblijnaaW24
import Derived.Laws.CopyOwn

open Go.ConcR.Gen (base_kind baseD_kind)
set_option linter.unusedVariables false
set_option linter.unusedSimpArgs false
set_option maxRecDepth 100000
set_option maxHeartbeats 4000000
namespace Go.Proofs.Ytimlbbleblijnaa.Co
open Go Go.Conc Go.RowKit
open Go.ConcN (sumTo upd sumTo_upd upd_ne upd_same sumTo_congr le_sumTo)
theorem picks_k {ts:List (List Op3)}:∀ (l:List Int) (a:PA × Int),((playG ts).picks a l).2=a.2+l.length
  | [],a=>by simp [Game.picks]
  | p :: l,a=>by
    have e:(playG ts).picks a (p :: l)=(playG ts).picks ((playG ts).pk a (pickIx p (playG ts).n)) l:=by
      unfold Game.picks
      rw [List.foldl_cons]
    rw [e,picks_k l]
    show a.2+1+_=_
    rw [List.length_cons]
    push_cast
    omega
theorem drn_k {ts:List (List Op3)} {a z:PA × Int} {x:Nat} (h:(playG ts).Drn a x z):a.2≤z.2:=by
  induction h with
  | stop _=>exact Int.le_refl _
  | go _ _ ih=>dsimp only at ih; omega
theorem rf_le {ts:List (List Op3)} {picks:List Int} {drain:Bool} {a:PA} {K nxt:Nat} {z:PA × Int} (h:RF ts picks drain a K nxt z):(K:Int)≤z.2:=by
  rcases h with ⟨_,⟨_,_,h⟩ | ⟨_,_,_,h⟩⟩ | ⟨_,rfl⟩
  · have h1:=picks_k (ts:=ts) (picks.drop K) (a,(K:Int))
    dsimp only at h1
    cases drain with
    | true =>
      simp only [if_true] at h
      have:=drn_k h
      omega
    | false =>
      simp only [Bool.false_eq_true,if_false] at h
      rw [h]
      omega
  · exact drn_k h
  · exact Int.le_refl _
theorem row_cell {x:World} {b n t:Nat} {e:TypeId} {g:Nat→Value} (h:x.heap[b]?=some (.cells ((List.range n).map g).toArray e)) (ht:t < n):x.cell? ⟨b,t,none⟩=some (g t):=by
  refine obj_cell h ?_
  simp [ht]
def NxtR (ts:List (List Op3)) (picks:List Int) (drain:Bool) (a:PA) (r:Int) (K nxt:Nat) (z:PA × Int):Prop :=
  (r = -2∧z=(a,(K:Int)))∨(r = -1∧RF ts picks drain a K nxt z)∨∃ t:Nat,r=(t:Int)∧t < ts.length∧(playG ts).alive a t=true∧RF ts picks drain ((playG ts).pick a t (K:Int)) K nxt z
theorem RP.next {B rb ab eb pcap pb po K nxt:Nat} {pa:Option Addr} {ts:List (List Op3)} {picks:List Int} {drain:Bool} {a:PA} {ov:Value} {x y:World} {z:PA × Int} (h:RP B rb ab eb (.slice pa picks.length pcap) drain ts a K nxt ov y) (hb:Below B x y) (hrb:B≤rb) (hf:RF ts picks drain a K nxt z) (hz2:z.2≤100000000000000) (hn:ts.length≤8) (hnp:picks.length≤100000000000) (hp64:∀ p ∈ picks,-9223372036854775808≤p∧p≤9223372036854775807)
    (hpa:picks≠[]→pa=some ⟨pb,po,none⟩) (hps:∀ i p,picks[i]?=some p→y.cell? ⟨pb,po+i,none⟩=some (.int .i64 p)) (d1:rb≠ab) (d2:rb≠eb) :
    Calls Try.prog 66 #[.pointer (some ⟨rb,0,none⟩),.slice (some ⟨eb,0,none⟩) ts.length ts.length] y fun e y'=>∃ r K' nxt',e=.returned (.int .i64 r)∧RP B rb ab eb (.slice pa picks.length pcap) drain ts a K' nxt' ov y'∧NxtR ts picks drain a r K' nxt' z∧(r≠-2→K'=K+1)∧K≤K'∧Below B x y'∧y'.heap.size=y.heap.size:=by
  have hle:=rf_le hf
  refine (next_any (alive:=(playG ts).alive a) hn (by omega) (by omega) hp64 (rf_nxt hf) h.run hpa hps (fun t ht=>row_cell h.en ht) d2).mono ?_
  rintro e y' ⟨rfl,hr⟩
  obtain ⟨r,K',nxt',hres⟩:∃ r K' nxt',(r,K',nxt')=nextF picks drain ts.length ((playG ts).alive a) K nxt:=⟨_,_,_,rfl⟩
  rw [← hres] at hr ⊢
  have hs:=rf_next hf hres
  refine ⟨r,K',nxt',rfl,⟨hr.run,(hr.old ab (fun e=>d1 e.symm)).trans h.at_,(hr.old eb (fun e=>d2 e.symm)).trans h.en,ownsRow_same h.out (fun g hg=>hr.old g (fun e=>h.n1 (by rw [← e]; exact hg))),h.n1,h.n2,h.n3⟩,?_,fun hne=>?_,?_,⟨?_,?_,?_,?_,?_⟩,hr.size⟩
  · rcases hs with ⟨e1,e2,e3⟩ | ⟨e1,_,_,e2⟩ | ⟨t,e1,e2,e3,e4,e5⟩
    · exact .inl ⟨e1,by rw [e2,e3]⟩
    · exact .inr (.inl ⟨e1,e2⟩)
    · refine .inr (.inr ⟨t,e1,e2,e3,?_⟩)
      rw [e4] at e5 ⊢
      push_cast
      exact e5
  · rcases hs with ⟨e1,_⟩ | ⟨_,e2,_⟩ | ⟨t,_,_,_,e4,_⟩
    · exact absurd e1 hne
    · exact e2
    · exact e4
  · rcases hs with ⟨_,_,e3⟩ | ⟨_,e2,_⟩ | ⟨t,_,_,_,e4,_⟩ <;> omega
  · exact hr.io.1.trans hb.os
  · exact hr.io.2.1.trans hb.tape
  · exact hr.io.2.2.trans hb.output
  · have:=hb.size
    have:=hr.size
    omega
  · intro b hbb
    rw [hr.old b (by omega)]
    exact hb.block b hbb
def MksAt (x:World) (v:Value) (ms:List Mk):Prop:=∃ (A:Option Addr) (g cap:Nat),v=.slice A ms.length cap∧(0 < ms.length→A=some ⟨g,0,none⟩)∧∀ i u,(mksV ms)[i]?=some u→x.cell? ⟨g,i,none⟩=some u
theorem MksAt.same {x x':World} {v:Value} {ms:List Mk} (h:MksAt x v ms) (hs:∀ g,v.ownBlock=some g→x'.heap[g]?=x.heap[g]?):MksAt x' v ms:=by
  obtain ⟨A,g,cap,rfl,h1,h2⟩:=h
  refine ⟨A,g,cap,rfl,h1,fun i u hu=>?_⟩
  have hp:0 < ms.length:=by
    cases ms with
    | nil=>cases i <;> cases hu
    | cons m ms=>exact Nat.succ_pos _
  rw [h1 hp] at hs
  exact (World.cell?_of_block (hs g rfl)).trans (h2 i u hu)
theorem MksAt.mark {x:World} {g:Nat} {ms:List Mk} (h:∀ i u,(mksV ms)[i]?=some u→x.cell? ⟨g,i,none⟩=some u) {i:Nat} {m:Mk} (hm:ms[i]?=some m):x.cell? ⟨g,i * 4,none⟩=some (.int .i64 m.1)∧x.cell? ⟨g,i * 4+1,none⟩=some (.int .i64 m.2.1)∧x.cell? ⟨g,i * 4+2,none⟩=some (.int .i64 m.2.2.1)∧x.cell? ⟨g,i * 4+3,none⟩=some (.int .i64 m.2.2.2):=by
  have hmk:∀ j,j < 4→(mksV ms)[i * 4+j]?=(mkV m)[j]?:=fun j hj=>mksV_get hm hj
  exact ⟨h _ _ (by have:=hmk 0 (by decide); simpa [mkV] using this),h _ _ (by have:=hmk 1 (by decide); simpa [mkV] using this),h _ _ (by have:=hmk 2 (by decide); simpa [mkV] using this),h _ _ (by have:=hmk 3 (by decide); simpa [mkV] using this)⟩
def IntsX (x:World) (v:Value) (ps:List Int):Prop:=∃ (pa:Option Addr) (pb po cap:Nat),v=.slice pa ps.length cap∧(ps≠[]→pa=some ⟨pb,po,none⟩)∧∀ i p,ps[i]?=some p→x.cell? ⟨pb,po+i,none⟩=some (.int .i64 p)
theorem Game.picks_inv {A:Type} {G:Game A} {I:A→Prop} (hp:∀ a t k,t < G.n→G.alive a t=true→I a→I (G.pick a t k)) (hn:0 < G.n):∀ (l:List Int) (a:A × Int),I a.1→I (G.picks a l).1
  | [],a,h=>h
  | p :: l,a,h=>by
    have h1:I (G.pk a (pickIx p G.n)).1:=by
      unfold Game.pk
      dsimp only
      cases e:G.alive a.1 (pickIx p G.n) with
      | true=>rw [if_pos rfl]; exact hp _ _ _ (pickIx_lt p hn) e h
      | false=>rw [if_neg (by simp)]; exact h
    exact Game.picks_inv hp hn l _ h1
theorem Game.Drn.inv {A:Type} {G:Game A} {I:A→Prop} (hp:∀ a t k,t < G.n→G.alive a t=true→I a→I (G.pick a t k)) {a z:A × Int} {x:Nat} (h:G.Drn a x z):x < G.n→I a.1→I z.1:=by
  induction h with
  | stop h=>exact fun _ h=>h
  | @go a x t z h d ih =>
    intro hx hI
    obtain ⟨h1,h2⟩:=nx_some hx h
    exact ih (Nat.mod_lt _ (by omega)) (hp _ _ _ h1 h2 hI)
theorem Game.Run.inv {A:Type} {G:Game A} {I:A→Prop} (hp:∀ a t k,t < G.n→G.alive a t=true→I a→I (G.pick a t k)) {picks:List Int} {drain:Bool} {a:A} {z:A × Int} (h:G.Run picks drain a z) (h0:I a):I z.1:=by
  unfold Game.Run at h
  by_cases hn:G.n=0
  · rw [if_pos hn] at h
    rw [h]; exact h0
  · rw [if_neg hn] at h
    have h1:=Game.picks_inv hp (by omega) picks (a,0) h0
    cases drain with
    | true =>
      simp only [if_true] at h
      exact h.inv hp (by omega) h1
    | false =>
      simp only [Bool.false_eq_true,if_false] at h
      rw [h]; exact h1
abbrev RPL:=(Nat→Nat) × (Nat→Int)
def rpIx (ts:List (List Op3)) (r:RPL) (t:Nat):Nat:=aftI (ts.getD t []) (r.1 t)
def rpOp (ts:List (List Op3)) (r:RPL) (t:Nat):Op3:=opAt ts t (rpIx ts r t)
def rpStep (n:Nat) (ts:List (List Op3)) (r:RPL) (t:Nat):RPL :=
  (upd r.1 t (rpIx ts r t+1),upd r.2 (pickIx (rpOp ts r t).2.1 n) (doW (r.2 (pickIx (rpOp ts r t).2.1 n)) (rpOp ts r t).1 (rpOp ts r t).2.2).1)
def rpl (n:Nat) (ts:List (List Op3)) (ms:List Mk):RPL:=ms.foldl (fun r m=>rpStep n ts r m.1.toNat) (fun _=>0,fun _=>0)
theorem rpl_snoc (n:Nat) (ts:List (List Op3)) (ms:List Mk) (m:Mk):rpl n ts (ms ++ [m])=rpStep n ts (rpl n ts ms) m.1.toNat:=by simp [rpl,List.foldl_append]
def okLm (n:Nat) (ts:List (List Op3)) (r:RPL) (m:Mk):Prop :=
  ∃ t,t < ts.length∧m.1=(t:Int)∧rpIx ts r t < lenOf ts t∧r.1 t≤lenOf ts t∧m.2.2.2=(doW (r.2 (pickIx (rpOp ts r t).2.1 n)) (rpOp ts r t).1 (rpOp ts r t).2.2).2
def okLs (n:Nat) (ts:List (List Op3)) (ms:List Mk):Prop:=∀ i m,ms[i]?=some m→okLm n ts (rpl n ts (ms.take i)) m
structure GL (n:Nat) (ts:List (List Op3)) (a:WA):Prop where
  ok:okLs n ts a.ms
  ix:∀ t,a.ix t=rpIx ts (rpl n ts a.ms) t
  le:∀ t,(rpl n ts a.ms).1 t≤lenOf ts t
  vs:a.vs=(rpl n ts a.ms).2
  len:a.ms.length+wordW ts a≤sumTo ts.length (lenOf ts)
theorem gl_0 (n:Nat) (ts:List (List Op3)):GL n ts (wa0 ts):=by
  refine ⟨fun i m h=>by simp [wa0] at h,fun t=>rfl,fun t=>Nat.zero_le _,rfl,?_⟩
  show 0+wordW ts (wa0 ts)≤_
  rw [Nat.zero_add]
  unfold wordW
  have:∀ N,sumTo N (fun t=>lenOf ts t - (wa0 ts).ix t)≤sumTo N (lenOf ts):=fun N=>by
    induction N with
    | zero=>exact Nat.le_refl _
    | succ N ih=>exact Nat.add_le_add ih (Nat.sub_le _ _)
  exact this _
theorem GL.pick {n:Nat} {ts:List (List Op3)} {a:WA} {t:Nat} {k:Int} (h:GL n ts a) (ht:t < ts.length) (ha:(wordG n ts).alive a t=true):GL n ts ((wordG n ts).pick a t k):=by
  have ha':a.ix t < lenOf ts t:=of_decide_eq_true ha
  have hix:=h.ix t
  have hop:opAt ts t (a.ix t)=rpOp ts (rpl n ts a.ms) t:=by unfold rpOp; rw [hix]
  obtain ⟨m,hm⟩:∃ m:Mk,m=((t:Int),k,(a.cnt t:Int),(doW (a.vs (pickIx (opAt ts t (a.ix t)).2.1 n)) (opAt ts t (a.ix t)).1 (opAt ts t (a.ix t)).2.2).2):=⟨_,rfl⟩
  have e1:((wordG n ts).pick a t k).ms=a.ms ++ [m]:=by rw [hm]; rfl
  have e2:rpl n ts ((wordG n ts).pick a t k).ms=rpStep n ts (rpl n ts a.ms) t:=by
    rw [e1,rpl_snoc,hm]
    simp
  have hw:=wordW_pick (n:=n) a t k ht ha
  refine ⟨?_,fun t'=>?_,fun t'=>?_,?_,?_⟩
  · rw [e1]
    intro i x hx
    rcases Nat.lt_or_ge i a.ms.length with z | z
    · rw [List.getElem?_append_left z] at hx
      rw [List.take_append_of_le_length (Nat.le_of_lt z)]
      exact h.ok i x hx
    · have hi:i=a.ms.length:=by
        have:=(List.getElem?_eq_some_iff.1 hx).1
        simp at this; omega
      subst hi
      rw [List.getElem?_append_right (Nat.le_refl _)] at hx
      simp at hx
      subst hx
      rw [List.take_left']
      · refine ⟨t,ht,by rw [hm],by rw [← hix]; exact ha',h.le t,?_⟩
        rw [hm]
        dsimp only
        rw [hop,h.vs]
      · rfl
  · rw [e2]
    show upd a.ix t (aftI (ts.getD t []) (a.ix t+1)) t'=rpIx ts (rpStep n ts (rpl n ts a.ms) t) t'
    unfold rpIx rpStep
    dsimp only
    by_cases e:t'=t
    · subst e
      rw [upd_same,upd_same,← hix]
    · rw [upd_ne _ _ e,upd_ne _ _ e]
      exact h.ix t'
  · rw [e2]
    show upd (rpl n ts a.ms).1 t (rpIx ts (rpl n ts a.ms) t+1) t'≤_
    by_cases e:t'=t
    · subst e
      rw [upd_same,← hix]
      omega
    · rw [upd_ne _ _ e]
      exact h.le t'
  · rw [e2]
    show upd a.vs _ _=upd (rpl n ts a.ms).2 _ _
    rw [hop,h.vs]
  · rw [e1]
    have:=h.len
    simp only [List.length_append,List.length_cons,List.length_nil]
    omega
theorem linear_ok {n:Nat} {ts:List (List Op3)} {picks:List Int} {drain:Bool} {z:WA × Int} (h:(wordG n ts).Run picks drain (wa0 ts) z):GL n ts z.1 :=
  h.inv (I:=GL n ts) (fun a t k h1 h2 h3=>h3.pick h1 h2) (gl_0 n ts)
theorem sameInts_wp {x:World} {av bv:Value} {ps:List Int} (ha:IntsX x av ps) (hb:IntsX x bv ps) (hpl:ps.length≤1000000000000) :
    Calls Try.prog 46 #[av,bv] x fun e x'=>e=.returned (.bool true)∧∃ k,x'=x.drewN k:=by
  obtain ⟨A,g,go,cap,rfl,ha1,ha2⟩:=ha
  obtain ⟨A',g',go',cap',rfl,hb1,hb2⟩:=hb
  replace ha2:=Lib.hid ha2
  replace hb2:=Lib.hid hb2
  go_enter Try.func46,Try.ntmps46
  go_wp2
  go_loopw [5] (fun v wr=>∃ i:Nat,v=.int .i64 (i:Int)∧i≤ps.length∧∃ k,wr=x.drewN k) (fun v _=>ps.length+1 - natOfV v)
  case atStart=>exact ⟨0,rfl,Nat.zero_le _,0,rfl⟩
  case round =>
    obtain ⟨i,rfl,hi,k,rfl⟩:=hrel
    by_cases hlt:i < ps.length
    · have hne:ps≠[]:=fun e=>by rw [e] at hlt; exact absurd hlt (Nat.not_lt_zero _)
      obtain rfl:=ha1 hne
      obtain rfl:=hb1 hne
      obtain ⟨p,hp⟩:∃ p,ps[i]?=some p:=⟨_,List.getElem?_eq_getElem hlt⟩
      have a1:=ha2.out i p hp
      have b1:=hb2.out i p hp
      have g1:(i:Int) < (ps.length:Int):=by omega
      have g2:(0:Int)≤(i:Int):=by omega
      have hiw:IntKind.i64.wrap ((i:Int)+1)=((i+1:Nat):Int):=by rw [IntKind.wrap_i64]; omega
      go_wp2
      go_quiet (fail)
      go_wp2
      exact ⟨⟨i + 1, by rw [Int.natCast_add]; rfl, by omega, _, rfl⟩, by have e : natOfV (.int .i64 ((i : Int) + 1)) = i + 1 := by simp [natOfV]
                                                                         rw [e]; simp [natOfV]; omega⟩
    · obtain rfl:i=ps.length:=by omega
      have g1:¬ (ps.length:Int) < (ps.length:Int):=by omega
      go_wp2
      go_ret
      exact ⟨rfl,k,rfl⟩
noncomputable def lnB:Code:=Try.f10.body.getD .skip
noncomputable def lnS0:Code:=match lnB with | .seq x _=>x | _=>.skip
noncomputable def lnT1:Code:=match lnB with | .seq _ x=>x | _=>.skip
noncomputable def lnS1:Code:=match lnT1 with | .seq x _=>x | _=>.skip
noncomputable def lnT2:Code:=match lnT1 with | .seq _ x=>x | _=>.skip
noncomputable def lnS2:Code:=match lnT2 with | .seq x _=>x | _=>.skip
noncomputable def lnT3:Code:=match lnT2 with | .seq _ x=>x | _=>.skip
noncomputable def lnS3:Code:=match lnT3 with | .seq x _=>x | _=>.skip
noncomputable def lnT5:Code:=match lnT3 with | .seq _ x=>x | _=>.skip
noncomputable def lnS5:Code:=match lnT5 with | .seq x _=>x | _=>.skip
noncomputable def lnT6:Code:=match lnT5 with | .seq _ x=>x | _=>.skip
noncomputable def lnS6:Code:=match lnT6 with | .seq x _=>x | _=>.skip
noncomputable def lnT7:Code:=match lnT6 with | .seq _ x=>x | _=>.skip
noncomputable def lnS7:Code:=match lnT7 with | .seq x _=>x | _=>.skip
noncomputable def lnT24:Code:=match lnT7 with | .seq _ x=>x | _=>.skip
noncomputable def lnS24:Code:=match lnT24 with | .seq x _=>x | _=>.skip
noncomputable def lnT25:Code:=match lnT24 with | .seq _ x=>x | _=>.skip
noncomputable def lnS25:Code:=match lnT25 with | .seq x _=>x | _=>.skip
theorem ln_parts:lnB=.seq lnS0 lnT1∧lnT1=.seq lnS1 lnT2∧lnT2=.seq lnS2 lnT3∧lnT3=.seq lnS3 lnT5∧lnT5=.seq lnS5 lnT6∧lnT6=.seq lnS6 lnT7∧lnT7=.seq lnS7 lnT24∧lnT24=.seq lnS24 lnT25∧lnT25=.seq lnS25 .ret:=⟨by kernel_rfl,by kernel_rfl,by kernel_rfl,by kernel_rfl,by kernel_rfl,by kernel_rfl,by kernel_rfl,by kernel_rfl,by kernel_rfl⟩
structure LinW (x wr:World) (ab N:Nat) (at':Nat→Nat) (hb n:Nat) (vs:Nat→Int):Prop where
  size:x.heap.size≤wr.heap.size
  old:∀ b,b < x.heap.size→b≠ab→b≠hb→wr.heap[b]?=x.heap[b]?
  rowA:wr.heap[ab]?=some (.cells ((List.range N).map fun t=>Value.int .i64 (at' t:Int)).toArray 3)
  rowH:wr.heap[hb]?=some (.cells ((List.range n).map fun j=>Value.int .i64 (vs j)).toArray 2)
theorem lrow_set {α:Type} {n i:Nat} {v:Nat→α} {F:α→Value} {u:α} {ty:TypeId} (hi:i < n):Obj.cells (((List.range n).map fun j=>F (v j)).toArray.setIfInBounds i (F u)) ty=.cells ((List.range n).map fun j=>F (upd v i u j)).toArray ty:=by
  rw [List.setIfInBounds_toArray]
  congr 2
  apply List.ext_getElem?
  intro j
  by_cases e:i=j
  · subst e
    rw [List.getElem?_set_self (by simpa using hi),List.getElem?_map,List.getElem?_range hi]
    simp [upd_same]
  · rw [List.getElem?_set_ne e]
    by_cases hj:j < n
    · simp [hj,upd_ne _ _ (Ne.symm e)]
    · simp [hj]
section
variable {x wr:World} {ab N hb n:Nat} {at':Nat→Nat} {vs:Nat→Int}
theorem LinW.cellA (h:LinW x wr ab N at' hb n vs) {t:Nat} (ht:t < N):wr.cell? ⟨ab,t,none⟩=some (.int .i64 (at' t:Int)):=obj_cell h.rowA (by simp [ht])
theorem LinW.cellH (h:LinW x wr ab N at' hb n vs) {j:Nat} (hj:j < n):wr.cell? ⟨hb,j,none⟩=some (.int .i64 (vs j)):=obj_cell h.rowH (by simp [hj])
theorem LinW.vis (h:LinW x wr ab N at' hb n vs) {a:Addr} {v:Value} (h1:x.cell? a=some v) (h2:a.block≠ab) (h3:a.block≠hb):wr.cell? a=some v :=
  (World.cell?_of_block (h.old a.block (World.block_lt_of_cell? x _ h1) h2 h3)).trans h1
theorem LinW.drew (h:LinW x wr ab N at' hb n vs) (k:Nat):LinW x (wr.drewN k) ab N at' hb n vs:=⟨h.size,h.old,h.rowA,h.rowH⟩
theorem LinW.alloc (h:LinW x wr ab N at' hb n vs) (o:Obj):LinW x (wr.alloc o) ab N at' hb n vs:=by
  have l1:=(Array.getElem?_eq_some_iff.1 h.rowA).1
  have l2:=(Array.getElem?_eq_some_iff.1 h.rowH).1
  have hs:=h.size
  exact ⟨by rw [alloc_size]; omega,fun b hb h1 h2=>(alloc_old (by omega)).trans (h.old b hb h1 h2),(alloc_old l1).trans h.rowA,(alloc_old l2).trans h.rowH⟩
theorem LinW.push {w':World} {o:Obj} (h:LinW x wr ab N at' hb n vs) (e:w'.heap=wr.heap.push o):LinW x w' ab N at' hb n vs:=by
  have l1:=(Array.getElem?_eq_some_iff.1 h.rowA).1
  have l2:=(Array.getElem?_eq_some_iff.1 h.rowH).1
  have hs:=h.size
  have old:∀ b,b < wr.heap.size→w'.heap[b]?=wr.heap[b]?:=fun b hb=>by rw [e,Array.getElem?_push,if_neg (by omega)]
  exact ⟨by rw [e,Array.size_push]; omega,fun b hb h1 h2=>(old b (by omega)).trans (h.old b hb h1 h2),(old ab l1).trans h.rowA,(old hb l2).trans h.rowH⟩
theorem LinW.setA (h:LinW x wr ab N at' hb n vs) (hne:ab≠hb) {t j:Nat} (ht:t < N):LinW x (wr.setCell ⟨ab,t,none⟩ (.int .i64 (j:Int))) ab N (upd at' t j) hb n vs:=by
  refine ⟨by have:=h.size; simpa [World.setCell] using this,fun b hb h1 h2=>by rw [heap_setCell_ne (a:=⟨ab,t,none⟩) (fun e=>h1 e.symm)]; exact h.old b hb h1 h2,?_,by rw [heap_setCell_ne (a:=⟨ab,t,none⟩) hne]; exact h.rowH⟩
  have e:(wr.setCell ⟨ab,t,none⟩ (.int .i64 (j:Int))).heap[ab]?=_:=heap_set (a:=⟨ab,t,none⟩) (w:=wr) rfl h.rowA
  rw [e]
  exact congrArg some (lrow_set (F:=fun (q:Nat)=>Value.int .i64 (q:Int)) ht)
theorem LinW.setH (h:LinW x wr ab N at' hb n vs) (hne:ab≠hb) {j:Nat} {v:Int} (hj:j < n):LinW x (wr.setCell ⟨hb,j,none⟩ (.int .i64 v)) ab N at' hb n (upd vs j v):=by
  refine ⟨by have:=h.size; simpa [World.setCell] using this,fun b hb' h1 h2=>by rw [heap_setCell_ne (a:=⟨hb,j,none⟩) (fun e=>h2 e.symm)]; exact h.old b hb' h1 h2,by rw [heap_setCell_ne (a:=⟨hb,j,none⟩) (Ne.symm hne)]; exact h.rowA,?_⟩
  have e:(wr.setCell ⟨hb,j,none⟩ (.int .i64 v)).heap[hb]?=_:=heap_set (a:=⟨hb,j,none⟩) (w:=wr) rfl h.rowH
  rw [e]
  exact congrArg some (lrow_set (F:=fun (q:Int)=>Value.int .i64 q) hj)
end
def linF:FuncId→Bool:=fun f=>f == 26 || f == 49
theorem closed_lin:Closed Try.prog linF:=by
  have hcase:∀ f,linF f=true→f=26∨f=49:=fun f hf=>by
    simp only [linF,Bool.or_eq_true,beq_iff_eq] at hf
    exact hf
  refine ⟨fun f hf=>?_,fun f fn c hf hfn hb=>?_⟩
  · rcases hcase f hf with rfl | rfl
    · exact ⟨Try.f26,Try.func26,by kernel_rfl,.inl (by rfl)⟩
    · exact ⟨Try.f49,Try.func49,by kernel_rfl,.inl (by rfl)⟩
  · rcases hcase f hf with rfl | rfl
    · rw [Try.func26] at hfn
      obtain rfl:=Option.some.inj hfn
      have h2:Try.f26.body=some (Try.f26.body.getD .skip):=by rfl
      rw [h2] at hb
      obtain rfl:=Option.some.inj hb
      show quietCode Try.prog linF (Try.f26.body.getD .skip)=true
      kernel_rfl
    · rw [Try.func49] at hfn
      obtain rfl:=Option.some.inj hfn
      have h2:Try.f49.body=some (Try.f49.body.getD .skip):=by rfl
      rw [h2] at hb
      obtain rfl:=Option.some.inj hb
      show quietCode Try.prog linF (Try.f49.body.getD .skip)=true
      kernel_rfl
noncomputable def lnIn:Code:=match lnS7 with | .seq _ (.block _ (.loop (.seq _ (.seq (.block _ x) _))))=>x | _=>.skip
noncomputable def lnR17:Code:=match lnIn with | .seq _ (.seq _ (.seq _ (.seq _ (.seq x _))))=>x | _=>.skip
theorem lr17_wp {f:Nat→Value} {x:World} {ab t ba bo la lo N lc j nt cap:Nat} {k0 k1 k2:Int} {Q:Exit→Act→World→Prop} (h1:f 1=.slice (some ⟨ba,bo,none⟩) nt cap) (h13:f 13=.slice (some ⟨ab,0,none⟩) nt nt) (h15:f 15=.int .i64 (t:Int)) (ht:t < nt) (hj:j < N)
    (hS0:x.cell? ⟨ab,t,none⟩=some (.int .i64 (j:Int))∧x.cell? ⟨ba,bo+t,none⟩=some (.slice (some ⟨la,lo,none⟩) N lc)∧x.cell? ⟨la,lo+j * 3,none⟩=some (.int .i64 k0)∧x.cell? ⟨la,lo+j * 3+1,none⟩=some (.int .i64 k1)∧x.cell? ⟨la,lo+j * 3+2,none⟩=some (.int .i64 k2))
    (hQ:∀ T' x',T'.size=180→(∀ q,q < 57→q≠16→T'[q]?=some (f q))→(∀ q,q < 7→T'[173+q]?=some (f (173+q)))→T'[16]?=some (.pointer (some ⟨x.heap.size,0,none⟩))→x'.heap=x.heap.push (.cells #[.int .i64 k0,.int .i64 k1,.int .i64 k2] 34)→Q .normal ⟨T',[]⟩ x') :
    lnR17.wp Try.prog Q ⟨(List.map f (List.range 180)).toArray,[]⟩ x:=by
  have gt1:(t:Int) < (nt:Int):=by omega
  have gt0:(0:Int)≤(t:Int):=by omega
  have gj1:(j:Int) < (N:Int):=by omega
  have gj0:(0:Int)≤(j:Int):=by omega
  obtain ⟨c1,c2,c3,c4,c5⟩:=hS0
  replace hQ:=Lib.hid hQ
  simp only [List.range,List.range.loop,List.map_cons,List.map_nil,h1,h13,h15]
  simp only [lnR17,lnIn,lnS7,lnT7,lnT6,lnT5,lnT3,lnT2,lnT1,lnB,Try.f10,Option.getD_some]
  refine wp_region_noPanic ?_
  refine region_last (n:=11) (by kernel_rfl) rfl (by kernel_rfl) ?_
  simp only [nopOf,List.setIfInBounds_toArray,List.set_cons_zero,List.set_cons_succ,List.getElem_toArray,List.getElem_cons_succ,List.getElem_cons_zero,List.size_toArray,List.length_cons,List.length_nil,Nat.zero_add,Nat.reduceAdd]
  have hS:x.drew.cell? ⟨ab,t,none⟩=some (.int .i64 (j:Int))∧x.drew.cell? ⟨ba,bo+t,none⟩=some (.slice (some ⟨la,lo,none⟩) N lc)∧x.drew.cell? ⟨la,lo+j * 3,none⟩=some (.int .i64 k0)∧x.drew.cell? ⟨la,lo+j * 3+1,none⟩=some (.int .i64 k1)∧x.drew.cell? ⟨la,lo+j * 3+2,none⟩=some (.int .i64 k2):=⟨c1,c2,c3,c4,c5⟩
  refine wpAny_of_held (S:=fun W=>W.cell? ⟨ab,t,none⟩=some (.int .i64 (j:Int))∧W.cell? ⟨ba,bo+t,none⟩=some (.slice (some ⟨la,lo,none⟩) N lc)∧W.cell? ⟨la,lo+j * 3,none⟩=some (.int .i64 k0)∧W.cell? ⟨la,lo+j * 3+1,none⟩=some (.int .i64 k1)∧W.cell? ⟨la,lo+j * 3+2,none⟩=some (.int .i64 k2)) _ _ _ _ ?_
  refine wpAnyH_take (i:=0) (v:=.slice (some ⟨ba,bo,none⟩) nt cap) rfl (by kernel_rfl) (by kernel_rfl) (by kernel_rfl) (fun _ _ _ h=>h) (Or.inl ⟨by rfl,fun w hSw=>by (obtain ⟨s1,s2,s3,s4,s5⟩:=hSw; go_simp)⟩) hS ?_
  simp only [Act.put,List.setIfInBounds_toArray,List.set_cons_zero,List.set_cons_succ,List.getElem_toArray,List.getElem_cons_succ,List.getElem_cons_zero]
  refine wpAnyH_take (i:=1) (v:=.int .i64 (t:Int)) rfl (by kernel_rfl) (by kernel_rfl) (by kernel_rfl) (fun _ _ _ h=>h) (Or.inl ⟨by rfl,fun w hSw=>by (obtain ⟨s1,s2,s3,s4,s5⟩:=hSw; go_simp)⟩) hS ?_
  simp only [Act.put,List.setIfInBounds_toArray,List.set_cons_zero,List.set_cons_succ,List.getElem_toArray,List.getElem_cons_succ,List.getElem_cons_zero]
  refine wpAnyH_take (i:=2) (v:=.pointer (some ⟨ba,bo+t,none⟩)) rfl (by kernel_rfl) (by kernel_rfl) (by kernel_rfl) (fun _ _ _ h=>h) (Or.inl ⟨by rfl,fun w hSw=>by (obtain ⟨s1,s2,s3,s4,s5⟩:=hSw; go_simp)⟩) hS ?_
  simp only [Act.put,List.setIfInBounds_toArray,List.set_cons_zero,List.set_cons_succ,List.getElem_toArray,List.getElem_cons_succ,List.getElem_cons_zero]
  refine wpAnyH_take (i:=3) (v:=.slice (some ⟨la,lo,none⟩) N lc) rfl (by kernel_rfl) (by kernel_rfl) (by kernel_rfl) (fun _ _ _ h=>h) (Or.inl ⟨by rfl,fun w hSw=>by (obtain ⟨s1,s2,s3,s4,s5⟩:=hSw; go_simp)⟩) hS ?_
  simp only [Act.put,List.setIfInBounds_toArray,List.set_cons_zero,List.set_cons_succ,List.getElem_toArray,List.getElem_cons_succ,List.getElem_cons_zero]
  refine wpAnyH_take (i:=4) (v:=.slice (some ⟨ab,0,none⟩) nt nt) rfl (by kernel_rfl) (by kernel_rfl) (by kernel_rfl) (fun _ _ _ h=>h) (Or.inl ⟨by rfl,fun w hSw=>by (obtain ⟨s1,s2,s3,s4,s5⟩:=hSw; go_simp)⟩) hS ?_
  simp only [Act.put,List.setIfInBounds_toArray,List.set_cons_zero,List.set_cons_succ,List.getElem_toArray,List.getElem_cons_succ,List.getElem_cons_zero]
  refine wpAnyH_take (i:=5) (v:=.int .i64 (t:Int)) rfl (by kernel_rfl) (by kernel_rfl) (by kernel_rfl) (fun _ _ _ h=>h) (Or.inl ⟨by rfl,fun w hSw=>by (obtain ⟨s1,s2,s3,s4,s5⟩:=hSw; go_simp)⟩) hS ?_
  simp only [Act.put,List.setIfInBounds_toArray,List.set_cons_zero,List.set_cons_succ,List.getElem_toArray,List.getElem_cons_succ,List.getElem_cons_zero]
  refine wpAnyH_take (i:=6) (v:=.pointer (some ⟨ab,t,none⟩)) rfl (by kernel_rfl) (by kernel_rfl) (by kernel_rfl) (fun _ _ _ h=>h) (Or.inl ⟨by rfl,fun w hSw=>by (obtain ⟨s1,s2,s3,s4,s5⟩:=hSw; go_simp)⟩) hS ?_
  simp only [Act.put,List.setIfInBounds_toArray,List.set_cons_zero,List.set_cons_succ,List.getElem_toArray,List.getElem_cons_succ,List.getElem_cons_zero]
  refine wpAnyH_take (i:=7) (v:=.int .i64 (j:Int)) rfl (by kernel_rfl) (by kernel_rfl) (by kernel_rfl) (fun _ _ _ h=>h) (Or.inl ⟨by rfl,fun w hSw=>by (obtain ⟨s1,s2,s3,s4,s5⟩:=hSw; go_simp)⟩) hS ?_
  simp only [Act.put,List.setIfInBounds_toArray,List.set_cons_zero,List.set_cons_succ,List.getElem_toArray,List.getElem_cons_succ,List.getElem_cons_zero]
  refine wpAnyH_take (i:=8) (v:=.pointer (some ⟨la,lo+j * 3,none⟩)) rfl (by kernel_rfl) (by kernel_rfl) (by kernel_rfl) (fun _ _ _ h=>h) (Or.inl ⟨by rfl,fun w hSw=>by (obtain ⟨s1,s2,s3,s4,s5⟩:=hSw; go_simp)⟩) hS ?_
  simp only [Act.put,List.setIfInBounds_toArray,List.set_cons_zero,List.set_cons_succ,List.getElem_toArray,List.getElem_cons_succ,List.getElem_cons_zero]
  refine wpAnyH_take (i:=9) (v:=.agg #[.int .i64 k0,.int .i64 k1,.int .i64 k2]) rfl (by kernel_rfl) (by kernel_rfl) (by kernel_rfl) (fun _ _ _ h=>h) (Or.inl ⟨by rfl,fun w hSw=>by (obtain ⟨s1,s2,s3,s4,s5⟩:=hSw; go_simp)⟩) hS ?_
  simp only [Act.put,List.setIfInBounds_toArray,List.set_cons_zero,List.set_cons_succ,List.getElem_toArray,List.getElem_cons_succ,List.getElem_cons_zero]
  refine wpAnyH_ready (rs:=[10]) (by kernel_rfl) (by simp) (AllReadyH.cons rfl (fun K hK=>?_) AllReadyH.nil)
  go_simp
  have far:∀ (a:Addr) (v:Value) (o:Obj),x.cell? a=some v→(x.alloc o).drew.cell? a=some v:=fun a v o h=>(World.cell?_alloc_some x _ o (by rw [h]; rfl)).trans h
  refine hK.out _ _ ⟨far _ _ _ c1,far _ _ _ c2,far _ _ _ c3,far _ _ _ c4,far _ _ _ c5⟩ (fun _=>?_)
  clear hK K
  try simp only [Act.put,List.setIfInBounds_toArray,List.set_cons_zero,List.set_cons_succ,List.getElem_toArray,List.getElem_cons_succ,List.getElem_cons_zero]
  refine wpAnyH_ready (rs:=[11]) (by kernel_rfl) (by simp) (AllReadyH.cons rfl (fun K hK=>?_) AllReadyH.nil)
  go_simp
  refine hK.out _ _ ⟨far _ _ _ c1,far _ _ _ c2,far _ _ _ c3,far _ _ _ c4,far _ _ _ c5⟩ (fun _=>?_)
  clear hK K
  refine wpAnyH_done (by kernel_rfl) ?_ _
  unfold LastQ
  go_simp
  refine hQ.out _ _ (by simp) (fun q hq h16=>?_) (fun q hq=>?_) (by simp) ?_
  · match q,hq,h16 with
    | 16,_,h=>exact absurd rfl h
    | 0,_,_ | 1,_,_ | 2,_,_ | 3,_,_ | 4,_,_ | 5,_,_ | 6,_,_ | 7,_,_ | 8,_,_ | 9,_,_ | 10,_,_ | 11,_,_ | 12,_,_ | 13,_,_ | 14,_,_ | 15,_,_ | 17,_,_ | 18,_,_ | 19,_,_ | 20,_,_ | 21,_,_ | 22,_,_ | 23,_,_ | 24,_,_ | 25,_,_ | 26,_,_ | 27,_,_ | 28,_,_ | 29,_,_ | 30,_,_ | 31,_,_ | 32,_,_ | 33,_,_ | 34,_,_ | 35,_,_ | 36,_,_ | 37,_,_ | 38,_,_ | 39,_,_ | 40,_,_ | 41,_,_ | 42,_,_ | 43,_,_ | 44,_,_ | 45,_,_ | 46,_,_ | 47,_,_ | 48,_,_ | 49,_,_ | 50,_,_ | 51,_,_ | 52,_,_ | 53,_,_ | 54,_,_ | 55,_,_ | 56,_,_=>simp [h1,h13,h15]
    | q+57,hq,_=>exact absurd hq (by omega)
  · match q,hq with
    | 0,_ | 1,_ | 2,_ | 3,_ | 4,_ | 5,_ | 6,_=>simp
    | q+7,hq=>exact absurd hq (by omega)
  · rfl
theorem lr17_T {c:Code} (hcode:c=lnR17) {T:Array Value} {x:World} {ab t ba bo la lo N lc j nt cap:Nat} {k0 k1 k2:Int} {Q:Exit→Act→World→Prop} (hs:T.size=180) (h1:T[1]?=some (.slice (some ⟨ba,bo,none⟩) nt cap)) (h13:T[13]?=some (.slice (some ⟨ab,0,none⟩) nt nt)) (h15:T[15]?=some (.int .i64 (t:Int))) (ht:t < nt) (hj:j < N)
    (hS0:x.cell? ⟨ab,t,none⟩=some (.int .i64 (j:Int))∧x.cell? ⟨ba,bo+t,none⟩=some (.slice (some ⟨la,lo,none⟩) N lc)∧x.cell? ⟨la,lo+j * 3,none⟩=some (.int .i64 k0)∧x.cell? ⟨la,lo+j * 3+1,none⟩=some (.int .i64 k1)∧x.cell? ⟨la,lo+j * 3+2,none⟩=some (.int .i64 k2))
    (hQ:∀ T' x',T'.size=180→(∀ q,q < 57→q≠16→T'[q]?=T[q]?)→(∀ q,q < 7→T'[173+q]?=T[173+q]?)→T'[16]?=some (.pointer (some ⟨x.heap.size,0,none⟩))→x'.heap=x.heap.push (.cells #[.int .i64 k0,.int .i64 k1,.int .i64 k2] 34)→Q .normal ⟨T',[]⟩ x') :
    c.wp Try.prog Q ⟨T,[]⟩ x:=by
  subst hcode
  obtain ⟨f,hf,fz⟩:=arrfv T hs
  have e1:=fz 1 _ h1
  have e13:=fz 13 _ h13
  have e15:=fz 15 _ h15
  subst hf
  exact lr17_wp e1 e13 e15 ht hj hS0 (fun T' x' a1 a2 a2' a3 a4=>hQ T' x' a1 (fun q h1 h2=>by rw [a2 q h1 h2,arrf_get f (by omega)]) (fun q h1=>by rw [a2' q h1,arrf_get f (by omega)]) a3 a4)
set_option maxHeartbeats 8000000 in
theorem lin_loop {T:Array Value} {x:World} {ts:List (List Op3)} {ms:List Mk} {n ab hb ba bo cap mcap g:Nat} {ta A:Option Addr} {LA:Nat→Option Addr} {LC:Nat→Nat} {Q:Exit→Act→World→Prop} (hs:T.size=180)
    (t0:T[0]?=some (.int .i64 (n:Int))) (t1:T[1]?=some (.slice ta ts.length cap)) (t10:T[10]?=some (.slice A ms.length mcap)) (t12:T[12]?=some (.slice (some ⟨hb,0,none⟩) n n)) (t13:T[13]?=some (.slice (some ⟨ab,0,none⟩) ts.length ts.length))
    (hta:0 < ts.length→ta=some ⟨ba,bo,none⟩) (hA:0 < ms.length→A=some ⟨g,0,none⟩)
    (hts:∀ i l,ts[i]?=some l→x.cell? ⟨ba,bo+i,none⟩=some (.slice (LA i) l.length (LC i))∧(l≠[]→∃ la lo,LA i=some ⟨la,lo,none⟩∧la≠ab∧la≠hb∧∀ j op,l[j]?=some op→x.cell? ⟨la,lo+j * 3,none⟩=some (.int .i64 op.1)∧x.cell? ⟨la,lo+j * 3+1,none⟩=some (.int .i64 op.2.1)∧x.cell? ⟨la,lo+j * 3+2,none⟩=some (.int .i64 op.2.2)))
    (hms:∀ i u,(mksV ms)[i]?=some u→x.cell? ⟨g,i,none⟩=some u)
    (hab:x.heap[ab]?=some (.cells ((List.range ts.length).map fun _=>Value.int .i64 0).toArray 3)) (hhb:x.heap[hb]?=some (.cells ((List.range n).map fun _=>Value.int .i64 0).toArray 2)) (d0:ab≠hb) (d1:ba≠ab) (d2:ba≠hb) (d3:g≠ab) (d4:g≠hb)
    (hok:okLs n ts ms) (hn1:1≤n) (hn2:n≤1048576) (hN:ts.length≤8) (hml:ms.length≤1000000000000) (hll:∀ l ∈ ts,l.length≤1000000000000) (ho64:∀ l ∈ ts,∀ op ∈ l,I64 op.1∧I64 op.2.1∧I64 op.2.2)
    (hQ:∀ T' x',T'.size=180→(∀ j,j < 14→j≠8→T'[j]?=T[j]?)→LinW x x' ab ts.length (rpl n ts ms).1 hb n (rpl n ts ms).2→Q .normal ⟨T',[]⟩ x') :
    lnS7.wp Try.prog Q ⟨T,[]⟩ x:=by
  obtain ⟨f,hf,fz⟩:=arrfv T hs
  have e0:=fz 0 _ t0
  have e1:=fz 1 _ t1
  have e10:=fz 10 _ t10
  have e12:=fz 12 _ t12
  have e13:=fz 13 _ t13
  have hQ':∀ T' x',T'.size=180→(∀ j,j < 14→j≠8→T'[j]?=some (f j))→LinW x x' ab ts.length (rpl n ts ms).1 hb n (rpl n ts ms).2→Q .normal ⟨T',[]⟩ x':=fun T' x' a1 a2 a3=>hQ T' x' a1 (fun j hj h8=>by rw [a2 j hj h8,hf,arrf_get f (by omega)]) a3
  clear hQ fz t0 t1 t10 t12 t13 hs
  subst hf
  replace hQ':=Lib.hid hQ'
  have hlin0:LinW x x ab ts.length (fun _=>0) hb n (fun _=>0):=⟨Nat.le_refl _,fun _ _ _ _=>rfl,hab,hhb⟩
  replace hlin0:=Lib.hid hlin0
  clear hab hhb
  replace hts:=Lib.hid hts
  replace hms:=Lib.hid hms
  replace hok:=Lib.hid hok
  replace hll:=Lib.hid hll
  replace ho64:=Lib.hid ho64
  simp only [List.range,List.range.loop,List.map_cons,List.map_nil,e0,e1,e10,e12,e13]
  simp only [lnS7,lnT7,lnT6,lnT5,lnT3,lnT2,lnT1,lnB,Try.f10,Option.getD_some]
  go_wp2
  go_loopw [14] (fun v wr=>∃ i:Nat,v=.int .i64 (i:Int)∧i≤ms.length∧Hid (LinW x wr ab ts.length (rpl n ts (ms.take i)).1 hb n (rpl n ts (ms.take i)).2)) (fun v _=>ms.length+1 - natOfV v)
  case atStart=>exact ⟨0,rfl,Nat.zero_le _,Lib.hid hlin0.out⟩
  case round =>
    obtain ⟨i,rfl,hi,hlw⟩:=hrel
    by_cases hlt:i < ms.length
    · obtain rfl:=hA (by omega)
      obtain ⟨m,hm⟩:∃ m,ms[i]?=some m:=⟨_,List.getElem?_eq_getElem hlt⟩
      have hnext:rpl n ts (ms.take (i+1))=rpStep n ts (rpl n ts (ms.take i)) m.1.toNat:=by
        rw [List.take_add_one,hm]
        exact rpl_snoc _ _ _ _
      obtain ⟨t,ht,hmt,hq,hle,hmv⟩:=hok.out i m hm
      rw [hmt,Int.toNat_natCast] at hnext
      obtain rfl:=hta (by omega)
      obtain ⟨l,hl⟩:∃ l,ts[t]?=some l:=⟨_,List.getElem?_eq_getElem ht⟩
      have hgl:ts.getD t []=l:=getD_of hl
      have hlen:lenOf ts t=l.length:=by unfold lenOf; rw [hl]; rfl
      have hllt:=hll.out l (List.mem_of_getElem? hl)
      obtain ⟨t1,t2⟩:=hts.out t l hl
      rw [hlen] at hq hle
      have hne:l≠[]:=fun e=>by rw [e] at hq; exact absurd hq (Nat.not_lt_zero _)
      obtain ⟨la,lo,eLA,n1,n2,ops⟩:=t2 hne
      rw [eLA] at t1
      obtain ⟨r,hr⟩:∃ r,r=rpl n ts (ms.take i):=⟨_,rfl⟩
      rw [← hr] at hlw hnext hq hle hmv
      have hq':rpIx ts r t=aftI l (r.1 t):=by unfold rpIx; rw [hgl]
      obtain ⟨q,hqq⟩:∃ q,q=rpIx ts r t:=⟨_,rfl⟩
      obtain ⟨op,hop,hopC⟩:=aftI_op (l:=l) _ _ rfl (by rw [← hq']; exact hq)
      rw [← hq',← hqq] at hop
      have hrop:rpOp ts r t=op:=by unfold rpOp opAt; rw [← hqq,hgl,hop]; rfl
      rw [← hqq] at hq
      rw [hrop] at hmv
      unfold rpStep at hnext
      rw [hrop,← hqq] at hnext
      have hopm:=List.mem_of_getElem? hop
      obtain ⟨r1,r2,r3⟩:=ho64.out l (List.mem_of_getElem? hl) op hopm
      obtain ⟨k,hkk⟩:∃ k,k=pickIx op.2.1 n:=⟨_,rfl⟩
      have hkn:k < n:=by rw [hkk]; exact pickIx_lt _ (by omega)
      obtain ⟨m1,m2,m3,m4⟩:=MksAt.mark hms.out hm
      rw [hmt] at m1
      rw [hmv,← hkk] at m4
      rw [← hkk] at hnext
      have hqle:r.1 t≤q:=by rw [hqq,hq']; exact aftI_ge _ _
      have gi1:(i:Int) < (ms.length:Int):=by omega
      have gi0:(0:Int)≤(i:Int):=by omega
      have gt1:(t:Int) < (ts.length:Int):=by omega
      have gt0:(0:Int)≤(t:Int):=by omega
      have dt1:decide ((t:Int) < 0)=false:=decide_eq_false (by omega)
      have dt2:decide ((ts.length:Int)≤(t:Int))=false:=decide_eq_false (by omega)
      have iw:IntKind.i64.wrap ((i:Int)+1)=((i+1:Nat):Int):=by rw [IntKind.wrap_i64]; omega
      have cm1:=hlw.out.vis m1 d3 d4
      have cm4:=hlw.out.vis m4 d3 d4
      have hrnd:=fun W=>round_any op.2.1 n (by omega) (by omega) r2 W
      rw [← hkk] at hrnd
      have hafter:∀ wz,LinW x wz ab ts.length (upd r.1 t (q+1)) hb n (upd r.2 k (doW (r.2 k) op.1 op.2.2).1)→Hid (LinW x wz ab ts.length (rpl n ts (ms.take (i+1))).1 hb n (rpl n ts (ms.take (i+1))).2):=fun wz hz=>by rw [hnext]; exact Lib.hid hz
      replace hafter:=Lib.hid hafter
      replace hqq:=Lib.hid hqq
      replace hkk:=Lib.hid hkk
      replace hrop:=Lib.hid hrop
      replace hop:=Lib.hid hop
      replace hl:=Lib.hid hl
      replace hmt:=Lib.hid hmt
      replace hm:=Lib.hid hm
      replace hq':=Lib.hid hq'
      replace hr:=Lib.hid hr
      replace hmv:=Lib.hid hmv
      replace hgl:=Lib.hid hgl
      replace hlen:=Lib.hid hlen
      replace eLA:=Lib.hid eLA
      replace ops:=Lib.hid ops
      clear hnext t2
      go_wp2
      go_loopw [] (fun wr2=>∃ j:Nat,r.1 t≤j∧j≤q∧Hid (aftI l j=q)∧Hid (LinW x wr2 ab ts.length (upd r.1 t j) hb n r.2)) (fun wr2=>q+1 - natOfV ((wr2.cell? ⟨ab,t,none⟩).getD undef))
      case atStart =>
        refine ⟨r.1 t,Nat.le_refl _,hqle,Lib.hid (by rw [hqq.out,hq'.out]),Lib.hid ?_⟩
        have e:upd r.1 t (r.1 t)=r.1:=by
          funext z
          by_cases e:z=t
          · subst e; rw [upd_same]
          · rw [upd_ne _ _ e]
        rw [e]
        exact hlw.out
      case round =>
        obtain ⟨j,hj1,hj2,hj3,hlj⟩:=hrel
        have hjl:j < l.length:=by omega
        obtain ⟨oj,hoj⟩:∃ oj,l[j]?=some oj:=⟨_,List.getElem?_eq_getElem hjl⟩
        obtain ⟨p1,p2,p3⟩:=ops.out j oj hoj
        have ca:=hlj.out.cellA ht
        rw [upd_same] at ca
        have ct:=hlj.out.vis t1 d1 d2
        have cp1:=hlj.out.vis p1 n1 n2
        have cp2:=hlj.out.vis p2 n1 n2
        have cp3:=hlj.out.vis p3 n1 n2
        have gj1:(j:Int) < (l.length:Int):=by omega
        have gj0:(0:Int)≤(j:Int):=by omega
        have dj:decide ((j:Int) < (l.length:Int))=true:=decide_eq_true gj1
        have dj2:decide (j < l.length)=true:=decide_eq_true hjl
        have dj3:decide ((l.length:Int)≤(j:Int))=false:=decide_eq_false (by omega)
        have dj4:decide (l.length≤j)=false:=decide_eq_false (by omega)
        have jw:IntKind.i64.wrap ((j:Int)+1)=((j+1:Nat):Int):=by rw [IntKind.wrap_i64]; omega
        have za:∀ kk:Nat,(wr.drewN kk).frozen? ⟨ab,t,none⟩=false:=fun kk=>obj_thaw hlj.out.rowA t
        have hset:∀ kk:Nat,LinW x ((wr.drewN kk).setCell ⟨ab,t,none⟩ (.int .i64 ((j+1:Nat):Int))) ab ts.length (upd r.1 t (j+1)) hb n r.2:=fun kk=>by
          have:=(hlj.out.drew kk).setA d0 (j:=j+1) ht
          have e:upd (upd r.1 t j) t (j+1)=upd r.1 t (j+1):=by
            funext z
            by_cases e:z=t
            · subst e; rw [upd_same,upd_same]
            · rw [upd_ne _ _ e,upd_ne _ _ e,upd_ne _ _ e]
          rw [e] at this
          exact this
        replace hset:=Lib.hid hset
        have hoj':=hoj
        replace hoj:=Lib.hid hoj
        cases hC:isC oj.1 with
        | false =>
          have hjq:j < q:=by
            rcases Nat.lt_or_ge j q with z | z
            · exact z
            · have e:j=q:=by omega
              subst e
              have:=hop.out
              rw [hoj'] at this
              cases this
              rw [hopC] at hC
              cases hC
          have hnx:aftI l (j+1)=q:=by rw [← aftI_skip hoj' hC]; exact hj3.out
          clear hoj'
          replace hnx:=Lib.hid hnx
          have hfin:∀ kk:Nat,∃ j':Nat,r.1 t≤j'∧j'≤q∧Hid (aftI l j'=q)∧Hid (LinW x ((wr.drewN kk).setCell ⟨ab,t,none⟩ (.int .i64 ((j+1:Nat):Int))) ab ts.length (upd r.1 t j') hb n r.2):=fun kk=>⟨j+1,by omega,by omega,hnx,Lib.hid (hset.out kk)⟩
          have hmsr:∀ kk:Nat,q+1 - natOfV (((((wr.drewN kk).setCell ⟨ab,t,none⟩ (.int .i64 ((j+1:Nat):Int))).cell? ⟨ab,t,none⟩).getD undef)) < q+1 - natOfV ((wr.cell? ⟨ab,t,none⟩).getD undef):=fun kk=>by
            have e1:=(hset.out kk).cellA ht
            rw [upd_same] at e1
            rw [e1,ca]
            show q+1 - ((j+1:Nat):Int).toNat < q+1 - (j:Int).toNat
            rw [Int.toNat_natCast,Int.toNat_natCast]
            omega
          replace hfin:=Lib.hid hfin
          replace hmsr:=Lib.hid hmsr
          by_cases hk1:oj.1 < 1
          · have d1':decide (oj.1 < 1)=true:=decide_eq_true hk1
            go_wp2_with fail
            go_quiet (fail)
            go_wp2
            exact ⟨hfin.out _,hmsr.out _⟩
          · have d1':decide (oj.1 < 1)=false:=decide_eq_false hk1
            have d2':decide (4 < oj.1)=true:=decide_eq_true (by
              unfold isC at hC
              simp only [Bool.and_eq_false_iff,decide_eq_false_iff_not] at hC
              omega)
            go_wp2_with fail
            go_quiet (fail)
            go_wp2
            exact ⟨hfin.out _,hmsr.out _⟩
        | true =>
          have hjq:j=q:=by rw [← hj3.out]; exact (aftI_call hoj' hC).symm
          have hoo:oj=op:=by
            have:=hop.out
            rw [← hjq,hoj'] at this
            exact Option.some.inj this
          subst hoo
          have hC1:1≤oj.1∧oj.1≤4:=by
            have:=hC
            unfold isC at this
            simp only [Bool.and_eq_true,decide_eq_true_eq] at this
            exact this
          have d1':decide (oj.1 < 1)=false:=decide_eq_false (by omega)
          have d2':decide (4 < oj.1)=false:=decide_eq_false (by omega)
          clear hoj' hset
          replace hlj:=Lib.hid hlj
          replace hjq:=Lib.hid hjq
          go_wp2_with fail
          go_quiet (fail)
          go_wp2_with fail
          have hlj1:=hlj.out.drew nq
          generalize wr.drewN nq=w1 at hlj1 ⊢
          have ca:=hlj1.cellA ht
          rw [upd_same] at ca
          have ct:=hlj1.vis t1 d1 d2
          have cp1:=hlj1.vis p1 n1 n2
          have cp2:=hlj1.vis p2 n1 n2
          have cp3:=hlj1.vis p3 n1 n2
          replace hlj1:=Lib.hid hlj1
          clear hlj
          go_quiet (fail)
          go_wp2_with fail
          have hlj2:=hlj1.out.drew nq
          generalize w1.drewN nq=w2 at hlj2 ⊢
          have ca:=hlj2.cellA ht
          rw [upd_same] at ca
          have ct:=hlj2.vis t1 d1 d2
          have cp1:=hlj2.vis p1 n1 n2
          have cp2:=hlj2.vis p2 n1 n2
          have cp3:=hlj2.vis p3 n1 n2
          replace hlj2:=Lib.hid hlj2
          clear hlj1
          refine lr17_T (ab:=ab) (ba:=ba) (bo:=bo) (cap:=cap) (nt:=ts.length) (t:=t) (la:=la) (lo:=lo) (N:=l.length) (lc:=LC t) (j:=j) (by kernel_rfl) (by simp) (by simp) (by simp) (by simp) ht hjl ⟨ca,ct,cp1,cp2,cp3⟩ (fun T3 w3 s3 j3 j3' v16 hw3=>?_)
          obtain ⟨f3,hf3,fz3⟩:=arrfv T3 s3
          have kk:∀ z u,z < 57→z≠16→_→f3 z=u:=fun z u h1 h2 (h3:(_:Array Value)[z]?=some u)=>fz3 z u ((j3 z h1 h2).trans h3)
          have k0:=kk 0 _ (by decide) (by decide) (by simp; rfl)
          have k1:=kk 1 _ (by decide) (by decide) (by simp; rfl)
          have k2:=kk 2 _ (by decide) (by decide) (by simp; rfl)
          have k3:=kk 3 _ (by decide) (by decide) (by simp; rfl)
          have k4:=kk 4 _ (by decide) (by decide) (by simp; rfl)
          have k5:=kk 5 _ (by decide) (by decide) (by simp; rfl)
          have k6:=kk 6 _ (by decide) (by decide) (by simp; rfl)
          have k7:=kk 7 _ (by decide) (by decide) (by simp; rfl)
          have k9:=kk 9 _ (by decide) (by decide) (by simp; rfl)
          have k10:=kk 10 _ (by decide) (by decide) (by simp; rfl)
          have k11:=kk 11 _ (by decide) (by decide) (by simp; rfl)
          have k12:=kk 12 _ (by decide) (by decide) (by simp; rfl)
          have k13:=kk 13 _ (by decide) (by decide) (by simp; rfl)
          have k14:=kk 14 _ (by decide) (by decide) (by simp; rfl)
          have k15:=kk 15 _ (by decide) (by decide) (by simp; rfl)
          have k20:=kk 20 _ (by decide) (by decide) (by simp; rfl)
          have k21:=kk 21 _ (by decide) (by decide) (by simp; rfl)
          have k22:=kk 22 _ (by decide) (by decide) (by simp; rfl)
          have k23:=kk 23 _ (by decide) (by decide) (by simp; rfl)
          have k24:=kk 24 _ (by decide) (by decide) (by simp; rfl)
          have k25:=kk 25 _ (by decide) (by decide) (by simp; rfl)
          have k26:=kk 26 _ (by decide) (by decide) (by simp; rfl)
          have k27:=kk 27 _ (by decide) (by decide) (by simp; rfl)
          have k28:=kk 28 _ (by decide) (by decide) (by simp; rfl)
          have k29:=kk 29 _ (by decide) (by decide) (by simp; rfl)
          have k30:=kk 30 _ (by decide) (by decide) (by simp; rfl)
          have k31:=kk 31 _ (by decide) (by decide) (by simp; rfl)
          have k32:=kk 32 _ (by decide) (by decide) (by simp; rfl)
          have k33:=kk 33 _ (by decide) (by decide) (by simp; rfl)
          have k34:=kk 34 _ (by decide) (by decide) (by simp; rfl)
          have k35:=kk 35 _ (by decide) (by decide) (by simp; rfl)
          have k36:=kk 36 _ (by decide) (by decide) (by simp; rfl)
          have k37:=kk 37 _ (by decide) (by decide) (by simp; rfl)
          have k38:=kk 38 _ (by decide) (by decide) (by simp; rfl)
          have k39:=kk 39 _ (by decide) (by decide) (by simp; rfl)
          have k40:=kk 40 _ (by decide) (by decide) (by simp; rfl)
          have k41:=kk 41 _ (by decide) (by decide) (by simp; rfl)
          have k42:=kk 42 _ (by decide) (by decide) (by simp; rfl)
          have k43:=kk 43 _ (by decide) (by decide) (by simp; rfl)
          have k44:=kk 44 _ (by decide) (by decide) (by simp; rfl)
          have k45:=kk 45 _ (by decide) (by decide) (by simp; rfl)
          have k46:=kk 46 _ (by decide) (by decide) (by simp; rfl)
          have k47:=kk 47 _ (by decide) (by decide) (by simp; rfl)
          have k48:=kk 48 _ (by decide) (by decide) (by simp; rfl)
          have k49:=kk 49 _ (by decide) (by decide) (by simp; rfl)
          have k50:=kk 50 _ (by decide) (by decide) (by simp; rfl)
          have k51:=kk 51 _ (by decide) (by decide) (by simp; rfl)
          have k52:=kk 52 _ (by decide) (by decide) (by simp; rfl)
          have k53:=kk 53 _ (by decide) (by decide) (by simp; rfl)
          have k54:=kk 54 _ (by decide) (by decide) (by simp; rfl)
          have k55:=kk 55 _ (by decide) (by decide) (by simp; rfl)
          have k56:=kk 56 _ (by decide) (by decide) (by simp; rfl)
          have k173:=fz3 173 _ ((j3' 0 (by decide)).trans (by simp; rfl))
          have k174:=fz3 174 _ ((j3' 1 (by decide)).trans (by simp; rfl))
          have k175:=fz3 175 _ ((j3' 2 (by decide)).trans (by simp; rfl))
          have k176:=fz3 176 _ ((j3' 3 (by decide)).trans (by simp; rfl))
          have k177:=fz3 177 _ ((j3' 4 (by decide)).trans (by simp; rfl))
          have k178:=fz3 178 _ ((j3' 5 (by decide)).trans (by simp; rfl))
          have k179:=fz3 179 _ ((j3' 6 (by decide)).trans (by simp; rfl))
          have k16:=fz3 16 _ v16
          clear kk fz3 j3 j3' v16 s3
          subst hf3
          have hlj3:=hlj2.out.push hw3
          obtain ⟨B,hB⟩:∃ B,B=w2.heap.size:=⟨_,rfl⟩
          rw [← hB] at k16
          have hBo:w3.heap[B]?=some (.cells #[.int .i64 oj.1,.int .i64 oj.2.1,.int .i64 oj.2.2] 34):=by rw [hw3,Array.getElem?_push,if_pos hB]
          have b0:=obj_cell hBo (o:=0) rfl
          have b1:=obj_cell hBo (o:=1) rfl
          have b2:=obj_cell hBo (o:=2) rfl
          have chk:=hlj3.cellH hkn
          have ca3:=hlj3.cellA ht
          rw [upd_same] at ca3
          have cm43:=hlj3.vis m4 d3 d4
          clear hBo hw3 hlj2 ca ct cp1 cp2 cp3 cm1 cm4
          replace hB:=Lib.hid hB
          have gk1:(k:Int) < (n:Int):=by omega
          have gk0:(0:Int)≤(k:Int):=by omega
          obtain ⟨nv,hnv⟩:∃ nv,nv=(doW (r.2 k) oj.1 oj.2.2).1:=⟨_,rfl⟩
          obtain ⟨an,han⟩:∃ an,an=(doW (r.2 k) oj.1 oj.2.2).2:=⟨_,rfl⟩
          have hdo:∀ W:World,Calls Try.prog 49 #[.int .i64 (r.2 k),.int .i64 oj.1,.int .i64 oj.2.2] W fun e W'=>e=.returned (.tuple #[.int .i64 nv,.int .i64 an])∧W'=W:=fun W=>by rw [hnv,han]; exact do_any
          rw [← han] at cm43
          rw [← hnv] at hafter
          replace hnv:=Lib.hid hnv
          replace han:=Lib.hid han
          have hend:∀ kq:Nat,LinW x (((w3.drewN kq).setCell ⟨hb,k,none⟩ (.int .i64 nv)).setCell ⟨ab,t,none⟩ (.int .i64 ((j+1:Nat):Int))) ab ts.length (upd r.1 t (q+1)) hb n (upd r.2 k nv):=fun kq=>by
            have h1:=((hlj3.drew kq).setH d0 (v:=nv) hkn).setA d0 (j:=j+1) ht
            have e:upd (upd r.1 t j) t (j+1)=upd r.1 t (q+1):=by
              funext z
              by_cases e:z=t
              · subst e; rw [upd_same,upd_same,hjq.out]
              · rw [upd_ne _ _ e,upd_ne _ _ e,upd_ne _ _ e]
            rw [e] at h1
            exact h1
          have zh:∀ kq:Nat,(w3.drewN kq).frozen? ⟨hb,k,none⟩=false:=fun kq=>obj_thaw hlj3.rowH k
          have zt:∀ kq:Nat,((w3.drewN kq).setCell ⟨hb,k,none⟩ (.int .i64 nv)).frozen? ⟨ab,t,none⟩=false:=fun kq=>obj_thaw ((hlj3.drew kq).setH d0 (v:=nv) hkn).rowA t
          have ct3:∀ kq:Nat,((w3.drewN kq).setCell ⟨hb,k,none⟩ (.int .i64 nv)).cell? ⟨ab,t,none⟩=some (.int .i64 (j:Int)):=fun kq=>by
            have:=((hlj3.drew kq).setH d0 (v:=nv) hkn).cellA ht
            rw [upd_same] at this
            exact this
          replace hlj3:=Lib.hid hlj3
          replace hend:=Lib.hid hend
          simp only [List.range,List.range.loop,List.map_cons,List.map_nil,k0,k1,k2,k3,k4,k5,k6,k7,k9,k10,k11,k12,k13,k14,k15,k16,k20,k21,k22,k23,k24,k25,k26,k27,k28,k29,k30,k31,k32,k33,k34,k35,k36,k37,k38,k39,k40,k41,k42,k43,k44,k45,k46,k47,k48,k49,k50,k51,k52,k53,k54,k55,k56,k173,k174,k175,k176,k177,k178,k179]
          go_wp2_with fail
          refine Calls.mono (hrnd _) ?_
          rintro _ _ ⟨rfl,rfl⟩
          go_wp2_with fail
          go_quiet ((go_at_call 49; exact Calls.quiet_of_same (hdo _)))
          go_wp2
          refine ⟨⟨i+1,by rw [Int.natCast_add]; rfl,by omega,?_⟩,by simp [natOfV]; omega⟩
          exact hafter.out _ (hend.out _)
    · obtain rfl:i=ms.length:=by omega
      have gi1:¬ (ms.length:Int) < (ms.length:Int):=by omega
      rw [List.take_length] at hlw
      go_wp2
      refine hQ'.out _ _ (by simp) (fun j hj h8=>?_) hlw.out
      match j,hj,h8 with
      | 8,_,h=>exact absurd rfl h
      | 0,_,_ | 1,_,_ | 2,_,_ | 3,_,_ | 4,_,_ | 5,_,_ | 6,_,_ | 7,_,_ | 9,_,_ | 10,_,_ | 11,_,_ | 12,_,_ | 13,_,_=>simp [e0,e1,e10,e12,e13]
      | q+14,hq,_=>exact absurd hq (by omega)
end Go.Proofs.Ytimlbbleblijnaa.Co

namespace Go.Proofs.Ytimlbbleblijnaa.Co
open Go Go.Conc Go.RowKit
noncomputable def f7B:Code:=Try.f27.body.getD .skip
noncomputable def f7S0:Code:=match f7B with | .seq x _=>x | _=>.skip
noncomputable def f7S1:Code:=match f7B with | .seq _ (.seq x _)=>x | _=>.skip
noncomputable def f7T2:Code:=match f7B with | .seq _ (.seq _ x)=>x | _=>.skip
theorem f7_parts:f7B=.seq f7S0 (.seq f7S1 f7T2):=by kernel_rfl
noncomputable def xf7S0:Code:=f7S0
noncomputable def xf7T2:Code:=f7T2
theorem f7S1_wp {x:World} {Q:Exit→Act→World→Prop}
    (hQ:∀ T' x',T'.size=30→T'[1]?=some (.pointer (some ⟨x.heap.size,0,none⟩))→x'.heap=x.heap.push (.cells #[.int .i64 0] 46)→Q .normal ⟨T',[]⟩ x'):f7S1.wp Try.prog Q ⟨(Array.replicate 30 undef).setIfInBounds 0 (.bool false),[]⟩ x:=by
  simp only [f7S1,f7B,Try.f27,Option.getD_some]
  walk_nrm
  go_wp2_with fail
  exact hQ _ _ (by simp) (by simp) rfl
section
variable {h:Nat} {F:Machine→Trace→Prop} {E:Env} {w:World} {b₀:Frame} {a₀:Act} {ops₀:Array Oper} {i₀:Nat} {rest₀:List Nat} {k₀:List Item} {cl:List Frame}
theorem WSet.put {E E1:Env} {w w1:World} {b o:Nat} {n:Int} {K:Nat→Obj→Prop} (S:WSet E w E1 w1 ⟨b,o,none⟩ n) (hK:∀ c o,K c o→w.heap[c]?=some o∧E.H c=none∧c≠b):∀ c o,K c o→w1.heap[c]?=some o∧E1.H c=none∧c≠b:=fun c o hk=>by
  obtain ⟨k1,k2,k3⟩:=hK c o hk
  exact ⟨(S.stands k2 k1 k3).2,(S.stands k2 k1 k3).1,k3⟩
theorem fixed07_tail {T:Array Value} {wb:Nat} {K:Nat→Obj→Prop} (hs:T.size=30) (t1:T[1]?=some (.pointer (some ⟨wb,0,none⟩))) (M:NM wb K 0 E w)
    (hc:∀ E' w' v,Kept h none E w E' w'→E'.H=E.H→NM wb K v E' w'→HG Try.prog h F E' (G (b₀.at (a₀.put ((ops₀[i₀]?).bind (·.dst)) (.bool true)) (.inRegion ops₀ rest₀ :: k₀)) cl) w') :
    HGn Try.prog h F E w 200 (G ((base 27).at ⟨T,[]⟩ [.code f7T2]) (b₀.at a₀ (.inRegion ops₀ (i₀ :: rest₀) :: k₀) :: cl)):=by
  obtain ⟨f,hf,fz⟩:=arrfv T hs
  have e1:=fz 1 _ t1
  subst hf
  clear fz hs t1
  replace hc:=Lib.hid hc
  replace M:=Lib.hid M
  rw [show f7T2=xf7T2 from rfl]
  simp only [xf7T2,f7T2,f7B,Try.f27,Option.getD_some,List.range,List.range.loop,List.map_cons,List.map_nil,e1]
  refine Idl.q (idl_hg Try.prog h F E w) (Idl.rg (idl_hg Try.prog h F E w) [0,1,2] rfl ?_)
  apply Idl.value (idl_hg Try.prog h F E w) rfl rfl (by first | decide | exact base_kind _ | exact baseD_kind _ | assumption)
  focus (intro w; go_simp; (try w_num); first | done | rfl)
  focus (intro w; simp [go_sem, *])
  walk_nrm
  refine Idl.callE (fn:=Try.f68) (vs:=#[.pointer (some ⟨wb,0,none⟩),.pointer none,.int .i64 5]) (idl_hg Try.prog h F E w) rfl rfl (by k_ne) rfl Try.func68 rfl rfl (by simp [Act.eval]) ?_
  refine wadd_nil (v:=0) (n:=5) M.out.word M.out.wordH (fun E2 w2 hE2 hK2 hWS=>?_)
  have M2:=M.out.wset hWS (by decide)
  rw [show IntKind.i64.wrap (IntKind.i64.wrap (0+5) - 5)=0 by decide]
  rw [show IntKind.i64.wrap (0+5)=5 by decide] at M2
  have H2:=hWS.H
  replace M2:=Lib.hid M2
  replace H2:=Lib.hid H2
  replace hK2:=Lib.hid hK2
  clear hWS hE2
  change HGn Try.prog h F E2 w2 200 _
  walk_nrm
  apply Idl.value (idl_hg Try.prog h F E2 w2) rfl rfl (by first | decide | exact base_kind _ | exact baseD_kind _ | assumption)
  focus (intro w; go_simp; (try w_num); first | done | rfl)
  focus (intro w; simp [go_sem, *])
  walk_nrm
  refine Idl.re (idl_hg Try.prog h F E2 w2) (Idl.q (idl_hg Try.prog h F E2 w2) (Idl.rg (idl_hg Try.prog h F E2 w2) [0,1,2] rfl ?_))
  apply Idl.value (idl_hg Try.prog h F E2 w2) rfl rfl (by first | decide | exact base_kind _ | exact baseD_kind _ | assumption)
  focus (intro w; go_simp; (try w_num); first | done | rfl)
  focus (intro w; simp [go_sem, *])
  walk_nrm
  refine Idl.callE (fn:=Try.f68) (vs:=#[.pointer (some ⟨wb,0,none⟩),.pointer none,.int .i64 (-7)]) (idl_hg Try.prog h F E2 w2) rfl rfl (by k_ne) rfl Try.func68 rfl rfl (by simp [Act.eval]) ?_
  refine wadd_nil (v:=5) (n:=-7) M2.out.word M2.out.wordH (fun E3 w3 hE3 hK3 hWS=>?_)
  have M3:=M2.out.wset hWS (by decide)
  rw [show IntKind.i64.wrap (IntKind.i64.wrap (5+-7) - -7)=5 by decide]
  rw [show IntKind.i64.wrap (5+-7) = -2 by decide] at M3
  have H3:=hWS.H
  replace M3:=Lib.hid M3
  replace H3:=Lib.hid H3
  replace hK3:=Lib.hid hK3
  clear hWS hE3
  change HGn Try.prog h F E3 w3 200 _
  walk_nrm
  apply Idl.value (idl_hg Try.prog h F E3 w3) rfl rfl (by first | decide | exact base_kind _ | exact baseD_kind _ | assumption)
  focus (intro w; go_simp; (try w_num); first | done | rfl)
  focus (intro w; simp [go_sem, *])
  walk_nrm
  refine Idl.re (idl_hg Try.prog h F E3 w3) (Idl.q (idl_hg Try.prog h F E3 w3) (Idl.rg (idl_hg Try.prog h F E3 w3) [0,1,2] rfl ?_))
  apply Idl.value (idl_hg Try.prog h F E3 w3) rfl rfl (by first | decide | exact base_kind _ | exact baseD_kind _ | assumption)
  focus (intro w; go_simp; (try w_num); first | done | rfl)
  focus (intro w; simp [go_sem, *])
  walk_nrm
  refine Idl.callE (fn:=Try.f69) (vs:=#[.pointer (some ⟨wb,0,none⟩),.pointer none,.int .i64 9]) (idl_hg Try.prog h F E3 w3) rfl rfl (by k_ne) rfl Try.func69 rfl rfl (by simp [Act.eval]) ?_
  refine wswap_nil (v:=-2) (n:=9) M3.out.word M3.out.wordH (fun E4 w4 hE4 hK4 hWS=>?_)
  have M4:=M3.out.wset hWS (by decide)
  have H4:=hWS.H
  replace M4:=Lib.hid M4
  replace H4:=Lib.hid H4
  replace hK4:=Lib.hid hK4
  clear hWS hE4
  change HGn Try.prog h F E4 w4 200 _
  walk_nrm
  apply Idl.value (idl_hg Try.prog h F E4 w4) rfl rfl (by first | decide | exact base_kind _ | exact baseD_kind _ | assumption)
  focus (intro w; go_simp; (try w_num); first | done | rfl)
  focus (intro w; simp [go_sem, *])
  walk_nrm
  refine Idl.re (idl_hg Try.prog h F E4 w4) (Idl.q (idl_hg Try.prog h F E4 w4) (Idl.rg (idl_hg Try.prog h F E4 w4) [0,1,2] rfl ?_))
  apply Idl.value (idl_hg Try.prog h F E4 w4) rfl rfl (by first | decide | exact base_kind _ | exact baseD_kind _ | assumption)
  focus (intro w; go_simp; (try w_num); first | done | rfl)
  focus (intro w; simp [go_sem, *])
  walk_nrm
  refine Idl.callE (fn:=Try.f70) (vs:=#[.pointer (some ⟨wb,0,none⟩),.pointer none]) (idl_hg Try.prog h F E4 w4) rfl rfl (by k_ne) rfl Try.func70 rfl rfl (by simp [Act.eval]) ?_
  refine wload_nil (v:=9) M4.out.word M4.out.wordH (fun E5 w5 hE5 hK5 hWS=>?_)
  have M5:=M4.out.wset hWS (by decide)
  have H5:=hWS.H
  replace M5:=Lib.hid M5
  replace H5:=Lib.hid H5
  replace hK5:=Lib.hid hK5
  clear hWS hE5
  change HGn Try.prog h F E5 w5 200 _
  walk_nrm
  apply Idl.value (idl_hg Try.prog h F E5 w5) rfl rfl (by first | decide | exact base_kind _ | exact baseD_kind _ | assumption)
  focus (intro w; go_simp; (try w_num); first | done | rfl)
  focus (intro w; simp [go_sem, *])
  walk_nrm
  refine Idl.re (idl_hg Try.prog h F E5 w5) (Idl.q (idl_hg Try.prog h F E5 w5) (Idl.rg (idl_hg Try.prog h F E5 w5) [0,1,2,3,4,5,6,7,8,9,10,11,12,13,14] rfl ?_))
  iterate 15 (apply Idl.value (idl_hg Try.prog h F E5 w5) rfl rfl (by first | decide | exact base_kind _ | exact baseD_kind _ | assumption); (focus (intro w; go_simp; (try w_num); first | done | rfl)); (focus (intro w; simp [go_sem, *])); walk_nrm)
  refine Idl.re (idl_hg Try.prog h F E5 w5) (Idl.rt (idl_hg Try.prog h F E5 w5) ?_)
  refine Idl.leaveV (n:=1) (v:=.bool true) (fn:=Try.f27) (idl_hg Try.prog h F E5 w5) rfl rfl Try.func27 (fun w=>by simp [results,Try.f27,go_sem]) (fun w=>by simp [results,Try.f27,go_sem]) ?_
  exact hc.out E5 w5 9 (((hK2.out.trans hK3.out).trans hK4.out).trans hK5.out) (((H5.out.trans H4.out).trans H3.out).trans H2.out) M5.out
theorem fixed07_holds (hc:∀ E' w',Kept h none E w E' w'→Stands E w E' w'→HG Try.prog h F E' (G (b₀.at (a₀.put ((ops₀[i₀]?).bind (·.dst)) (.bool true)) (.inRegion ops₀ rest₀ :: k₀)) cl) w') :
    HGn Try.prog h F E w 200 (entry 27 Try.f27 #[] (b₀.at a₀ (.inRegion ops₀ (i₀ :: rest₀) :: k₀) :: cl)):=by
  have P1:HGn Try.prog h F E w 100 (G ((base 27).at ⟨(Array.replicate 30 undef).setIfInBounds 0 (.bool false),[]⟩ [.code (.seq f7S1 f7T2)]) (b₀.at a₀ (.inRegion ops₀ (i₀ :: rest₀) :: k₀) :: cl)):=by
    refine Idl.step (idl_hg Try.prog h F E w) _ _ _ rfl (fun _=>stepG_seq) ?_
    refine HG.quietM [.cells #[.int .i64 0] 46] (closed_none _) (fun T s=>T.size=30∧T[1]?=some (.pointer (some ⟨s,0,none⟩))) (by kernel_rfl) (by rfl) (fun x _ hx=>?_) (fun E1 w1 T1 S1 hnew hR=>?_)
    · refine f7S1_wp (fun T' x' h1 h2 h3=>⟨rfl,rfl,fun b hb=>by rw [h3,Array.getElem?_push,if_neg (by omega)],fun i o hi=>?_,h1,h2⟩)
      match i,hi with
      | 0,hi =>
        cases hi
        rw [h3]
        simp
    · obtain ⟨h1,h2⟩:=hR
      obtain ⟨n1,n2⟩:=hnew 0 _ rfl
      rw [Nat.add_zero] at n1 n2
      refine fixed07_tail (wb:=w.heap.size) (K:=fun b o=>w1.heap[b]?=some o∧E1.H b=none∧b≠w.heap.size) h1 h2 ⟨⟨rfl,_,_,n1,rfl⟩,n2,fun b o hk=>hk,by decide⟩ (fun E' w' v k1 k2 M=>?_)
      refine hc E' w' (S1.kept.trans k1) (fun b o z1 z2=>?_)
      obtain ⟨y1,y2⟩:=S1.st b o z1 z2
      have hl:=(Array.getElem?_eq_some_iff.1 z2).1
      obtain ⟨k1,k2,_⟩:=M.kobj b o ⟨y2,y1,by omega⟩
      exact ⟨k2,k1⟩
  clear hc
  replace P1:=Lib.hid P1
  unfold entry
  rw [show Try.f27.body.getD .skip=.seq xf7S0 (.seq f7S1 f7T2) from f7_parts,show Try.f27.ntmps=30 from rfl]
  generalize hG:(Code.seq f7S1 f7T2)=L at P1 ⊢
  simp only [xf7S0,f7S0,f7B,Try.f27,Option.getD_some]
  walk_nrm
  refine Idl.q (idl_hg Try.prog h F E w) (Idl.rg (idl_hg Try.prog h F E w) [0] rfl ?_)
  apply Idl.value (idl_hg Try.prog h F E w) rfl rfl (by first | decide | exact base_kind _ | exact baseD_kind _ | assumption)
  focus (intro w; go_simp; (try w_num); first | done | rfl)
  focus (intro w; simp [go_sem, *])
  walk_nrm
  refine Idl.re (idl_hg Try.prog h F E w) ?_
  exact P1.out
end
end Go.Proofs.Ytimlbbleblijnaa.Co
