/- Lemmas for the laws of this seat, laid together of PGeg, PGeh, POe. -/
import Derived.Test.YtimlbbleblijnaaX18
import Derived.Test.YtimlbbleblijnaaX25
import Derived.Test.YtimlbbleblijnaaX26
import Derived.Laws.OwnMore
import Derived.ArgAppend

set_option linter.unusedVariables false
set_option linter.unusedSimpArgs false
set_option maxRecDepth 100000
set_option maxHeartbeats 4000000
namespace Go.Proofs.Ytimlbbleblijnaa.Co
open Go Go.Conc Go.RowKit
open Go.ConcN (sumTo upd sumTo_upd upd_ne upd_same sumTo_congr le_sumTo)
theorem store_run4 {P:Program} {w:World} {g o:Nat} {T t:TypeId} {i:TypeInfo} {cur:List Value} (a b c d:Value) (hi:P.info? T=some i) (hs:i.size=4) (hg:w.heap[g]?=some (.cells cur.toArray t (0,0))) (hfit:o+4≤cur.length) (h1:a.oneCell'=true) (h2:b.oneCell'=true) (h3:c.oneCell'=true) (h4:d.oneCell'=true) :
  (Instr.storeAt T (.pointer (some ⟨g,o,none⟩)) (.agg #[a,b,c,d])).run P w=.ok () (w.setRow g (cur.take o ++ [a,b,c,d] ++ cur.drop (o+4)).toArray):=by
 have hst:=run_storeCells_at P g o t [a,b,c,d] 0 cur.toArray w hg (by simpa using hfit) (by simp [h1,h2,h3,h4])
 simp only [Nat.add_zero] at hst
 have e:(Sem.run P (Go.sizeOf T) w)=.ok 4 w:=by simp [Go.sizeOf,typeInfo,hi,hs]
 have e2:(Sem.run P (Instr.sureAddr (Value.pointer (some ⟨g,o,none⟩))) w)=.ok ⟨g,o,none⟩ w:=rfl
 unfold Instr.storeAt storeVar
 simp only [Sem.run_bind,Result.andThen_ok,Value.cells,e,e2]
 exact hst
def mA:Mk:=(-1,0,0,0)
def mB:Mk:=(-2,0,0,0)
structure Grn (x wr:World) (av bv:Value):Prop where
 size:x.heap.size≤wr.heap.size
 old:∀ b,b < x.heap.size→av.ownBlock≠some b→bv.ownBlock≠some b→wr.heap[b]?=x.heap[b]?
def IntsM (wr:World) (g n:Nat) (k:Int):Prop:=∀ j,j < n→wr.cell? ⟨g,j * 4,none⟩=some (.int .i64 k)
theorem ints_of_owns {w:World} {v:Value} {g n:Nat} {m:Mk} (h:w.ownsRow 0 37 4 v n (mksV (List.replicate n m))) (hg:v.ownBlock=some g):IntsM w g n m.1:=by
 intro j hj
 have h':w.ownsRow 0 37 4 v (List.replicate n m).length (mksV (List.replicate n m)):=by rw [List.length_replicate]; exact h
 obtain ⟨A,g',cap,rfl,e1,e2⟩:=MksAt.of_owns h'
 obtain rfl:=e1 (by rw [List.length_replicate]; omega)
 cases hg
 exact (MksAt.mark e2 (i:=j) (m:=m) (by rw [List.getElem?_replicate,if_pos hj])).1
theorem IntsM.same {w w':World} {g n:Nat} {k:Int} (h:IntsM w g n k) (e:w'.heap[g]?=w.heap[g]?):IntsM w' g n k:=fun j hj=>(World.cell?_of_block (a:=⟨g,j * 4,none⟩) e).trans (h j hj)
structure Gr3 (x:World) (av bv:Value) (n n':Nat) (p q:Mk) (wr:World) (xv yv:Value) (i j:Nat):Prop where
 rx:wr.ownsRow 0 37 4 xv (n+i) (mksV (List.replicate (n+i) p))
 ry:wr.ownsRow 0 37 4 yv (n'+j) (mksV (List.replicate (n'+j) q))
 ca:∀ g,av.ownBlock=some g→g < wr.heap.size∧IntsM wr g n p.1
 cb:∀ g,bv.ownBlock=some g→g < wr.heap.size∧IntsM wr g n' q.1
 xy:∀ g,xv.ownBlock=some g→yv.ownBlock≠some g
 xb:∀ g,xv.ownBlock=some g→bv.ownBlock≠some g
 ya:∀ g,yv.ownBlock=some g→av.ownBlock≠some g
 fx:∀ g,xv.ownBlock=some g→av.ownBlock=some g∨x.heap.size≤g
 fy:∀ g,yv.ownBlock=some g→bv.ownBlock=some g∨x.heap.size≤g
 G:Grn x wr av bv
theorem Gr3.alloc {x:World} {av bv:Value} {n n':Nat} {p q:Mk} {wr:World} {xv yv:Value} {i j:Nat} (h:Gr3 x av bv n n' p q wr xv yv i j) (o:Obj):Gr3 x av bv n n' p q (wr.alloc o) xv yv i j :=
 ⟨h.rx.alloc _,h.ry.alloc _,fun g hg=>⟨by rw [alloc_size]; have:=(h.ca g hg).1; omega,(h.ca g hg).2.same (alloc_old (h.ca g hg).1)⟩,fun g hg=>⟨by rw [alloc_size]; have:=(h.cb g hg).1; omega,(h.cb g hg).2.same (alloc_old (h.cb g hg).1)⟩,h.xy,h.xb,h.ya,h.fx,h.fy,
  ⟨by rw [alloc_size]; have:=h.G.size; omega,fun b h1 h2 h3=>(alloc_old (by have:=h.G.size; omega)).trans (h.G.old b h1 h2 h3)⟩⟩
theorem Gr3.app {x:World} {av bv:Value} {n n':Nat} {p q:Mk} {w w':World} {xv yv v':Value} {i j:Nat} (h:Gr3 x av bv n n' p q w xv yv i j) (hr:w'.ownsRow 0 37 4 v' (n+i+1) (mksV (List.replicate (n+i) p ++ [p])))
  (hc:(v'.ownBlock=xv.ownBlock∧w.grownBy w' xv.ownBlock)∨((∀ g,v'.ownBlock=some g→w.heap.size≤g)∧w.grownBy w' none)):Gr3 x av bv n n' p q w' v' yv (i+1) j:=by
 rw [← List.replicate_succ'] at hr
 have hr':w'.ownsRow 0 37 4 v' (n+(i+1)) (mksV (List.replicate (n+(i+1)) p)):=hr
 have hsz:w.heap.size≤w'.heap.size:=by rcases hc with ⟨_,g⟩ | ⟨_,g⟩ <;> exact g.size
 have hold:∀ b,b < w.heap.size→xv.ownBlock≠some b→w'.heap[b]?=w.heap[b]?:=fun b h1 h2=>by
  rcases hc with ⟨_,g⟩ | ⟨_,g⟩
  ·exact g.block b h1 (Ne.symm h2)
  ·exact g.block b h1 (by intro e; cases e)
 have hgs:=h.G.size
 refine ⟨hr',ownsRow_same h.ry fun g hg=>hold g (h.ry.lt g hg).2 (fun e=>h.xy g e hg),fun g hg=>⟨Nat.lt_of_lt_of_le (h.ca g hg).1 hsz,?_⟩,fun g hg=>⟨Nat.lt_of_lt_of_le (h.cb g hg).1 hsz,(h.cb g hg).2.same (hold g (h.cb g hg).1 (fun e=>h.xb g e hg))⟩,fun g hg=>?_,fun g hg=>?_,h.ya,fun g hg=>?_,h.fy,⟨Nat.le_trans h.G.size hsz,fun b h1 h2 h3=>?_⟩⟩
 ·rcases hc with ⟨e,gr⟩ | ⟨_,gr⟩
  ·by_cases hx:xv.ownBlock=some g
   ·have:=ints_of_owns hr' (e.trans hx)
    exact fun k hk=>this k (by omega)
   ·exact (h.ca g hg).2.same (gr.block g (h.ca g hg).1 (Ne.symm hx))
  ·exact (h.ca g hg).2.same (gr.block g (h.ca g hg).1 (by intro e; cases e))
 ·rcases hc with ⟨e,gr⟩ | ⟨e,gr⟩
  ·exact h.xy g (by rw [← e]; exact hg)
  ·intro hy
   have:=e g hg
   have:=(h.ry.lt g hy).2
   omega
 ·rcases hc with ⟨e,gr⟩ | ⟨e,gr⟩
  ·exact h.xb g (by rw [← e]; exact hg)
  ·intro hy
   have:=e g hg
   have:=(h.cb g hy).1
   omega
 ·rcases hc with ⟨e,gr⟩ | ⟨e,gr⟩
  ·exact h.fx g (by rw [← e]; exact hg)
  ·have:=e g hg
   exact .inr (by omega)
 ·rw [hold b (by omega) (fun e=>by
   rcases h.fx b e with k | k
   ·exact h2 k
   ·omega)]
  exact h.G.old b h1 h2 h3
def repV (k:List Value) (n:Nat):List Value:=(List.replicate n k).flatten
theorem repV_succ (k:List Value) (n:Nat):repV k (n+1)=repV k n ++ k:=by
 unfold repV
 rw [List.replicate_succ',List.flatten_append]
 simp
theorem repV_len (k:List Value):∀ n,(repV k n).length=n * k.length
 | 0=>by simp [repV]
 | n+1=>by
   rw [repV_succ,List.length_append,repV_len k n,Nat.succ_mul]
theorem repV_get {k:List Value} {c:Nat} (hc:c < k.length):∀ {n j:Nat},j < n→(repV k n)[j * k.length+c]?=k[c]?
 | 0,j,h=>absurd h (Nat.not_lt_zero _)
 | n+1,j,h=>by
   rw [repV_succ]
   by_cases e:j=n
   ·subst e
    rw [List.getElem?_append_right (by rw [repV_len]; omega),repV_len]
    congr 1
    omega
   ·have h1:j < n:=by omega
    have h2:(j+1) * k.length≤n * k.length:=Nat.mul_le_mul_right _ (by omega)
    rw [List.getElem?_append_left (by rw [repV_len]; rw [Nat.succ_mul] at h2; omega)]
    exact repV_get hc h1
def fillV (k L:List Value) (i:Nat):List Value:=repV k i ++ L.drop (i * k.length)
theorem fillV_0 (k L:List Value):fillV k L 0=L:=by simp [fillV,repV]
theorem fillV_all {k L:List Value} {n:Nat} (h:L.length=n * k.length):fillV k L n=repV k n:=by
 unfold fillV
 rw [List.drop_of_length_le (by omega),List.append_nil]
theorem fillV_next (k L:List Value) (i:Nat):(fillV k L i).take (i * k.length) ++ k ++ (fillV k L i).drop (i * k.length+k.length)=fillV k L (i+1):=by
 unfold fillV
 have e:(repV k i).length=i * k.length:=repV_len k i
 rw [List.take_append_of_le_length (by omega),List.take_of_length_le (by omega),repV_succ,List.drop_append,e,List.drop_of_length_le (by omega),List.nil_append,List.drop_drop,Nat.succ_mul]
 congr 2
 omega
theorem own_get {w:World} {B e s n cap g:Nat} {xs:List Value} (h:w.ownsRow B e s (.slice (some ⟨g,0,none⟩) n cap) n xs) {j:Nat} {u:Value} (hj:xs[j]?=some u):w.cell? ⟨g,j,none⟩=some u:=by
 rcases h.2 with ⟨e0,_⟩ | ⟨g',cap',cur,e0,hb,hg,hn,hc,hcs,ht⟩
 ·cases e0
 ·cases e0
  refine obj_cell hg ?_
  rw [← ht,List.getElem?_take] at hj
  split at hj
  ·rw [← Array.getElem?_toList]; exact hj
  ·cases hj
theorem own_store {w:World} {B e s n cap g o:Nat} {xs:List Value} (k:List Value) (h:w.ownsRow B e s (.slice (some ⟨g,0,none⟩) n cap) n xs) (ho:o+k.length≤n * s) :
  ∃ cur:List Value,w.heap[g]?=some (.cells cur.toArray e (0,0))∧o+k.length≤cur.length∧(w.setRow g (cur.take o ++ k ++ cur.drop (o+k.length)).toArray).ownsRow B e s (.slice (some ⟨g,0,none⟩) n cap) n (xs.take o ++ k ++ xs.drop (o+k.length)):=by
 obtain ⟨hl,h2⟩:=h
 rcases h2 with ⟨e0,_⟩ | ⟨g',cap',cur,e0,hb,hg,hn,hc,hcs,ht⟩
 ·cases e0
 ·cases e0
  have hg':w.heap[g]?=some (.cells cur.toList.toArray e (0,0)):=by rw [Array.toArray_toList]; exact hg
  have hcl:cur.toList.length=cap * s:=by rw [Array.length_toList]; exact hcs
  have hmul:n * s≤cap * s:=Nat.mul_le_mul_right _ hn
  refine ⟨cur.toList,hg',by omega,?_,.inr ⟨g,cap,_,rfl,hb,setRow_heap _ _ _ _ _ _ hg',hn,hc,?_,?_⟩⟩
  ·simp only [List.length_append,List.length_take,List.length_drop]
   omega
  ·rw [List.size_toArray]
   simp only [List.length_append,List.length_take,List.length_drop]
   omega
  ·rw [← ht]
   show List.take (n * s) (List.take o cur.toList ++ k ++ List.drop (o+k.length) cur.toList)=_
   have e1:(List.take o cur.toList).length=o:=by rw [List.length_take]; omega
   have e2:List.take (n * s) (List.take o cur.toList)=List.take o (List.take (n * s) cur.toList):=by
    rw [List.take_take,List.take_take,Nat.min_comm]
   have e3:List.take (n * s - o - k.length) (List.drop (o+k.length) cur.toList)=List.drop (o+k.length) (List.take (n * s) cur.toList):=by
    rw [List.drop_take,Nat.sub_sub]
   rw [List.append_assoc,List.append_assoc,List.take_append,List.take_append,e1,e2,e3,List.take_of_length_le (l:=k) (by omega)]
theorem store_run1 {P:Program} {w:World} {g o:Nat} {T t:TypeId} {i:TypeInfo} {cur:List Value} (a:Value) (hcs:a.cells=#[a]) (hi:P.info? T=some i) (hs:i.size=1) (hg:w.heap[g]?=some (.cells cur.toArray t (0,0))) (hfit:o+1≤cur.length) (h1:a.oneCell'=true) :
  (Instr.storeAt T (.pointer (some ⟨g,o,none⟩)) a).run P w=.ok () (w.setRow g (cur.take o ++ [a] ++ cur.drop (o+1)).toArray):=by
 have hst:=run_storeCells_at P g o t [a] 0 cur.toArray w hg (by simpa using hfit) (by simp [h1])
 simp only [Nat.add_zero] at hst
 have e:(Sem.run P (Go.sizeOf T) w)=.ok 1 w:=by simp [Go.sizeOf,typeInfo,hi,hs]
 have e2:(Sem.run P (Instr.sureAddr (Value.pointer (some ⟨g,o,none⟩))) w)=.ok ⟨g,o,none⟩ w:=rfl
 unfold Instr.storeAt storeVar
 simp only [Sem.run_bind,Result.andThen_ok,hcs,e,e2]
 exact hst
def gwE:Nat→TypeId:=fun r=>if r < 2 then 37 else 2
def gwS:Nat→Nat:=fun r=>if r < 2 then 4 else 1
def gwK:Nat→List Value
 | 0=>mkV mA
 | 1=>mkV mB
 | 2=>[.int .i64 (-3)]
 | _=>[.int .i64 (-4)]
def gwI:Nat→Int
 | 0=>-1
 | 1=>-2
 | 2=>-3
 | _=>-4
theorem gwK_len {r:Nat} (h:r < 4):(gwK r).length=gwS r:=by
 match r,h with
 | 0,_ | 1,_ | 2,_ | 3,_=>rfl
theorem gwK_0 {r:Nat} (h:r < 4):(gwK r)[0]?=some (.int .i64 (gwI r)):=by
 match r,h with
 | 0,_ | 1,_ | 2,_ | 3,_=>rfl
theorem gwS_pos (r:Nat):0 < gwS r:=by
 unfold gwS
 split <;> omega
structure Fil (x:World) (V:Nat→Value) (N:Nat→Nat) (L:Nat→List Value) (w:World):Prop where
 size:x.heap.size≤w.heap.size
 old:∀ b,b < x.heap.size→(∀ r,r < 4→(V r).ownBlock≠some b)→w.heap[b]?=x.heap[b]?
 row:∀ r,r < 4→w.ownsRow 0 (gwE r) (gwS r) (V r) (N r) (L r)
 ne:∀ r s,r < 4→s < 4→r≠s→∀ g,(V r).ownBlock=some g→(V s).ownBlock≠some g
theorem Fil.put {x w w':World} {V:Nat→Value} {N:Nat→Nat} {L:Nat→List Value} {r g:Nat} {l:List Value} (h:Fil x V N L w) (hr:r < 4) (hg:(V r).ownBlock=some g) (ho:∀ b,b≠g→w'.heap[b]?=w.heap[b]?) (hs:w'.heap.size=w.heap.size) (hw:w'.ownsRow 0 (gwE r) (gwS r) (V r) (N r) l):Fil x V N (upd L r l) w':=by
 refine ⟨by rw [hs]; exact h.size,fun b hb hn=>(ho b (fun e=>hn r hr (by rw [hg,e]))).trans (h.old b hb hn),fun s hs'=>?_,h.ne⟩
 by_cases e:s=r
 ·subst e
  rw [upd_same]
  exact hw
 ·rw [upd_ne _ _ e]
  exact ownsRow_same (h.row s hs') fun k hk=>ho k (fun e'=>h.ne s r hs' hr e k hk (by rw [hg,e']))
structure Gr4 (x:World) (V:Nat→Value) (N:Nat→Nat) (w:World) (C:Nat→Value) (I:Nat→Nat):Prop where
 size:x.heap.size≤w.heap.size
 old:∀ b,b < x.heap.size→(∀ r,r < 4→(V r).ownBlock≠some b)→w.heap[b]?=x.heap[b]?
 row:∀ r,r < 4→w.ownsRow 0 (gwE r) (gwS r) (C r) (N r+I r) (repV (gwK r) (N r+I r))
 ca:∀ r,r < 4→∀ g,(V r).ownBlock=some g→g < w.heap.size∧∀ j,j < N r→w.cell? ⟨g,j * gwS r,none⟩=some (.int .i64 (gwI r))
 cc:∀ r s,r < 4→s < 4→r≠s→∀ g,(C r).ownBlock=some g→(C s).ownBlock≠some g
 cv:∀ r s,r < 4→s < 4→r≠s→∀ g,(C r).ownBlock=some g→(V s).ownBlock≠some g
 fx:∀ r,r < 4→∀ g,(C r).ownBlock=some g→(V r).ownBlock=some g∨x.heap.size≤g
theorem own_rep {w:World} {r n g cap:Nat} (hr:r < 4) (h:w.ownsRow 0 (gwE r) (gwS r) (.slice (some ⟨g,0,none⟩) n cap) n (repV (gwK r) n)) {j:Nat} (hj:j < n):w.cell? ⟨g,j * gwS r,none⟩=some (.int .i64 (gwI r)):=by
 refine own_get h ?_
 have:=repV_get (k:=gwK r) (c:=0) (by rw [gwK_len hr]; exact gwS_pos r) hj
 rw [gwK_len hr,Nat.add_zero,gwK_0 hr] at this
 exact this
theorem own_cap {w:World} {B e s n g:Nat} {v:Value} {xs:List Value} (h:w.ownsRow B e s v n xs) (hg:v.ownBlock=some g):∃ cap,v=.slice (some ⟨g,0,none⟩) n cap:=by
 rcases h.2 with ⟨e0,_⟩ | ⟨g',cap',cur,e0,_⟩
 ·rw [e0] at hg; cases hg
 ·rw [e0] at hg
  cases hg
  exact ⟨cap',e0⟩
theorem Fil.gr {x w:World} {V:Nat→Value} {N:Nat→Nat} {L:Nat→List Value} (h:Fil x V N L w) (hL:∀ r,r < 4→L r=repV (gwK r) (N r)):Gr4 x V N w V (fun _=>0):=by
 refine ⟨h.size,h.old,fun r hr=>?_,fun r hr g hg=>⟨((h.row r hr).lt g hg).2,fun j hj=>?_⟩,h.ne,h.ne,fun r hr g hg=>.inl hg⟩
 ·have:=h.row r hr
  rw [hL r hr] at this
  exact this
 ·have h1:=h.row r hr
  rw [hL r hr] at h1
  obtain ⟨cap,e⟩:=own_cap h1 hg
  rw [e] at h1
  exact own_rep hr h1 hj
theorem Gr4.alloc {x w:World} {V C:Nat→Value} {N I:Nat→Nat} (h:Gr4 x V N w C I) (o:Obj):Gr4 x V N (w.alloc o) C I:=by
 have hs:=h.size
 refine ⟨by rw [alloc_size]; omega,fun b h1 h2=>(alloc_old (by omega)).trans (h.old b h1 h2),fun r hr=>(h.row r hr).alloc _,fun r hr g hg=>⟨by rw [alloc_size]; have:=(h.ca r hr g hg).1; omega,fun j hj=>?_⟩,h.cc,h.cv,h.fx⟩
 exact (World.cell?_of_block (a:=⟨g,j * gwS r,none⟩) (alloc_old (h.ca r hr g hg).1)).trans ((h.ca r hr g hg).2 j hj)
theorem Gr4.app {x w w':World} {V C:Nat→Value} {N I:Nat→Nat} {r:Nat} {v':Value} (h:Gr4 x V N w C I) (hr:r < 4) (hw:w'.ownsRow 0 (gwE r) (gwS r) v' (N r+I r+1) (repV (gwK r) (N r+I r) ++ gwK r))
  (hc:(v'.ownBlock=(C r).ownBlock∧w.grownBy w' (C r).ownBlock)∨((∀ g,v'.ownBlock=some g→w.heap.size≤g)∧w.grownBy w' none)):Gr4 x V N w' (upd C r v') (upd I r (I r+1)):=by
 rw [← repV_succ] at hw
 have hw':w'.ownsRow 0 (gwE r) (gwS r) v' (N r+(I r+1)) (repV (gwK r) (N r+(I r+1))):=hw
 have hsz:w.heap.size≤w'.heap.size:=by rcases hc with ⟨_,g⟩ | ⟨_,g⟩ <;> exact g.size
 have hold:∀ b,b < w.heap.size→(C r).ownBlock≠some b→w'.heap[b]?=w.heap[b]?:=fun b h1 h2=>by
  rcases hc with ⟨_,g⟩ | ⟨_,g⟩
  ·exact g.block b h1 (Ne.symm h2)
  ·exact g.block b h1 (by intro e; cases e)
 have hgs:=h.size
 have hnew:∀ g,v'.ownBlock=some g→(C r).ownBlock=some g∨w.heap.size≤g:=fun g hg=>by
  rcases hc with ⟨e,_⟩ | ⟨e,_⟩
  ·exact .inl (by rw [← e]; exact hg)
  ·exact .inr (e g hg)
 refine ⟨Nat.le_trans h.size hsz,fun b h1 h2=>?_,fun s hs=>?_,fun s hs g hg=>?_,fun s t hs ht hst g hg=>?_,fun s t hs ht hst g hg=>?_,fun s hs g hg=>?_⟩
 ·rw [hold b (by omega) (fun e=>by
   rcases h.fx r hr b e with k | k
   ·exact h2 r hr k
   ·omega)]
  exact h.old b h1 h2
 ·by_cases e:s=r
  ·subst e
   rw [upd_same,upd_same]
   exact hw'
  ·rw [upd_ne _ _ e,upd_ne _ _ e]
   exact ownsRow_same (h.row s hs) fun g hg=>hold g ((h.row s hs).lt g hg).2 (fun e'=>h.cc r s hr hs (Ne.symm e) g e' hg)
 ·obtain ⟨k1,k2⟩:=h.ca s hs g hg
  refine ⟨Nat.lt_of_lt_of_le k1 hsz,fun j hj=>?_⟩
  by_cases hx:(C r).ownBlock=some g
  ·have e:s=r:=by
    by_cases e:s=r
    ·exact e
    ·exact absurd hg (h.cv r s hr hs (Ne.symm e) g hx)
   subst e
   rcases hc with ⟨e,gr⟩ | ⟨_,gr⟩
   ·obtain ⟨cap,e2⟩:=own_cap hw' (e.trans hx)
    have h3:=hw'
    rw [e2] at h3
    exact own_rep hr h3 (by omega)
   ·exact (World.cell?_of_block (a:=⟨g,j * gwS s,none⟩) (gr.block g k1 (by intro e; cases e))).trans (k2 j hj)
  ·exact (World.cell?_of_block (a:=⟨g,j * gwS s,none⟩) (hold g k1 hx)).trans (k2 j hj)
 ·by_cases e:s=r
  ·subst e
   rw [upd_same] at hg
   rw [upd_ne _ _ (Ne.symm hst)]
   rcases hnew g hg with k | k
   ·exact h.cc s t hs ht hst g k
   ·intro e'
    have:=((h.row t ht).lt g e').2
    omega
  ·rw [upd_ne _ _ e] at hg
   by_cases e2:t=r
   ·subst e2
    rw [upd_same]
    intro e'
    rcases hnew g e' with k | k
    ·exact h.cc s t hs ht hst g hg k
    ·have:=((h.row s hs).lt g hg).2
     omega
   ·rw [upd_ne _ _ e2]
    exact h.cc s t hs ht hst g hg
 ·by_cases e:s=r
  ·subst e
   rw [upd_same] at hg
   rcases hnew g hg with k | k
   ·exact h.cv s t hs ht hst g k
   ·intro e'
    have:=(h.ca t ht g e').1
    omega
  ·rw [upd_ne _ _ e] at hg
   exact h.cv s t hs ht hst g hg
 ·by_cases e:s=r
  ·subst e
   rw [upd_same] at hg
   rcases hnew g hg with k | k
   ·exact h.fx s hs g k
   ·exact .inr (by omega)
  ·rw [upd_ne _ _ e] at hg
   exact h.fx s hs g hg
theorem wpList_append_any {w:World} {ops:Array Oper} {rest:List Oper} {o:Oper} {a:Act} {Q:Exit→Act→World→Prop} (hgd:o.guard=none) (s x:Operand) {T e:TypeId} {i0:TypeInfo} {z:Value} {sz by':Nat}
  (ho:o.op=.call { callee:=.builtin .append,args:=#[s,x],argTypes:=#[T,T] }) (hT:Try.prog.underlying T=some (.slice e)) (hi0:Try.prog.info? e=some i0) (hz0:i0.zero=some z) (hs0:i0.size=sz) (hb0:i0.bytes=by') (hzc:z.cells.size=sz) (hsz:0 < sz) (hby:by'≤100) (v:Value) (n:Nat) (xs k:List Value) (hk:k.length=sz) (hone:∀ u ∈ k,u.oneCell'=true) (hs:a.eval s=v) (hown:w.ownsRow 0 e sz v n xs)
  (ad:Addr) (hx:a.eval x=.slice (some ad) 1 1) (hnews:∀ j u,k[j]?=some u→w.cell? (ad.add j)=some u) (hb:n≤1000000000000)
  (h:∀ v' w',w'.ownsRow 0 e sz v' (n+1) (xs ++ k)→((v'.ownBlock=v.ownBlock∧w.grownBy w' v.ownBlock)∨((∀ g,v'.ownBlock=some g→w.heap.size≤g)∧w.grownBy w' none))→wpList Try.prog ops Q rest (a.put o.dst v') w'):wpList Try.prog ops Q (o :: rest) a w:=by
 have hbb:(n+1) * by'≤140737488355328:=Nat.le_trans (Nat.mul_le_mul (Nat.add_le_add_right hb 1) hby) (by decide)
 rcases hown.2 with ⟨rfl,h0⟩ | ⟨g,cap,cur,rfl,hbg,hg,hnc,hcm,hcs,ht⟩
 ·subst h0
  refine wpList_append_grows w hgd s x T ho e i0 z sz by' hT hi0 hz0 hs0 hb0 hzc hsz none 0 0 xs hs (fun _=>⟨rfl,rfl⟩) hown.1 (fun b e=>by cases e) ad 1 1 k hx (by rw [hk]; omega) hnews hone (by omega) (by decide) (by omega) (fun v' w' h1 h2=>?_)
  exact h v' w' (owns_lower h1 (Nat.zero_le _)) (.inr ⟨fun g hg=>(h1.lt g hg).1,h2⟩)
 ·by_cases hroom:n+1≤cap
  ·obtain ⟨w',r1,r2,r3⟩:=run_append_fits (P:=Try.prog) (w:=w) 0 T o.type e i0 sz hT hi0 hs0 g n cap xs hown ad 1 1 k (by rw [hk]; omega) hnews hone hroom
   refine wpList_plain hgd fun K hK=>?_
   unfold Oper.wp
   simp [execOp,ho,resolve,invoke,builtin,hs,hx,r1,Result.andThen]
   refine hK _ _ (h _ w' r2 (.inl ⟨rfl,r3⟩))
  ·refine wpList_append_grows w hgd s x T ho e i0 z sz by' hT hi0 hz0 hs0 hb0 hzc hsz (some ⟨g,0,none⟩) n cap xs hs (fun e=>by cases e) hown.1 (fun b e j u hu=>?_) ad 1 1 k hx (by rw [hk]; omega) hnews hone (by omega) (by unfold maxLen; omega) hbb (fun v' w' h1 h2=>?_)
   ·cases e
    have e:(⟨g,0,none⟩:Addr).add j=⟨g,j,none⟩:=by unfold Addr.add; split <;> simp_all
    rw [e]
    exact own_get hown hu
   ·exact h v' w' (owns_lower h1 (Nat.zero_le _)) (.inr ⟨fun g hg=>(h1.lt g hg).1,h2⟩)
end Go.Proofs.Ytimlbbleblijnaa.Co
