/- Lemmas for the laws of this seat, laid together of PNa, PNb, POb, POq. -/
import Derived.Test.YtimlbbleblijnaaX15
import Derived.Test.YtimlbbleblijnaaX24
import Derived.BigQuiet

set_option linter.unusedVariables false
set_option linter.unusedSimpArgs false
set_option maxRecDepth 100000
set_option maxHeartbeats 4000000
namespace Go.Proofs.Ytimlbbleblijnaa.Co
open Go Go.Conc Go.RowKit
open Go.ConcN (sumTo upd sumTo_upd upd_ne upd_same sumTo_congr le_sumTo)
theorem Game.picks_inv {A:Type} {G:Game A} {I:A→Prop} (hp:∀ a t k,t < G.n→G.alive a t=true→I a→I (G.pick a t k)) (hn:0 < G.n):∀ (l:List Int) (a:A × Int),I a.1→I (G.picks a l).1
 | [],a,h=>h
 | p :: l,a,h=>by
   have h1:I (G.pk a (pickIx p G.n)).1:=by
    unfold Game.pk
    dsimp only
    cases e:G.alive a.1 (pickIx p G.n) with
    | true=>rw [if_pos rfl]; exact hp _ _ _ (pickIx_lt p hn) e h
    | false=>rw [if_neg (by simp)]; exact h
   exact Game.picks_inv hp hn l _ h1
theorem Game.Drn.inv {A:Type} {G:Game A} {I:A→Prop} (hp:∀ a t k,t < G.n→G.alive a t=true→I a→I (G.pick a t k)) {a z:A × Int} {x:Nat} (h:G.Drn a x z):x < G.n→I a.1→I z.1:=by
 induction h with
 | stop h=>exact fun _ h=>h
 | @go a x t z h d ih =>
   intro hx hI
   obtain ⟨h1,h2⟩:=nx_some hx h
   exact ih (Nat.mod_lt _ (by omega)) (hp _ _ _ h1 h2 hI)
theorem Game.Run.inv {A:Type} {G:Game A} {I:A→Prop} (hp:∀ a t k,t < G.n→G.alive a t=true→I a→I (G.pick a t k)) {picks:List Int} {drain:Bool} {a:A} {z:A × Int} (h:G.Run picks drain a z) (h0:I a):I z.1:=by
 unfold Game.Run at h
 by_cases hn:G.n=0
 ·rw [if_pos hn] at h
  rw [h]; exact h0
 ·rw [if_neg hn] at h
  have h1:=Game.picks_inv hp (by omega) picks (a,0) h0
  cases drain with
  | true =>
    simp only [if_true] at h
    exact h.inv hp (by omega) h1
  | false =>
    simp only [Bool.false_eq_true,if_false] at h
    rw [h]; exact h1
abbrev RPL:=(Nat→Nat) × (Nat→Int)
def rpIx (ts:List (List Op3)) (r:RPL) (t:Nat):Nat:=aftI (ts.getD t []) (r.1 t)
def rpOp (ts:List (List Op3)) (r:RPL) (t:Nat):Op3:=opAt ts t (rpIx ts r t)
def rpStep (n:Nat) (ts:List (List Op3)) (r:RPL) (t:Nat):RPL :=
 (upd r.1 t (rpIx ts r t+1),upd r.2 (pickIx (rpOp ts r t).2.1 n) (doW (r.2 (pickIx (rpOp ts r t).2.1 n)) (rpOp ts r t).1 (rpOp ts r t).2.2).1)
def rpl (n:Nat) (ts:List (List Op3)) (ms:List Mk):RPL:=ms.foldl (fun r m=>rpStep n ts r m.1.toNat) (fun _=>0,fun _=>0)
theorem rpl_snoc (n:Nat) (ts:List (List Op3)) (ms:List Mk) (m:Mk):rpl n ts (ms ++ [m])=rpStep n ts (rpl n ts ms) m.1.toNat:=by simp [rpl,List.foldl_append]
def okLm (n:Nat) (ts:List (List Op3)) (r:RPL) (m:Mk):Prop :=
 ∃ t,t < ts.length∧m.1=(t:Int)∧rpIx ts r t < lenOf ts t∧r.1 t≤lenOf ts t∧m.2.2.2=(doW (r.2 (pickIx (rpOp ts r t).2.1 n)) (rpOp ts r t).1 (rpOp ts r t).2.2).2
def okLs (n:Nat) (ts:List (List Op3)) (ms:List Mk):Prop:=∀ i m,ms[i]?=some m→okLm n ts (rpl n ts (ms.take i)) m
structure GL (n:Nat) (ts:List (List Op3)) (a:WA):Prop where
 ok:okLs n ts a.ms
 ix:∀ t,a.ix t=rpIx ts (rpl n ts a.ms) t
 le:∀ t,(rpl n ts a.ms).1 t≤lenOf ts t
 vs:a.vs=(rpl n ts a.ms).2
 len:a.ms.length+wordW ts a≤sumTo ts.length (lenOf ts)
theorem gl_0 (n:Nat) (ts:List (List Op3)):GL n ts (wa0 ts):=by
 refine ⟨fun i m h=>by simp [wa0] at h,fun t=>rfl,fun t=>Nat.zero_le _,rfl,?_⟩
 show 0+wordW ts (wa0 ts)≤_
 rw [Nat.zero_add]
 unfold wordW
 have:∀ N,sumTo N (fun t=>lenOf ts t - (wa0 ts).ix t)≤sumTo N (lenOf ts):=fun N=>by
  induction N with
  | zero=>exact Nat.le_refl _
  | succ N ih=>exact Nat.add_le_add ih (Nat.sub_le _ _)
 exact this _
theorem GL.pick {n:Nat} {ts:List (List Op3)} {a:WA} {t:Nat} {k:Int} (h:GL n ts a) (ht:t < ts.length) (ha:(wordG n ts).alive a t=true):GL n ts ((wordG n ts).pick a t k):=by
 have ha':a.ix t < lenOf ts t:=of_decide_eq_true ha
 have hix:=h.ix t
 have hop:opAt ts t (a.ix t)=rpOp ts (rpl n ts a.ms) t:=by unfold rpOp; rw [hix]
 obtain ⟨m,hm⟩:∃ m:Mk,m=((t:Int),k,(a.cnt t:Int),(doW (a.vs (pickIx (opAt ts t (a.ix t)).2.1 n)) (opAt ts t (a.ix t)).1 (opAt ts t (a.ix t)).2.2).2):=⟨_,rfl⟩
 have e1:((wordG n ts).pick a t k).ms=a.ms ++ [m]:=by rw [hm]; rfl
 have e2:rpl n ts ((wordG n ts).pick a t k).ms=rpStep n ts (rpl n ts a.ms) t:=by
  rw [e1,rpl_snoc,hm]
  simp
 have hw:=wordW_pick (n:=n) a t k ht ha
 refine ⟨?_,fun t'=>?_,fun t'=>?_,?_,?_⟩
 ·rw [e1]
  intro i x hx
  rcases Nat.lt_or_ge i a.ms.length with z | z
  ·rw [List.getElem?_append_left z] at hx
   rw [List.take_append_of_le_length (Nat.le_of_lt z)]
   exact h.ok i x hx
  ·have hi:i=a.ms.length:=by
    have:=(List.getElem?_eq_some_iff.1 hx).1
    simp at this; omega
   subst hi
   rw [List.getElem?_append_right (Nat.le_refl _)] at hx
   simp at hx
   subst hx
   rw [List.take_left']
   ·refine ⟨t,ht,by rw [hm],by rw [← hix]; exact ha',h.le t,?_⟩
    rw [hm]
    dsimp only
    rw [hop,h.vs]
   ·rfl
 ·rw [e2]
  show upd a.ix t (aftI (ts.getD t []) (a.ix t+1)) t'=rpIx ts (rpStep n ts (rpl n ts a.ms) t) t'
  unfold rpIx rpStep
  dsimp only
  by_cases e:t'=t
  ·subst e
   rw [upd_same,upd_same,← hix]
  ·rw [upd_ne _ _ e,upd_ne _ _ e]
   exact h.ix t'
 ·rw [e2]
  show upd (rpl n ts a.ms).1 t (rpIx ts (rpl n ts a.ms) t+1) t'≤_
  by_cases e:t'=t
  ·subst e
   rw [upd_same,← hix]
   omega
  ·rw [upd_ne _ _ e]
   exact h.le t'
 ·rw [e2]
  show upd a.vs _ _=upd (rpl n ts a.ms).2 _ _
  rw [hop,h.vs]
 ·rw [e1]
  have:=h.len
  simp only [List.length_append,List.length_cons,List.length_nil]
  omega
theorem linear_ok {n:Nat} {ts:List (List Op3)} {picks:List Int} {drain:Bool} {z:WA × Int} (h:(wordG n ts).Run picks drain (wa0 ts) z):GL n ts z.1 :=
 h.inv (I:=GL n ts) (fun a t k h1 h2 h3=>h3.pick h1 h2) (gl_0 n ts)
theorem sameInts_wp {x:World} {av bv:Value} {ps:List Int} (ha:IntsX x av ps) (hb:IntsX x bv ps) (hpl:ps.length≤1000000000000) :
  Calls Try.prog 46 #[av,bv] x fun e x'=>e=.returned (.bool true)∧∃ k,x'=x.drewN k:=by
 obtain ⟨A,g,go,cap,rfl,ha1,ha2⟩:=ha
 obtain ⟨A',g',go',cap',rfl,hb1,hb2⟩:=hb
 replace ha2:=Lib.hid ha2
 replace hb2:=Lib.hid hb2
 go_enter Try.func46,Try.ntmps46
 go_wp2
 go_loopw [5] (fun v wr=>∃ i:Nat,v=.int .i64 (i:Int)∧i≤ps.length∧∃ k,wr=x.drewN k) (fun v _=>ps.length+1 - natOfV v)
 case atStart=>exact ⟨0,rfl,Nat.zero_le _,0,rfl⟩
 case round =>
  obtain ⟨i,rfl,hi,k,rfl⟩:=hrel
  by_cases hlt:i < ps.length
  ·have hne:ps≠[]:=fun e=>by rw [e] at hlt; exact absurd hlt (Nat.not_lt_zero _)
   obtain rfl:=ha1 hne
   obtain rfl:=hb1 hne
   obtain ⟨p,hp⟩:∃ p,ps[i]?=some p:=⟨_,List.getElem?_eq_getElem hlt⟩
   have a1:=ha2.out i p hp
   have b1:=hb2.out i p hp
   have g1:(i:Int) < (ps.length:Int):=by omega
   have g2:(0:Int)≤(i:Int):=by omega
   have hiw:IntKind.i64.wrap ((i:Int)+1)=((i+1:Nat):Int):=by rw [IntKind.wrap_i64]; omega
   go_wp2
   go_quiet (fail)
   go_wp2
   exact ⟨⟨i + 1, by rw [Int.natCast_add]; rfl, by omega, _, rfl⟩, by have e : natOfV (.int .i64 ((i : Int) + 1)) = i + 1 := by simp [natOfV]
                                                                      rw [e]; simp [natOfV]; omega⟩
  ·obtain rfl:i=ps.length:=by omega
   have g1:¬ (ps.length:Int) < (ps.length:Int):=by omega
   go_wp2
   go_ret
   exact ⟨rfl,k,rfl⟩
structure LinW (x wr:World) (ab N:Nat) (at':Nat→Nat) (hb n:Nat) (vs:Nat→Int):Prop where
 size:x.heap.size≤wr.heap.size
 old:∀ b,b < x.heap.size→b≠ab→b≠hb→wr.heap[b]?=x.heap[b]?
 rowA:wr.heap[ab]?=some (.cells ((List.range N).map fun t=>Value.int .i64 (at' t:Int)).toArray 3)
 rowH:wr.heap[hb]?=some (.cells ((List.range n).map fun j=>Value.int .i64 (vs j)).toArray 2)
theorem lrow_set {α:Type} {n i:Nat} {v:Nat→α} {F:α→Value} {u:α} {ty:TypeId} (hi:i < n):Obj.cells (((List.range n).map fun j=>F (v j)).toArray.setIfInBounds i (F u)) ty=.cells ((List.range n).map fun j=>F (upd v i u j)).toArray ty:=by
 rw [List.setIfInBounds_toArray]
 congr 2
 apply List.ext_getElem?
 intro j
 by_cases e:i=j
 ·subst e
  rw [List.getElem?_set_self (by simpa using hi),List.getElem?_map,List.getElem?_range hi]
  simp [upd_same]
 ·rw [List.getElem?_set_ne e]
  by_cases hj:j < n
  ·simp [hj,upd_ne _ _ (Ne.symm e)]
  ·simp [hj]
section
variable {x wr:World} {ab N hb n:Nat} {at':Nat→Nat} {vs:Nat→Int}
theorem LinW.cellA (h:LinW x wr ab N at' hb n vs) {t:Nat} (ht:t < N):wr.cell? ⟨ab,t,none⟩=some (.int .i64 (at' t:Int)):=obj_cell h.rowA (by simp [ht])
theorem LinW.vis (h:LinW x wr ab N at' hb n vs) {a:Addr} {v:Value} (h1:x.cell? a=some v) (h2:a.block≠ab) (h3:a.block≠hb):wr.cell? a=some v :=
 (World.cell?_of_block (h.old a.block (World.block_lt_of_cell? x _ h1) h2 h3)).trans h1
theorem LinW.drew (h:LinW x wr ab N at' hb n vs) (k:Nat):LinW x (wr.drewN k) ab N at' hb n vs:=⟨h.size,h.old,h.rowA,h.rowH⟩
theorem LinW.alloc (h:LinW x wr ab N at' hb n vs) (o:Obj):LinW x (wr.alloc o) ab N at' hb n vs:=by
 have l1:=(Array.getElem?_eq_some_iff.1 h.rowA).1
 have l2:=(Array.getElem?_eq_some_iff.1 h.rowH).1
 have hs:=h.size
 exact ⟨by rw [alloc_size]; omega,fun b hb h1 h2=>(alloc_old (by omega)).trans (h.old b hb h1 h2),(alloc_old l1).trans h.rowA,(alloc_old l2).trans h.rowH⟩
theorem LinW.push {w':World} {o:Obj} (h:LinW x wr ab N at' hb n vs) (e:w'.heap=wr.heap.push o):LinW x w' ab N at' hb n vs:=by
 have l1:=(Array.getElem?_eq_some_iff.1 h.rowA).1
 have l2:=(Array.getElem?_eq_some_iff.1 h.rowH).1
 have hs:=h.size
 have old:∀ b,b < wr.heap.size→w'.heap[b]?=wr.heap[b]?:=fun b hb=>by rw [e,Array.getElem?_push,if_neg (by omega)]
 exact ⟨by rw [e,Array.size_push]; omega,fun b hb h1 h2=>(old b (by omega)).trans (h.old b hb h1 h2),(old ab l1).trans h.rowA,(old hb l2).trans h.rowH⟩
theorem LinW.setA (h:LinW x wr ab N at' hb n vs) (hne:ab≠hb) {t j:Nat} (ht:t < N):LinW x (wr.setCell ⟨ab,t,none⟩ (.int .i64 (j:Int))) ab N (upd at' t j) hb n vs:=by
 refine ⟨by have:=h.size; simpa [World.setCell] using this,fun b hb h1 h2=>by rw [heap_setCell_ne (a:=⟨ab,t,none⟩) (fun e=>h1 e.symm)]; exact h.old b hb h1 h2,?_,by rw [heap_setCell_ne (a:=⟨ab,t,none⟩) hne]; exact h.rowH⟩
 have e:(wr.setCell ⟨ab,t,none⟩ (.int .i64 (j:Int))).heap[ab]?=_:=heap_set (a:=⟨ab,t,none⟩) (w:=wr) rfl h.rowA
 rw [e]
 exact congrArg some (lrow_set (F:=fun (q:Nat)=>Value.int .i64 (q:Int)) ht)
theorem LinW.setH (h:LinW x wr ab N at' hb n vs) (hne:ab≠hb) {j:Nat} {v:Int} (hj:j < n):LinW x (wr.setCell ⟨hb,j,none⟩ (.int .i64 v)) ab N at' hb n (upd vs j v):=by
 refine ⟨by have:=h.size; simpa [World.setCell] using this,fun b hb' h1 h2=>by rw [heap_setCell_ne (a:=⟨hb,j,none⟩) (fun e=>h2 e.symm)]; exact h.old b hb' h1 h2,by rw [heap_setCell_ne (a:=⟨hb,j,none⟩) (Ne.symm hne)]; exact h.rowA,?_⟩
 have e:(wr.setCell ⟨hb,j,none⟩ (.int .i64 v)).heap[hb]?=_:=heap_set (a:=⟨hb,j,none⟩) (w:=wr) rfl h.rowH
 rw [e]
 exact congrArg some (lrow_set (F:=fun (q:Int)=>Value.int .i64 q) hj)
end
structure RW (B:Nat) (pv:Value) (drain:Bool) (N n:Nat) (x wr:World) (K nxt:Nat) (vs:Nat→Int) (ix cnt:Nat→Nat) (en:Nat→Bool):Prop where
 base:Below B x wr
 sz:B+5≤wr.heap.size
 row:wr.heap[B]?=some (.cells ((List.range n).map fun j=>Value.int .i64 (vs j)).toArray 2)
 run:wr.heap[B+1]?=some (runCells pv drain K nxt)
 ra:wr.heap[B+1+1]?=some (.cells ((List.range N).map fun t=>Value.int .i64 (ix t:Int)).toArray 3)
 rd:wr.heap[B+1+1+1]?=some (.cells ((List.range N).map fun t=>Value.int .i64 (cnt t:Int)).toArray 3)
 re:wr.heap[B+1+1+1+1]?=some (.cells ((List.range N).map fun t=>Value.bool (en t)).toArray 4)
section
variable {B:Nat} {pv:Value} {drain:Bool} {N n:Nat} {x wr:World} {K nxt:Nat} {vs:Nat→Int} {ix cnt:Nat→Nat} {en:Nat→Bool}
theorem RW.vis (h:RW B pv drain N n x wr K nxt vs ix cnt en) (hB:B=x.heap.size) {a:Addr} {v:Value} (e:x.cell? a=some v):wr.cell? a=some v:=(h.base.cell (by rw [hB]; exact World.block_lt_of_cell? x _ e)).trans e
theorem RW.same {w':World} (h:RW B pv drain N n x wr K nxt vs ix cnt en) (hb:Below (B+5) wr w'):RW B pv drain N n x w' K nxt vs ix cnt en:=by
 have hs:=h.sz
 have hz:=hb.size
 exact ⟨h.base.trans (hb.mono (by omega)),by omega,(hb.block _ (by omega)).trans h.row,(hb.block _ (by omega)).trans h.run,(hb.block _ (by omega)).trans h.ra,(hb.block _ (by omega)).trans h.rd,(hb.block _ (by omega)).trans h.re⟩
theorem RW.drew (h:RW B pv drain N n x wr K nxt vs ix cnt en):RW B pv drain N n x wr.drew K nxt vs ix cnt en:=h.same (Below.refl _ _).drew
theorem RW.drewN (h:RW B pv drain N n x wr K nxt vs ix cnt en) (k:Nat):RW B pv drain N n x (wr.drewN k) K nxt vs ix cnt en:=h.same ⟨rfl,rfl,rfl,Nat.le_refl _,fun _ _=>rfl⟩
theorem RW.alloc (h:RW B pv drain N n x wr K nxt vs ix cnt en) (o:Obj):RW B pv drain N n x (wr.alloc o) K nxt vs ix cnt en:=h.same ((Below.refl _ _).alloc h.sz o)
theorem RW.push {w':World} {o:Obj} (h:RW B pv drain N n x wr K nxt vs ix cnt en) (e:w'.heap=wr.heap.push o) (hio:w'.os=wr.os∧w'.tape=wr.tape∧w'.output=wr.output):RW B pv drain N n x w' K nxt vs ix cnt en:=by
 have hs:=h.sz
 exact h.same ⟨hio.1,hio.2.1,hio.2.2,by rw [e,Array.size_push]; omega,fun b hb=>by rw [e,Array.getElem?_push,if_neg (by omega)]⟩
theorem RW.grown {w':World} {u:Value} (h:RW B pv drain N n x wr K nxt vs ix cnt en) (hg:wr.grownBy w' u.ownBlock) (hu:∀ k,u.ownBlock=some k→B+5≤k):RW B pv drain N n x w' K nxt vs ix cnt en:=h.same ((Below.refl _ _).grown hg h.sz hu)
theorem RW.next {w':World} {K' nxt':Nat} (h:RW B pv drain N n x wr K nxt vs ix cnt en) (hr:RunTo (B+1) pv drain K' nxt' wr w'):RW B pv drain N n x w' K' nxt' vs ix cnt en:=by
 have hs:=h.sz
 have ho:∀ b,b≠B+1→w'.heap[b]?=wr.heap[b]?:=hr.old
 have hb:=h.base
 exact ⟨⟨hr.io.1.trans hb.os,hr.io.2.1.trans hb.tape,hr.io.2.2.trans hb.output,by have:=hb.size; have:=hr.size; omega,fun b hbb=>(ho b (by omega)).trans (hb.block b hbb)⟩,by rw [hr.size]; exact hs,(ho _ (by omega)).trans h.row,hr.run,(ho _ (by omega)).trans h.ra,(ho _ (by omega)).trans h.rd,(ho _ (by omega)).trans h.re⟩
theorem RW.cellW (h:RW B pv drain N n x wr K nxt vs ix cnt en) {j:Nat} (hj:j < n):wr.cell? ⟨B,j,none⟩=some (.int .i64 (vs j)):=obj_cell h.row (by simp [hj])
theorem RW.cellA (h:RW B pv drain N n x wr K nxt vs ix cnt en) {t:Nat} (ht:t < N):wr.cell? ⟨B+1+1,t,none⟩=some (.int .i64 (ix t:Int)):=obj_cell h.ra (by simp [ht])
theorem RW.cellD (h:RW B pv drain N n x wr K nxt vs ix cnt en) {t:Nat} (ht:t < N):wr.cell? ⟨B+1+1+1,t,none⟩=some (.int .i64 (cnt t:Int)):=obj_cell h.rd (by simp [ht])
theorem RW.cellE (h:RW B pv drain N n x wr K nxt vs ix cnt en) {t:Nat} (ht:t < N):wr.cell? ⟨B+1+1+1+1,t,none⟩=some (.bool (en t)):=obj_cell h.re (by simp [ht])
theorem RW.cellK (h:RW B pv drain N n x wr K nxt vs ix cnt en):wr.cell? ⟨B+1,2,none⟩=some (.int .i64 (K:Int)):=obj_cell h.run rfl
theorem RW.setW (h:RW B pv drain N n x wr K nxt vs ix cnt en) {t:Nat} {u:Int} (ht:t < n):RW B pv drain N n x (wr.setCell ⟨B,t,none⟩ (.int .i64 u)) K nxt (upd vs t u) ix cnt en:=by
 have hs:=h.sz
 refine ⟨h.base.setCell (by dsimp only; omega) _,by simpa [World.setCell] using hs,?_,(by rw [heap_setCell_ne (a:=⟨B,t,none⟩) (by dsimp only; omega)]; exact h.run),(by rw [heap_setCell_ne (a:=⟨B,t,none⟩) (by dsimp only; omega)]; exact h.ra),(by rw [heap_setCell_ne (a:=⟨B,t,none⟩) (by dsimp only; omega)]; exact h.rd),(by rw [heap_setCell_ne (a:=⟨B,t,none⟩) (by dsimp only; omega)]; exact h.re)⟩
 have e:(wr.setCell ⟨B,t,none⟩ (.int .i64 u)).heap[B]?=_:=heap_set (a:=⟨B,t,none⟩) (w:=wr) rfl h.row
 rw [e]
 exact congrArg some (lrow_set (F:=fun (q:Int)=>Value.int .i64 q) ht)
theorem RW.setA (h:RW B pv drain N n x wr K nxt vs ix cnt en) {t:Nat} {u:Nat} (ht:t < N):RW B pv drain N n x (wr.setCell ⟨B+1+1,t,none⟩ (.int .i64 (u:Int))) K nxt vs (upd ix t u) cnt en:=by
 have hs:=h.sz
 refine ⟨h.base.setCell (by dsimp only; omega) _,by simpa [World.setCell] using hs,(by rw [heap_setCell_ne (a:=⟨B+1+1,t,none⟩) (by dsimp only; omega)]; exact h.row),(by rw [heap_setCell_ne (a:=⟨B+1+1,t,none⟩) (by dsimp only; omega)]; exact h.run),?_,(by rw [heap_setCell_ne (a:=⟨B+1+1,t,none⟩) (by dsimp only; omega)]; exact h.rd),(by rw [heap_setCell_ne (a:=⟨B+1+1,t,none⟩) (by dsimp only; omega)]; exact h.re)⟩
 have e:(wr.setCell ⟨B+1+1,t,none⟩ (.int .i64 (u:Int))).heap[B+1+1]?=_:=heap_set (a:=⟨B+1+1,t,none⟩) (w:=wr) rfl h.ra
 rw [e]
 exact congrArg some (lrow_set (F:=fun (q:Nat)=>Value.int .i64 (q:Int)) ht)
theorem RW.setD (h:RW B pv drain N n x wr K nxt vs ix cnt en) {t:Nat} {u:Nat} (ht:t < N):RW B pv drain N n x (wr.setCell ⟨B+1+1+1,t,none⟩ (.int .i64 (u:Int))) K nxt vs ix (upd cnt t u) en:=by
 have hs:=h.sz
 refine ⟨h.base.setCell (by dsimp only; omega) _,by simpa [World.setCell] using hs,(by rw [heap_setCell_ne (a:=⟨B+1+1+1,t,none⟩) (by dsimp only; omega)]; exact h.row),(by rw [heap_setCell_ne (a:=⟨B+1+1+1,t,none⟩) (by dsimp only; omega)]; exact h.run),(by rw [heap_setCell_ne (a:=⟨B+1+1+1,t,none⟩) (by dsimp only; omega)]; exact h.ra),?_,(by rw [heap_setCell_ne (a:=⟨B+1+1+1,t,none⟩) (by dsimp only; omega)]; exact h.re)⟩
 have e:(wr.setCell ⟨B+1+1+1,t,none⟩ (.int .i64 (u:Int))).heap[B+1+1+1]?=_:=heap_set (a:=⟨B+1+1+1,t,none⟩) (w:=wr) rfl h.rd
 rw [e]
 exact congrArg some (lrow_set (F:=fun (q:Nat)=>Value.int .i64 (q:Int)) ht)
theorem RW.setE (h:RW B pv drain N n x wr K nxt vs ix cnt en) {t:Nat} {u:Bool} (ht:t < N):RW B pv drain N n x (wr.setCell ⟨B+1+1+1+1,t,none⟩ (.bool u)) K nxt vs ix cnt (upd en t u):=by
 have hs:=h.sz
 refine ⟨h.base.setCell (by dsimp only; omega) _,by simpa [World.setCell] using hs,(by rw [heap_setCell_ne (a:=⟨B+1+1+1+1,t,none⟩) (by dsimp only; omega)]; exact h.row),(by rw [heap_setCell_ne (a:=⟨B+1+1+1+1,t,none⟩) (by dsimp only; omega)]; exact h.run),(by rw [heap_setCell_ne (a:=⟨B+1+1+1+1,t,none⟩) (by dsimp only; omega)]; exact h.ra),(by rw [heap_setCell_ne (a:=⟨B+1+1+1+1,t,none⟩) (by dsimp only; omega)]; exact h.rd),?_⟩
 have e:(wr.setCell ⟨B+1+1+1+1,t,none⟩ (.bool u)).heap[B+1+1+1+1]?=_:=heap_set (a:=⟨B+1+1+1+1,t,none⟩) (w:=wr) rfl h.re
 rw [e]
 exact congrArg some (lrow_set (F:=fun (q:Bool)=>Value.bool q) ht)
theorem RW.thaw (h:RW B pv drain N n x wr K nxt vs ix cnt en) (t:Nat):wr.frozen? ⟨B,t,none⟩=false∧wr.frozen? ⟨B+1+1,t,none⟩=false∧wr.frozen? ⟨B+1+1+1,t,none⟩=false∧wr.frozen? ⟨B+1+1+1+1,t,none⟩=false:=⟨obj_thaw h.row t,obj_thaw h.ra t,obj_thaw h.rd t,obj_thaw h.re t⟩
end
structure GQ (n:Nat) (ts:List (List Op3)) (a:WA):Prop where
 le:∀ t,t < ts.length→a.ix t≤lenOf ts t
 op:∀ t,t < ts.length→a.ix t < lenOf ts t→isC (opAt ts t (a.ix t)).1=true
 cnt:∀ t,t < ts.length→a.cnt t≤a.ix t
 vs:∀ j,I64 (a.vs j)
theorem lenOf_eq (ts:List (List Op3)) (t:Nat):lenOf ts t=(ts.getD t []).length:=lenOf_getD ts t
theorem opAt_aft {ts:List (List Op3)} {t i:Nat} (h:aftI (ts.getD t []) i < lenOf ts t):isC (opAt ts t (aftI (ts.getD t []) i)).1=true:=by
 rw [lenOf_eq] at h
 obtain ⟨op,h1,h2⟩:=aftI_op _ _ rfl h
 unfold opAt
 rw [h1]
 exact h2
theorem gw_0 (n:Nat) (ts:List (List Op3)):GQ n ts (wa0 ts) :=
 ⟨fun t _=>by rw [lenOf_eq]; exact aftI_le (Nat.zero_le _),fun t _ h=>opAt_aft h,fun t _=>Nat.zero_le _,fun _=>⟨by show (-9223372036854775808:Int)≤0; omega,by show (0:Int)≤9223372036854775807; omega⟩⟩
theorem GQ.pick {n:Nat} {ts:List (List Op3)} (ho:∀ l ∈ ts,∀ op ∈ l,I64 op.1∧I64 op.2.1∧I64 op.2.2) {a:WA} {t:Nat} {k:Int} (h:GQ n ts a) (ht:t < ts.length) (ha:(wordG n ts).alive a t=true):GQ n ts ((wordG n ts).pick a t k):=by
 have ha':a.ix t < lenOf ts t:=of_decide_eq_true ha
 have hge:=aftI_ge (ts.getD t []) (a.ix t+1)
 refine ⟨fun t' ht'=>?_,fun t' ht'=>?_,fun t' ht'=>?_,fun j=>?_⟩
 ·show upd a.ix t _ t'≤_
  by_cases e:t'=t
  ·subst e
   rw [upd_same,lenOf_eq]
   rw [lenOf_eq] at ha'
   exact aftI_le (by omega)
  ·rw [upd_ne _ _ e]
   exact h.le t' ht'
 ·show upd a.ix t _ t' < _→isC (opAt ts t' (upd a.ix t _ t')).1=true
  by_cases e:t'=t
  ·subst e
   rw [upd_same]
   exact opAt_aft
  ·rw [upd_ne _ _ e]
   exact h.op t' ht'
 ·show upd a.cnt t _ t'≤upd a.ix t _ t'
  by_cases e:t'=t
  ·subst e
   rw [upd_same,upd_same]
   have:=h.cnt t' ht'
   omega
  ·rw [upd_ne _ _ e,upd_ne _ _ e]
   exact h.cnt t' ht'
 ·show I64 (upd a.vs _ _ j)
  by_cases e:j=pickIx (opAt ts t (a.ix t)).2.1 n
  ·subst e
   rw [upd_same]
   refine (doW_rng (h.vs _) ?_).1
   have hl:ts[t]?=some (ts.getD t []):=by simp [List.getD,List.getElem?_eq_getElem ht]
   rw [lenOf_eq] at ha'
   have hop:(ts.getD t [])[a.ix t]?=some (opAt ts t (a.ix t)):=by
    unfold opAt
    rw [List.getElem?_eq_getElem ha']
    rfl
   exact (ho _ (List.mem_of_getElem? hl) _ (List.mem_of_getElem? hop)).2.2
  ·rw [upd_ne _ _ e]
   exact h.vs j
noncomputable def rqB:Code:=Try.f44.body.getD .skip
noncomputable def rqR18:Code:=match rqB with | .seq _ (.seq _ (.seq _ (.seq _ (.seq _ (.seq _ (.seq _ (.seq _ (.seq _ (.seq (.seq _ (.block _ (.loop (.seq _ (.seq (.block _ (.seq _ (.seq x _))) _))))) _)))))))))=>x | _=>.skip
theorem rq18_wp {f:Nat→Value} {x:World} {ab t ba bo la lo N lc j nt cap:Nat} {k0 k1 k2:Int} {Q:Exit→Act→World→Prop} (h1:f 1=.slice (some ⟨ba,bo,none⟩) nt cap) (h13:f 12=.slice (some ⟨ab,0,none⟩) nt nt) (h15:f 17=.int .i64 (t:Int)) (ht:t < nt) (hj:j < N)
  (hS0:x.cell? ⟨ab,t,none⟩=some (.int .i64 (j:Int))∧x.cell? ⟨ba,bo+t,none⟩=some (.slice (some ⟨la,lo,none⟩) N lc)∧x.cell? ⟨la,lo+j * 3,none⟩=some (.int .i64 k0)∧x.cell? ⟨la,lo+j * 3+1,none⟩=some (.int .i64 k1)∧x.cell? ⟨la,lo+j * 3+2,none⟩=some (.int .i64 k2))
  (hQ:∀ T' x',T'.size=164→(∀ q,q < 164→q≠18∧¬ (86≤q∧q < 96)→T'[q]?=some (f q))→T'[18]?=some (.pointer (some ⟨x.heap.size,0,none⟩))→x'.heap=x.heap.push (.cells #[.int .i64 k0,.int .i64 k1,.int .i64 k2] 34)→x'.os=x.os∧x'.tape=x.tape∧x'.output=x.output→Q .normal ⟨T',[]⟩ x') :
  rqR18.wp Try.prog Q ⟨(List.map f (List.range 164)).toArray,[]⟩ x:=by
 have gt1:(t:Int) < (nt:Int):=by omega
 have gt0:(0:Int)≤(t:Int):=by omega
 have gj1:(j:Int) < (N:Int):=by omega
 have gj0:(0:Int)≤(j:Int):=by omega
 obtain ⟨c1,c2,c3,c4,c5⟩:=hS0
 replace hQ:=Lib.hid hQ
 simp only [List.range,List.range.loop,List.map_cons,List.map_nil,h1,h13,h15]
 simp only [rqR18,rqB,Try.f44,Option.getD_some]
 refine wp_region_noPanic ?_
 refine region_last (n:=11) (by kernel_rfl) rfl (by kernel_rfl) ?_
 simp only [nopOf,List.setIfInBounds_toArray,List.set_cons_zero,List.set_cons_succ,List.getElem_toArray,List.getElem_cons_succ,List.getElem_cons_zero,List.size_toArray,List.length_cons,List.length_nil,Nat.zero_add,Nat.reduceAdd]
 have hS:x.drew.cell? ⟨ab,t,none⟩=some (.int .i64 (j:Int))∧x.drew.cell? ⟨ba,bo+t,none⟩=some (.slice (some ⟨la,lo,none⟩) N lc)∧x.drew.cell? ⟨la,lo+j * 3,none⟩=some (.int .i64 k0)∧x.drew.cell? ⟨la,lo+j * 3+1,none⟩=some (.int .i64 k1)∧x.drew.cell? ⟨la,lo+j * 3+2,none⟩=some (.int .i64 k2):=⟨c1,c2,c3,c4,c5⟩
 refine wpAny_of_held (S:=fun W=>W.cell? ⟨ab,t,none⟩=some (.int .i64 (j:Int))∧W.cell? ⟨ba,bo+t,none⟩=some (.slice (some ⟨la,lo,none⟩) N lc)∧W.cell? ⟨la,lo+j * 3,none⟩=some (.int .i64 k0)∧W.cell? ⟨la,lo+j * 3+1,none⟩=some (.int .i64 k1)∧W.cell? ⟨la,lo+j * 3+2,none⟩=some (.int .i64 k2)) _ _ _ _ ?_
 refine wpAnyH_take (i:=0) (v:=.slice (some ⟨ba,bo,none⟩) nt cap) rfl (by kernel_rfl) (by kernel_rfl) (by kernel_rfl) (fun _ _ _ h=>h) (Or.inl ⟨by rfl,fun w hSw=>by (obtain ⟨s1,s2,s3,s4,s5⟩:=hSw; go_simp)⟩) hS ?_
 simp only [Act.put,List.setIfInBounds_toArray,List.set_cons_zero,List.set_cons_succ,List.getElem_toArray,List.getElem_cons_succ,List.getElem_cons_zero]
 refine wpAnyH_take (i:=1) (v:=.int .i64 (t:Int)) rfl (by kernel_rfl) (by kernel_rfl) (by kernel_rfl) (fun _ _ _ h=>h) (Or.inl ⟨by rfl,fun w hSw=>by (obtain ⟨s1,s2,s3,s4,s5⟩:=hSw; go_simp)⟩) hS ?_
 simp only [Act.put,List.setIfInBounds_toArray,List.set_cons_zero,List.set_cons_succ,List.getElem_toArray,List.getElem_cons_succ,List.getElem_cons_zero]
 refine wpAnyH_take (i:=2) (v:=.pointer (some ⟨ba,bo+t,none⟩)) rfl (by kernel_rfl) (by kernel_rfl) (by kernel_rfl) (fun _ _ _ h=>h) (Or.inl ⟨by rfl,fun w hSw=>by (obtain ⟨s1,s2,s3,s4,s5⟩:=hSw; go_simp)⟩) hS ?_
 simp only [Act.put,List.setIfInBounds_toArray,List.set_cons_zero,List.set_cons_succ,List.getElem_toArray,List.getElem_cons_succ,List.getElem_cons_zero]
 refine wpAnyH_take (i:=3) (v:=.slice (some ⟨la,lo,none⟩) N lc) rfl (by kernel_rfl) (by kernel_rfl) (by kernel_rfl) (fun _ _ _ h=>h) (Or.inl ⟨by rfl,fun w hSw=>by (obtain ⟨s1,s2,s3,s4,s5⟩:=hSw; go_simp)⟩) hS ?_
 simp only [Act.put,List.setIfInBounds_toArray,List.set_cons_zero,List.set_cons_succ,List.getElem_toArray,List.getElem_cons_succ,List.getElem_cons_zero]
 refine wpAnyH_take (i:=4) (v:=.slice (some ⟨ab,0,none⟩) nt nt) rfl (by kernel_rfl) (by kernel_rfl) (by kernel_rfl) (fun _ _ _ h=>h) (Or.inl ⟨by rfl,fun w hSw=>by (obtain ⟨s1,s2,s3,s4,s5⟩:=hSw; go_simp)⟩) hS ?_
 simp only [Act.put,List.setIfInBounds_toArray,List.set_cons_zero,List.set_cons_succ,List.getElem_toArray,List.getElem_cons_succ,List.getElem_cons_zero]
 refine wpAnyH_take (i:=5) (v:=.int .i64 (t:Int)) rfl (by kernel_rfl) (by kernel_rfl) (by kernel_rfl) (fun _ _ _ h=>h) (Or.inl ⟨by rfl,fun w hSw=>by (obtain ⟨s1,s2,s3,s4,s5⟩:=hSw; go_simp)⟩) hS ?_
 simp only [Act.put,List.setIfInBounds_toArray,List.set_cons_zero,List.set_cons_succ,List.getElem_toArray,List.getElem_cons_succ,List.getElem_cons_zero]
 refine wpAnyH_take (i:=6) (v:=.pointer (some ⟨ab,t,none⟩)) rfl (by kernel_rfl) (by kernel_rfl) (by kernel_rfl) (fun _ _ _ h=>h) (Or.inl ⟨by rfl,fun w hSw=>by (obtain ⟨s1,s2,s3,s4,s5⟩:=hSw; go_simp)⟩) hS ?_
 simp only [Act.put,List.setIfInBounds_toArray,List.set_cons_zero,List.set_cons_succ,List.getElem_toArray,List.getElem_cons_succ,List.getElem_cons_zero]
 refine wpAnyH_take (i:=7) (v:=.int .i64 (j:Int)) rfl (by kernel_rfl) (by kernel_rfl) (by kernel_rfl) (fun _ _ _ h=>h) (Or.inl ⟨by rfl,fun w hSw=>by (obtain ⟨s1,s2,s3,s4,s5⟩:=hSw; go_simp)⟩) hS ?_
 simp only [Act.put,List.setIfInBounds_toArray,List.set_cons_zero,List.set_cons_succ,List.getElem_toArray,List.getElem_cons_succ,List.getElem_cons_zero]
 refine wpAnyH_take (i:=8) (v:=.pointer (some ⟨la,lo+j * 3,none⟩)) rfl (by kernel_rfl) (by kernel_rfl) (by kernel_rfl) (fun _ _ _ h=>h) (Or.inl ⟨by rfl,fun w hSw=>by (obtain ⟨s1,s2,s3,s4,s5⟩:=hSw; go_simp)⟩) hS ?_
 simp only [Act.put,List.setIfInBounds_toArray,List.set_cons_zero,List.set_cons_succ,List.getElem_toArray,List.getElem_cons_succ,List.getElem_cons_zero]
 refine wpAnyH_take (i:=9) (v:=.agg #[.int .i64 k0,.int .i64 k1,.int .i64 k2]) rfl (by kernel_rfl) (by kernel_rfl) (by kernel_rfl) (fun _ _ _ h=>h) (Or.inl ⟨by rfl,fun w hSw=>by (obtain ⟨s1,s2,s3,s4,s5⟩:=hSw; go_simp)⟩) hS ?_
 simp only [Act.put,List.setIfInBounds_toArray,List.set_cons_zero,List.set_cons_succ,List.getElem_toArray,List.getElem_cons_succ,List.getElem_cons_zero]
 refine wpAnyH_ready (rs:=[10]) (by kernel_rfl) (by simp) (AllReadyH.cons rfl (fun K hK=>?_) AllReadyH.nil)
 go_simp
 have far:∀ (a:Addr) (v:Value) (o:Obj),x.cell? a=some v→(x.alloc o).drew.cell? a=some v:=fun a v o h=>(World.cell?_alloc_some x _ o (by rw [h]; rfl)).trans h
 refine hK.out _ _ ⟨far _ _ _ c1,far _ _ _ c2,far _ _ _ c3,far _ _ _ c4,far _ _ _ c5⟩ (fun _=>?_)
 clear hK K
 try simp only [Act.put,List.setIfInBounds_toArray,List.set_cons_zero,List.set_cons_succ,List.getElem_toArray,List.getElem_cons_succ,List.getElem_cons_zero]
 refine wpAnyH_ready (rs:=[11]) (by kernel_rfl) (by simp) (AllReadyH.cons rfl (fun K hK=>?_) AllReadyH.nil)
 go_simp
 refine hK.out _ _ ⟨far _ _ _ c1,far _ _ _ c2,far _ _ _ c3,far _ _ _ c4,far _ _ _ c5⟩ (fun _=>?_)
 clear hK K
 refine wpAnyH_done (by kernel_rfl) ?_ _
 unfold LastQ
 go_simp
 refine hQ.out _ _ (by simp) (fun q hq hn=>?_) (by simp) rfl ⟨rfl,rfl,rfl⟩
 obtain ⟨hn1,hn2⟩:=hn
 match q,hq,hn1,hn2 with
 | 18,_,h,_=>exact absurd rfl h
 | 86,_,_,h | 87,_,_,h | 88,_,_,h | 89,_,_,h | 90,_,_,h | 91,_,_,h | 92,_,_,h | 93,_,_,h | 94,_,_,h | 95,_,_,h=>exact absurd (by decide) h
 | 0,_,_,_ | 1,_,_,_ | 2,_,_,_ | 3,_,_,_ | 4,_,_,_ | 5,_,_,_ | 6,_,_,_ | 7,_,_,_ | 8,_,_,_ | 9,_,_,_ | 10,_,_,_ | 11,_,_,_ | 12,_,_,_ | 13,_,_,_ | 14,_,_,_ | 15,_,_,_ | 16,_,_,_ | 17,_,_,_ | 19,_,_,_ | 20,_,_,_ | 21,_,_,_ | 22,_,_,_ | 23,_,_,_ | 24,_,_,_ | 25,_,_,_ | 26,_,_,_ | 27,_,_,_ | 28,_,_,_ | 29,_,_,_ | 30,_,_,_ | 31,_,_,_ | 32,_,_,_ | 33,_,_,_ | 34,_,_,_ | 35,_,_,_ | 36,_,_,_ | 37,_,_,_ | 38,_,_,_ | 39,_,_,_ | 40,_,_,_ | 41,_,_,_ | 42,_,_,_ | 43,_,_,_ | 44,_,_,_ | 45,_,_,_ | 46,_,_,_ | 47,_,_,_ | 48,_,_,_ | 49,_,_,_ | 50,_,_,_ | 51,_,_,_ | 52,_,_,_ | 53,_,_,_ | 54,_,_,_ | 55,_,_,_ | 56,_,_,_ | 57,_,_,_ | 58,_,_,_ | 59,_,_,_ | 60,_,_,_ | 61,_,_,_ | 62,_,_,_ | 63,_,_,_ | 64,_,_,_ | 65,_,_,_ | 66,_,_,_ | 67,_,_,_ | 68,_,_,_ | 69,_,_,_ | 70,_,_,_ | 71,_,_,_ | 72,_,_,_ | 73,_,_,_ | 74,_,_,_ | 75,_,_,_ | 76,_,_,_ | 77,_,_,_ | 78,_,_,_ | 79,_,_,_ | 80,_,_,_ | 81,_,_,_ | 82,_,_,_ | 83,_,_,_ | 84,_,_,_ | 85,_,_,_ | 96,_,_,_ | 97,_,_,_ | 98,_,_,_ | 99,_,_,_ | 100,_,_,_ | 101,_,_,_ | 102,_,_,_ | 103,_,_,_ | 104,_,_,_ | 105,_,_,_ | 106,_,_,_ | 107,_,_,_ | 108,_,_,_ | 109,_,_,_ | 110,_,_,_ | 111,_,_,_ | 112,_,_,_ | 113,_,_,_ | 114,_,_,_ | 115,_,_,_ | 116,_,_,_ | 117,_,_,_ | 118,_,_,_ | 119,_,_,_ | 120,_,_,_ | 121,_,_,_ | 122,_,_,_ | 123,_,_,_ | 124,_,_,_ | 125,_,_,_ | 126,_,_,_ | 127,_,_,_ | 128,_,_,_ | 129,_,_,_ | 130,_,_,_ | 131,_,_,_ | 132,_,_,_ | 133,_,_,_ | 134,_,_,_ | 135,_,_,_ | 136,_,_,_ | 137,_,_,_ | 138,_,_,_ | 139,_,_,_ | 140,_,_,_ | 141,_,_,_ | 142,_,_,_ | 143,_,_,_ | 144,_,_,_ | 145,_,_,_ | 146,_,_,_ | 147,_,_,_ | 148,_,_,_ | 149,_,_,_ | 150,_,_,_ | 151,_,_,_ | 152,_,_,_ | 153,_,_,_ | 154,_,_,_ | 155,_,_,_ | 156,_,_,_ | 157,_,_,_ | 158,_,_,_ | 159,_,_,_ | 160,_,_,_ | 161,_,_,_ | 162,_,_,_ | 163,_,_,_=>simp [h1,h13,h15]
 | q+164,hq,_,_=>exact absurd hq (by omega)
theorem rq18_T {c:Code} (hcode:c=rqR18) {T:Array Value} {x:World} {ab t ba bo la lo N lc j nt cap:Nat} {k0 k1 k2:Int} {Q:Exit→Act→World→Prop} (hs:T.size=164) (h1:T[1]?=some (.slice (some ⟨ba,bo,none⟩) nt cap)) (h13:T[12]?=some (.slice (some ⟨ab,0,none⟩) nt nt)) (h15:T[17]?=some (.int .i64 (t:Int))) (ht:t < nt) (hj:j < N)
  (hS0:x.cell? ⟨ab,t,none⟩=some (.int .i64 (j:Int))∧x.cell? ⟨ba,bo+t,none⟩=some (.slice (some ⟨la,lo,none⟩) N lc)∧x.cell? ⟨la,lo+j * 3,none⟩=some (.int .i64 k0)∧x.cell? ⟨la,lo+j * 3+1,none⟩=some (.int .i64 k1)∧x.cell? ⟨la,lo+j * 3+2,none⟩=some (.int .i64 k2))
  (hQ:∀ T' x',T'.size=164→(∀ q,q < 164→q≠18∧¬ (86≤q∧q < 96)→T'[q]?=T[q]?)→T'[18]?=some (.pointer (some ⟨x.heap.size,0,none⟩))→x'.heap=x.heap.push (.cells #[.int .i64 k0,.int .i64 k1,.int .i64 k2] 34)→x'.os=x.os∧x'.tape=x.tape∧x'.output=x.output→Q .normal ⟨T',[]⟩ x') :
  c.wp Try.prog Q ⟨T,[]⟩ x:=by
 subst hcode
 obtain ⟨f,hf,fz⟩:=arrfv T hs
 have e1:=fz 1 _ h1
 have e13:=fz 12 _ h13
 have e15:=fz 17 _ h15
 subst hf
 exact rq18_wp e1 e13 e15 ht hj hS0 (fun T' x' a1 a2 a3 a4 a5=>hQ T' x' a1 (fun q h1 h2=>by rw [a2 q h1 h2,arrf_get f (by omega)]) a3 a4 a5)
end Go.Proofs.Ytimlbbleblijnaa.Co

namespace Go.Proofs.Ytimlbbleblijnaa.Co
open Go Go.Conc Go.RowKit
theorem region_quiet_last {P:Program} {l:List Oper} {n id:Nat} {o:Oper} {a:Act} {w:World} {Q:Exit→Act→World→Prop} (hm:P.follows .mixedOrders=true) (ho:l[n]?=some o) (hB:lastB .any l.toArray n=true) (hL:Region.lexB .any (l.set n (nopOf o)).toArray=true)
  (h:wpQuiet P (l.set n (nopOf o)).toArray (fun w'=>∃ n,w'=w.drewN n) (fun a'=>∀ w',(∃ n,w'=w.drewN n)→LastQ P o Q .normal a' w') (l.set n (nopOf o)) a):(Code.region id l.toArray true).wp P Q a w:=by
 refine region_last (n:=n) (o:=o) hm (by simpa using ho) hB ?_
 have e:l.toArray.setIfInBounds n (nopOf o)=(l.set n (nopOf o)).toArray:=by simp
 rw [e]
 simp only [Region.lexB,Bool.and_eq_true] at hL
 refine wpAny_of_quiet (C:=fun w'=>∃ n,w'=w.drewN n) (Q:=fun a'=>∀ w',(∃ n,w'=w.drewN n)→LastQ P o Q .normal a' w') (fun _ w' hw' h=>h w' hw') _ _ _ _ ⟨1,rfl⟩ ?_
 have:=wpAnyQ_lex (C:=fun w'=>∃ n,w'=w.drewN n) (md:=.any) (ops:=(l.set n (nopOf o)).toArray) hL.1 (l.set n (nopOf o)) 0 (Array.replicate (l.set n (nopOf o)).toArray.size false) a (by simp) (by simpa using hL.2) h
 simpa using this
end Go.Proofs.Ytimlbbleblijnaa.Co
