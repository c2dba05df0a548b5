/- Lemmas for the laws of this seat, laid together of PHf, PJa, PJb, PJc, PJ0, PHg. -/
import Derived.Test.YtimlbbleblijnaaW19
import Derived.Maps.OwnSet
import Derived.Maps.Keyed

set_option linter.unusedVariables false
set_option linter.unusedSimpArgs false
set_option maxRecDepth 100000
set_option maxHeartbeats 4000000
namespace Go.Proofs.Ytimlbbleblijnaa.Co
open Go Go.Conc Go.RowKit
theorem wrap_sub (v n:Int) (h:-9223372036854775808≤v∧v≤9223372036854775807):IntKind.i64.wrap (IntKind.i64.wrap (v+n) - n)=v:=by
  rw [IntKind.wrap_i64,IntKind.wrap_i64]
  omega
theorem wrap_rng (v:Int):-9223372036854775808≤IntKind.i64.wrap v∧IntKind.i64.wrap v≤9223372036854775807:=by
  rw [IntKind.wrap_i64]
  omega
theorem isC_cases {k:Int} (h:isC k=true):k=1∨k=2∨k=3∨k=4:=by
  unfold isC at h
  simp only [Bool.and_eq_true,decide_eq_true_eq] at h
  omega
section
variable {rb xb okb stb la lo cap:Nat} {th:Th} {K:Nat→Obj→Prop} {ops:List Op3} {b₀:Frame} {a₀:Act} {ops₀:Array Oper} {i₀:Nat} {rest₀:List Nat} {k₀:List Item} {cl:List Frame}
end
section
variable {j:Nat} {F:Machine→Trace→Prop} {E:Env} {w:World} {cs:List Frame}
end
section
variable {xb okb stb la lo cap xbb lbb:Nat} {K:Nat→Obj→Prop} {ops:List Op3}
end
end Go.Proofs.Ytimlbbleblijnaa.Co

namespace Go.Proofs.Ytimlbbleblijnaa.Co
open Go Go.Conc Go.RowKit
open Go.ConcN (sumTo upd sumTo_upd upd_ne upd_same sumTo_congr le_sumTo)
def aftI (l:List Op3) (i:Nat):Nat:=i+((l.drop i).takeWhile fun o=>!isC o.1).length
theorem aftI_call {l:List Op3} {i:Nat} {op:Op3} (h:l[i]?=some op) (hc:isC op.1=true):aftI l i=i:=by
  have hl:=(List.getElem?_eq_some_iff.1 h).1
  unfold aftI
  rw [List.drop_eq_getElem_cons hl,(List.getElem?_eq_some_iff.1 h).2,List.takeWhile_cons,hc]
  rfl
theorem aftI_skip {l:List Op3} {i:Nat} {op:Op3} (h:l[i]?=some op) (hc:isC op.1=false):aftI l i=aftI l (i+1):=by
  have hl:=(List.getElem?_eq_some_iff.1 h).1
  unfold aftI
  rw [List.drop_eq_getElem_cons hl,(List.getElem?_eq_some_iff.1 h).2,List.takeWhile_cons,hc]
  simp only [Bool.not_false,if_true,List.length_cons]
  omega
theorem aftI_end {l:List Op3} {i:Nat} (h:l.length≤i):aftI l i=i:=by
  unfold aftI
  rw [List.drop_eq_nil_of_le h]
  rfl
theorem aftI_ge (l:List Op3) (i:Nat):i≤aftI l i:=Nat.le_add_right _ _
theorem aftI_op {l:List Op3}:∀ (m i:Nat),l.length - i=m→aftI l i < l.length→∃ op,l[aftI l i]?=some op∧isC op.1=true
  | 0,i,hm,h=>by
    have:=aftI_ge l i
    omega
  | m+1,i,hm,h=>by
    have hl:i < l.length:=by omega
    have e:=List.getElem?_eq_getElem hl
    cases hc:isC (l[i]).1 with
    | true =>
      rw [aftI_call e hc]
      exact ⟨_,e,hc⟩
    | false =>
      rw [aftI_skip e hc] at h ⊢
      exact aftI_op m (i+1) (by omega) h
structure WS where
  ms:List Mk
  cnt:Nat→Nat
  vs:Nat→Int
structure WL where
  t:Nat
  i:Nat
  c:Nat
def opsOf (L:List PT) (t:Nat):List Op3:=((L[t]?).map (·.ops)).getD []
theorem opsOf_of {L:List PT} {t:Nat} {p:PT} (h:L[t]?=some p):opsOf L t=p.ops:=by unfold opsOf; rw [h]; rfl
def standW (L:List PT) (t c i:Nat):Option WL:=if i < (opsOf L t).length then some ⟨t,i,c⟩ else none
def doneW (n:Nat) (s:WS) (t c:Nat) (k:Int) (op:Op3):WS :=
  ⟨s.ms ++ [((t:Int),k,(c:Int),(doW (s.vs (pickIx op.2.1 n)) op.1 op.2.2).2)],upd s.cnt t (c+1),upd s.vs (pickIx op.2.1 n) (doW (s.vs (pickIx op.2.1 n)) op.1 op.2.2).1⟩
def wrow (n:Nat) (v:Nat→Int):Obj:=.cells ((List.range n).map fun i=>.int .i64 (v i)).toArray 46
def KW (K:Nat→Obj→Prop) (wb n:Nat) (v:Nat→Int) (b:Nat) (o:Obj):Prop:=K b o∨(b=wb∧o=wrow n v)
def I64 (v:Int):Prop:=-9223372036854775808≤v∧v≤9223372036854775807
structure WordM (mb wb n:Nat) (K:Nat→Obj→Prop) (L:List PT) (s:WS) (E:Env) (w:World):Prop where
  m:PlayM mb (KW K wb n s.vs) L ⟨s.ms,[],s.cnt⟩ E w
  rng:∀ i,I64 (s.vs i)
theorem standW_some {L:List PT} {t c i:Nat} {l:WL} (h:standW L t c i=some l):l=⟨t,i,c⟩∧i < (opsOf L t).length:=by
  unfold standW at h
  split at h
  · next h1=>exact ⟨(Option.some.inj h).symm,h1⟩
  · cases h
def wordD (mb wb n:Nat) (K:Nat→Obj→Prop) (L:List PT):Prot WS WL where
  M:=WordM mb wb n K L
  next ℓ k s z:=∃ op,(opsOf L ℓ.t)[ℓ.i]?=some op∧isC op.1=true∧z=(doneW n s ℓ.t ℓ.c k op,standW L ℓ.t (ℓ.c+1) (aftI (opsOf L ℓ.t) (ℓ.i+1)))
  fits ℓ s:=s.cnt ℓ.t=ℓ.c∧ℓ.c≤ℓ.i∧ℓ.i < (opsOf L ℓ.t).length
  who ℓ:=ℓ.t
  init t s:=∀ t',t≤t'→s.cnt t'=0
  mono:=fun ℓ k s s' o l2 h1 ⟨c2,c3,c4⟩ hw ⟨op,hop,hc,hz⟩=>by
    cases hz
    exact ⟨(upd_ne _ _ hw).trans c2,c3,c4⟩
  fresh:=fun ℓ k s s' l' ⟨f1,f2,f3⟩ ⟨op,hop,hc,hz⟩=>by
    have e1:s'=doneW n s ℓ.t ℓ.c k op:=congrArg Prod.fst hz
    have e2:some l'=standW L ℓ.t (ℓ.c+1) (aftI (opsOf L ℓ.t) (ℓ.i+1)):=congrArg Prod.snd hz
    obtain ⟨rfl,h2⟩:=standW_some e2.symm
    subst e1
    have:=aftI_ge (opsOf L ℓ.t) (ℓ.i+1)
    exact ⟨⟨upd_same ..,by dsimp only; omega,h2⟩,rfl⟩
  tal ℓ:=((ℓ.c:Int),0,0)
  closed:=fun s E w E' w' m hb=>⟨(playD mb (KW K wb n s.vs) L).closed _ _ _ _ _ m.m hb,m.rng⟩
def startW (L:List PT) (t:Nat) (s:WS) (z:WS × Option WL):Prop:=z=(s,standW L t 0 (aftI (opsOf L t) 0))
theorem word_start {mb wb n:Nat} {K:Nat→Obj→Prop} {L:List PT} (t:Nat):StartOk (wordD mb wb n K L) t (startW L t):=by
  refine ⟨fun s s' o l2 hi ha hw h2=>?_,fun s s' l' hi ha=>?_,fun s s' o hi ha=>?_⟩
  · cases ha; exact h2
  · have e1:s'=s:=congrArg Prod.fst ha
    have e2:some l'=standW L t 0 (aftI (opsOf L t) 0):=congrArg Prod.snd ha
    obtain ⟨rfl,h2⟩:=standW_some e2.symm
    subst e1
    exact ⟨⟨hi t (Nat.le_refl t),Nat.zero_le _,h2⟩,rfl⟩
  · cases ha
    exact fun t' ht=>hi t' (by omega)
theorem wrow_word {n i:Nat} {v:Nat→Int} {w:World} {wb:Nat} (h:w.heap[wb]?=some (wrow n v)) (hi:i < n):WordAt w ⟨wb,i,none⟩ (v i) :=
  ⟨rfl,_,46,h,by simp [hi]⟩
theorem wrow_set {n i:Nat} {v:Nat→Int} {x:Int} (hi:i < n):Obj.cells (((List.range n).map fun j=>Value.int .i64 (v j)).toArray.setIfInBounds i (.int .i64 x)) 46=wrow n (upd v i x):=by
  unfold wrow
  rw [List.setIfInBounds_toArray]
  congr 2
  apply List.ext_getElem?
  intro j
  by_cases e:i=j
  · subst e
    rw [List.getElem?_set_self (by simpa using hi),List.getElem?_map,List.getElem?_range hi]
    simp [upd_same]
  · rw [List.getElem?_set_ne e]
    by_cases hj:j < n
    · simp [hj,upd_ne _ _ (Ne.symm e)]
    · simp [hj]
section
variable {mb wb n:Nat} {K:Nat→Obj→Prop} {L:List PT} {s:WS} {E E':Env} {w w':World}
theorem WordM.konst (m:WordM mb wb n K L s E w) (a:Addr) (v:Value) (h:KC K a v):w.cell? a=some v∧E.H a.block=none∧a.block≠mb:=by
  obtain ⟨o,h1,h2⟩:=h
  obtain ⟨k1,k2,k3⟩:=m.m.kobj _ _ (.inl h1)
  exact ⟨h2 w k1,k2,k3⟩
theorem WordM.word (m:WordM mb wb n K L s E w) {i:Nat} (hi:i < n):WordAt w ⟨wb,i,none⟩ (s.vs i)∧E.H wb=none:=by
  obtain ⟨k1,k2,k3⟩:=m.m.kobj wb _ (.inr ⟨rfl,rfl⟩)
  exact ⟨wrow_word k1 hi,k2⟩
theorem WordM.wset (m:WordM mb wb n K L s E w) (hne:∀ b o,K b o→b≠wb) {i:Nat} {x:Int} (hi:i < n) (S:WSet E w E' w' ⟨wb,i,none⟩ x) (hx:I64 x):WordM mb wb n K L { s with vs:=upd s.vs i x } E' w':=by
  obtain ⟨k1,k2,k3⟩:=m.m.kobj wb _ (.inr ⟨rfl,rfl⟩)
  obtain ⟨mv,r1,r2,r3⟩:=m.m.row
  refine ⟨⟨by rw [S.H]; exact m.m.mbH,fun b o hk=>?_,⟨mv,?_,ownsRow_same r2 (fun g hg=>?_),fun g hg=>?_⟩,(fun ob ho=>by cases ho),m.m.len,m.m.cnt⟩,fun j=>?_⟩
  · rcases hk with hk | ⟨rfl,rfl⟩
    · obtain ⟨q1,q2,q3⟩:=m.m.kobj b o (.inl hk)
      exact ⟨(S.stands q2 q1 (hne b o hk)).2,(S.stands q2 q1 (hne b o hk)).1,q3⟩
    · refine ⟨?_,by rw [S.H]; exact k2,k3⟩
      rw [← wrow_set hi]
      exact S.new _ _ k1
  · exact (S.stands m.m.mbH r1 (fun e=>k3 e.symm)).2
  · have hgw:g≠wb:=fun e=>(r3 g hg).2.2 wb _ (.inr ⟨rfl,rfl⟩) e.symm
    obtain ⟨o,ho⟩:∃ o,w.heap[g]?=some o:=⟨_,Array.getElem?_eq_getElem (r2.lt g hg).2⟩
    rw [ho]
    exact (S.stands (r3 g hg).1 ho hgw).2
  · obtain ⟨q1,q2,q3⟩:=r3 g hg
    refine ⟨by rw [S.H]; exact q1,fun ob ho=>(by cases ho),fun b o hk=>?_⟩
    rcases hk with hk | ⟨rfl,rfl⟩
    · exact q3 b o (.inl hk)
    · exact q3 b _ (.inr ⟨rfl,rfl⟩)
  · dsimp only
    by_cases e:j=i
    · subst e; rw [upd_same]; exact hx
    · rw [upd_ne _ _ e]; exact m.rng j
end
end Go.Proofs.Ytimlbbleblijnaa.Co

namespace Go.Proofs.Ytimlbbleblijnaa.Co
open Go Go.Conc Go.RowKit
open Go.Maps (Keyed)
def fvV (f:Nat):Value:=.func (.func f) #[] #[]
def RV:Value→Option (DataW Value × List MemPlace):=fun v=>some (.held v,[])
theorem RV_inv {v:Value} {d:DataW Value} {ps:List MemPlace} (h:RV v=some (d,ps)):d=.held v:=by
  unfold RV at h
  simp only [Option.some.injEq,Prod.mk.injEq] at h
  exact h.1.symm
def DW:DataW Value:=((((DataW.map []).put (.int .i64 1) (.held (fvV 124))).put (.int .i64 2) (.held (fvV 125))).put (.int .i64 3) (.held (fvV 68))).put (.int .i64 4) (.held (fvV 69))
theorem DW_eq:DW=.map [(.int .i64 1,.held (fvV 124)),(.int .i64 2,.held (fvV 125)),(.int .i64 3,.held (fvV 68)),(.int .i64 4,.held (fvV 69))]:=by rfl
def fnOf (k:Int):Nat:=if k=1 then 124 else if k=2 then 125 else if k=3 then 68 else 69
theorem DW_at (k:Int) (z:DataW Value):DW.atKey (.int .i64 k) z=if isC k then .held (fvV (fnOf k)) else z:=by
  rw [DW_eq]
  by_cases h1:k=1
  · subst h1; rfl
  by_cases h2:k=2
  · subst h2; rfl
  by_cases h3:k=3
  · subst h3; rfl
  by_cases h4:k=4
  · subst h4; rfl
  have:isC k=false:=by
    unfold isC
    simp only [Bool.and_eq_false_iff,decide_eq_false_iff_not]
    omega
  rw [this]
  simp [DataW.atKey,Lit.sameKey,Ne.symm h1,Ne.symm h2,Ne.symm h3,Ne.symm h4]
theorem DW_has (k:Int):Maps.has DW (.int .i64 k)=isC k:=by
  rw [DW_eq]
  by_cases h1:k=1
  · subst h1; rfl
  by_cases h2:k=2
  · subst h2; rfl
  by_cases h3:k=3
  · subst h3; rfl
  by_cases h4:k=4
  · subst h4; rfl
  have:isC k=false:=by
    unfold isC
    simp only [Bool.and_eq_false_iff,decide_eq_false_iff_not]
    omega
  rw [this]
  simp [Maps.has,Lit.sameKey,Ne.symm h1,Ne.symm h2,Ne.symm h3,Ne.symm h4]
theorem law3:Keyed Try.prog 3:=Maps.int_keyed Try.underlying3
theorem ownsMap_same {P:Program} {H:Type} {k:TypeId} {R:Value→Option (DataW H × List MemPlace)} {w w':World} {b n:Nat} {D:DataW H} (h:w.ownsMap P k R b n D) (e:w'.heap[b]?=w.heap[b]?):w'.ownsMap P k R b n D:=by
  obtain ⟨es,clock,hb,r⟩:=h
  exact ⟨es,clock,e.trans hb,r⟩
theorem wpList_insert_own {H:Type} {P:Program} (w:World) {ops:Array Oper} {rest:List Oper} {o:Oper} {a:Act} {Q:Exit→Act→World→Prop}
    (hg:o.guard=none) (m x v:Operand) (t:TypeId) (hop:o.op=Op.insert t m x v)
    (k e:TypeId) (K:Keyed P k) (ht:P.underlying t=some (.map k e)) (R:Value→Option (DataW H × List MemPlace)) (b n:Nat) (D:DataW H)
    (hm:a.eval m=.map (some b)) (hown:w.ownsMap P k R b n D) (hn:n < maxLen) (key val:Value) (kl:Lit) (hx:a.eval x=key) (hv:a.eval v=val) (hkey:keyOf P k key=some kl)
    (d:DataW H) (ps:List MemPlace) (hval:R val=some (d,ps))
    (hK:∀ w',w'.ownsMap P k R b (n+1) (D.put kl d)→w.grownBy w' (some b)→wpList P ops Q rest (a.put o.dst undef) w') :
    wpList P ops Q (o :: rest) a w:=by
  refine wpList_plain hg fun K' hK'=>?_
  obtain ⟨w',hrun,r1,r2⟩:=hown.update K ht hn hkey hval
  unfold Oper.wp
  simp [execOp,hop,hm,hx,hv,hrun,Result.andThen]
  exact hK' _ _ (hK w' r1 r2)
theorem key3 {k:Int} (h:I64 k):keyOf Try.prog 3 (.int .i64 k)=some (.int .i64 k):=by
  refine Maps.keyOf_int_mk Try.underlying3 ?_
  obtain ⟨h1,h2⟩:=h
  show (decide (IntKind.i64.min≤k) && decide (k≤IntKind.i64.max))=true
  have e1:IntKind.i64.min = -9223372036854775808:=by decide
  have e2:IntKind.i64.max=9223372036854775807:=by decide
  rw [e1,e2,decide_eq_true h1,decide_eq_true h2]
  rfl
theorem wcalls_any (x:World):Calls Try.prog 80 #[] x fun e x'=>e=.returned (.map (some x.heap.size))∧x'.ownsMap Try.prog 3 RV x.heap.size 4 DW∧∀ b,b < x.heap.size→x'.heap[b]?=x.heap[b]?:=by
  go_enter Try.func80,Try.ntmps80
  have hm0:(x.alloc (.map #[] 0)).ownsMap Try.prog 3 RV x.heap.size 0 (.map []):=World.ownsMap_made ..
  obtain ⟨x0,hx0⟩:∃ x0,x0=x.alloc (.map #[] 0):=⟨_,rfl⟩
  have g0:∀ b,b < x.heap.size→x0.heap[b]?=x.heap[b]?:=fun b hb=>by rw [hx0]; exact alloc_old hb
  rw [← hx0] at hm0
  have hs0:x0.heap.size=x.heap.size+1:=by rw [hx0]; simp
  replace hs0:=Lib.hid hs0
  have hmk:(Instr.makeMap 120 none).run Try.prog x=.ok (.map (some x.heap.size)) (x.alloc (.map #[] 0)):=rfl
  rw [← hx0] at hmk
  replace hx0:=Lib.hid hx0
  go_wp2_with (first | (refine wpList_insert_own _ rfl (.tmp 1) (.const (.int .i64 1)) (.func 124) 120 rfl 3 122 law3 Try.underlying120 RV x.heap.size 0 _ rfl hm0 (by decide) (.int .i64 1) (fvV 124) (.int .i64 1) rfl rfl (key3 (by unfold I64; omega)) _ [] rfl ?_; intro x1 m1 g1) | (refine wpList_insert_own _ rfl (.tmp 1) (.const (.int .i64 2)) (.func 125) 120 rfl 3 122 law3 Try.underlying120 RV x.heap.size 1 _ rfl m1 (by decide) (.int .i64 2) (fvV 125) (.int .i64 2) rfl rfl (key3 (by unfold I64; omega)) _ [] rfl ?_; intro x2 m2 g2) | (refine wpList_insert_own _ rfl (.tmp 1) (.const (.int .i64 3)) (.func 68) 120 rfl 3 122 law3 Try.underlying120 RV x.heap.size 2 _ rfl m2 (by decide) (.int .i64 3) (fvV 68) (.int .i64 3) rfl rfl (key3 (by unfold I64; omega)) _ [] rfl ?_; intro x3 m3 g3) | (refine wpList_insert_own _ rfl (.tmp 1) (.const (.int .i64 4)) (.func 69) 120 rfl 3 122 law3 Try.underlying120 RV x.heap.size 3 _ rfl m3 (by decide) (.int .i64 4) (fvV 69) (.int .i64 4) rfl rfl (key3 (by unfold I64; omega)) _ [] rfl ?_; intro x4 m4 g4))
  have hold:∀ b,b < x.heap.size→x4.heap[b]?=x.heap[b]?:=fun b hb=>by
    have h0:=hs0.out
    have s1:=g1.size
    have s2:=g2.size
    have s3:=g3.size
    have hne:some b≠some x.heap.size:=fun e=>by
      have:=Option.some.inj e
      omega
    rw [g4.block b (by omega) hne,g3.block b (by omega) hne,g2.block b (by omega) hne,g1.block b (by omega) hne,g0 b hb]
  go_ret
  exact ⟨rfl,m4,hold⟩
end Go.Proofs.Ytimlbbleblijnaa.Co

namespace Go.Proofs.Ytimlbbleblijnaa.Co
open Go Go.Conc Go.RowKit
noncomputable def vB:Code:=Try.f81.body.getD .skip
noncomputable def vR0:Code:=match vB with | .seq x _=>x | _=>.skip
noncomputable def vR1:Code:=match vB with | .seq _ (.seq x _)=>x | _=>.skip
noncomputable def vL:Code:=match vB with | .seq _ (.seq _ (.block _ (.loop c)))=>c | _=>.skip
noncomputable def vR2:Code:=match vL with | .seq x _=>x | _=>.skip
noncomputable def vIf:Code:=match vL with | .seq _ (.seq x _)=>x | _=>.skip
noncomputable def vIn:Code:=match vL with | .seq _ (.seq _ (.seq (.block _ x) _))=>x | _=>.skip
noncomputable def vR9:Code:=match vL with | .seq _ (.seq _ (.seq _ x))=>x | _=>.skip
noncomputable def vR3:Code:=match vIn with | .seq x _=>x | _=>.skip
noncomputable def vR4:Code:=match vIn with | .seq _ (.seq x _)=>x | _=>.skip
noncomputable def vR5:Code:=match vIn with | .seq _ (.seq _ (.seq x _))=>x | _=>.skip
noncomputable def vR6:Code:=match vIn with | .seq _ (.seq _ (.seq _ (.seq x _)))=>x | _=>.skip
noncomputable def vR7:Code:=match vIn with | .seq _ (.seq _ (.seq _ (.seq _ (.seq x _))))=>x | _=>.skip
noncomputable def vR8:Code:=match vIn with | .seq _ (.seq _ (.seq _ (.seq _ (.seq _ x))))=>x | _=>.skip
theorem vB_parts:vB=.seq vR0 (.seq vR1 (.block 0 (.loop vL))):=by kernel_rfl
theorem vL_parts:vL=.seq vR2 (.seq vIf (.seq (.block 1 vIn) vR9)):=by kernel_rfl
theorem vIn_parts:vIn=.seq vR3 (.seq vR4 (.seq vR5 (.seq vR6 (.seq vR7 vR8)))):=by kernel_rfl
noncomputable def hdV:List Item:=[.code vL,.inLoop vL,.inBlock 0]
theorem slots44 (f:Nat→Value) {l:List Value}:∀ j,j < 44→(List.toArray (f 0 :: f 1 :: f 2 :: f 3 :: f 4 :: f 5 :: f 6 :: f 7 :: f 8 :: f 9 :: f 10 :: f 11 :: f 12 :: f 13 :: f 14 :: f 15 :: f 16 :: f 17 :: f 18 :: f 19 :: f 20 :: f 21 :: f 22 :: f 23 :: f 24 :: f 25 :: f 26 :: f 27 :: f 28 :: f 29 :: f 30 :: f 31 :: f 32 :: f 33 :: f 34 :: f 35 :: f 36 :: f 37 :: f 38 :: f 39 :: f 40 :: f 41 :: f 42 :: f 43 :: l))[j]?=some (f j)
  | 0,_ | 1,_ | 2,_ | 3,_ | 4,_ | 5,_ | 6,_ | 7,_ | 8,_ | 9,_ | 10,_ | 11,_ | 12,_ | 13,_ | 14,_ | 15,_ | 16,_ | 17,_ | 18,_ | 19,_ | 20,_ | 21,_ | 22,_ | 23,_ | 24,_ | 25,_ | 26,_ | 27,_ | 28,_ | 29,_ | 30,_ | 31,_ | 32,_ | 33,_ | 34,_ | 35,_ | 36,_ | 37,_ | 38,_ | 39,_ | 40,_ | 41,_ | 42,_ | 43,_=>rfl
  | n+44,h=>absurd h (by omega)
theorem vmark_wp {f:Nat→Value} {x:World} {gb rb mb tb B n:Nat} {k nn t i:Int} {mv:Value} {xs:List Value} {Q:Exit→Act→World→Prop}
    (h0:f 0=.pointer (some ⟨gb,0,none⟩)) (h5:f 5=.pointer (some ⟨mb,0,none⟩)) (h6:f 6=.pointer (some ⟨tb,0,none⟩)) (h8:f 8=.int .i64 i) (h13:f 13=.int .i64 nn)
    (c1:x.cell? ⟨gb,0,none⟩=some (.pointer (some ⟨rb,0,none⟩))) (c2:x.cell? ⟨rb,0,none⟩=some (.int .i64 k)) (c3:x.heap[mb]?=some (.cells #[mv] 27)) (c4:x.cell? ⟨tb,0,none⟩=some (.int .i64 t))
    (ho:x.ownsRow B 37 4 mv n xs) (n1:mv.ownBlock≠some gb) (n2:mv.ownBlock≠some rb) (n3:mv.ownBlock≠some mb) (n4:mv.ownBlock≠some tb) (m1:gb≠mb) (m2:rb≠mb) (m4:tb≠mb)
    (hn:n≤1000000000000) (hB:B≤x.heap.size)
    (hQ:∀ T' x',T'.size=56→(∀ j,j < 44→T'[j]?=some (f j))→Marked B mb mv (xs ++ mkV (t,k,i,nn)) (n+1) x x'→Q .normal ⟨T',[]⟩ x') :
    vR7.wp Try.prog Q ⟨(List.map f (List.range 56)).toArray,[]⟩ x:=by
  obtain ⟨i0,hinf,hz0,hz1,hz2⟩:=info37
  have l1:=World.block_lt_of_cell? x _ c1
  have l2:=World.block_lt_of_cell? x _ c2
  have l4:=World.block_lt_of_cell? x _ c4
  have l3:=(Array.getElem?_eq_some_iff.1 c3).1
  have c3':x.cell? ⟨mb,0,none⟩=some mv:=obj_cell c3 rfl
  have w1:=World.new_ne x _ c1
  have w2:=World.new_ne x _ c2
  have w4:=World.new_ne x _ c4
  have w3:=World.new_ne x _ c3'
  dsimp only at l1 l2 l4
  have hmz:∀ o,(x.alloc o).drew.heap[mb]?=some (.cells #[mv] 27):=fun o=>(alloc_old l3).trans c3
  simp only [List.range,List.range.loop,List.map_cons,List.map_nil,h0,h5,h6,h8,h13]
  simp only [vR7,vIn,vL,vB,Try.f81,Option.getD_some]
  refine wp_region_noPanic ?_
  refine region_last (n:=9) (by kernel_rfl) rfl (by kernel_rfl) ?_
  simp only [nopOf,List.setIfInBounds_toArray,List.set_cons_zero,List.set_cons_succ,List.getElem_toArray,List.getElem_cons_succ,List.getElem_cons_zero,List.size_toArray,List.length_cons,List.length_nil,Nat.zero_add,Nat.reduceAdd]
  have hS:x.drew.cell? ⟨gb,0,none⟩=some (.pointer (some ⟨rb,0,none⟩))∧x.drew.cell? ⟨rb,0,none⟩=some (.int .i64 k)∧x.drew.cell? ⟨tb,0,none⟩=some (.int .i64 t)∧x.drew.cell? ⟨mb,0,none⟩=some mv:=⟨c1,c2,c4,c3'⟩
  refine wpAny_of_held (S:=fun W=>W.cell? ⟨gb,0,none⟩=some (.pointer (some ⟨rb,0,none⟩))∧W.cell? ⟨rb,0,none⟩=some (.int .i64 k)∧W.cell? ⟨tb,0,none⟩=some (.int .i64 t)∧W.cell? ⟨mb,0,none⟩=some mv) _ _ _ _ ?_
  refine wpAnyH_take (i:=0) (v:=mv) rfl (by kernel_rfl) (by kernel_rfl) (by kernel_rfl) (fun _ _ _ h=>h) (Or.inl ⟨by rfl,fun w hSw=>by (obtain ⟨s1,s2,s3,s4⟩:=hSw; go_simp)⟩) hS ?_
  simp only [Act.put,List.setIfInBounds_toArray,List.set_cons_zero,List.set_cons_succ,List.getElem_toArray,List.getElem_cons_succ,List.getElem_cons_zero]
  refine wpAnyH_take (i:=1) (v:=.int .i64 t) rfl (by kernel_rfl) (by kernel_rfl) (by kernel_rfl) (fun _ _ _ h=>h) (Or.inl ⟨by rfl,fun w hSw=>by (obtain ⟨s1,s2,s3,s4⟩:=hSw; go_simp)⟩) hS ?_
  simp only [Act.put,List.setIfInBounds_toArray,List.set_cons_zero,List.set_cons_succ,List.getElem_toArray,List.getElem_cons_succ,List.getElem_cons_zero]
  refine wpAnyH_take (i:=2) (v:=.pointer (some ⟨gb,0,none⟩)) rfl (by kernel_rfl) (by kernel_rfl) (by kernel_rfl) (fun _ _ _ h=>h) (Or.inl ⟨by rfl,fun w hSw=>by (obtain ⟨s1,s2,s3,s4⟩:=hSw; go_simp)⟩) hS ?_
  simp only [Act.put,List.setIfInBounds_toArray,List.set_cons_zero,List.set_cons_succ,List.getElem_toArray,List.getElem_cons_succ,List.getElem_cons_zero]
  refine wpAnyH_take (i:=4) (v:=.int .i64 i) rfl (by kernel_rfl) (by kernel_rfl) (by kernel_rfl) (fun _ _ _ h=>h) (Or.inl ⟨by rfl,fun w hSw=>by go_simp⟩) hS ?_
  simp only [Act.put,List.setIfInBounds_toArray,List.set_cons_zero,List.set_cons_succ,List.getElem_toArray,List.getElem_cons_succ,List.getElem_cons_zero]
  refine wpAnyH_take (i:=5) (v:=.int .i64 nn) rfl (by kernel_rfl) (by kernel_rfl) (by kernel_rfl) (fun _ _ _ h=>h) (Or.inl ⟨by rfl,fun w hSw=>by go_simp⟩) hS ?_
  simp only [Act.put,List.setIfInBounds_toArray,List.set_cons_zero,List.set_cons_succ,List.getElem_toArray,List.getElem_cons_succ,List.getElem_cons_zero]
  refine wpAnyH_ready (rs:=[3]) (by kernel_rfl) (by simp) (AllReadyH.cons rfl (fun K hK=>?_) AllReadyH.nil)
  go_simp
  refine Calls.mono (picks_any (gb:=gb) (rb:=rb) (k:=k) _ hS.1 hS.2.1) ?_
  rintro _ _ ⟨rfl,rfl⟩
  refine hK.out _ _ hS (fun _=>?_)
  clear hK K
  refine wpAnyH_take (i:=6) (v:=.agg #[.int .i64 t,.int .i64 k,.int .i64 i,.int .i64 nn]) rfl (by kernel_rfl) (by kernel_rfl) (by kernel_rfl) (fun _ _ _ h=>h) (Or.inl ⟨by rfl,fun w hSw=>by go_simp⟩) hS ?_
  simp only [Act.put,List.setIfInBounds_toArray,List.set_cons_zero,List.set_cons_succ,List.getElem_toArray,List.getElem_cons_succ,List.getElem_cons_zero]
  refine wpAnyH_ready (rs:=[7]) (by kernel_rfl) (by simp) (AllReadyH.cons rfl (fun K hK=>?_) AllReadyH.nil)
  go_simp
  have hS2:∀ o,(x.alloc o).drew.cell? ⟨gb,0,none⟩=some (.pointer (some ⟨rb,0,none⟩))∧(x.alloc o).drew.cell? ⟨rb,0,none⟩=some (.int .i64 k)∧(x.alloc o).drew.cell? ⟨tb,0,none⟩=some (.int .i64 t)∧(x.alloc o).drew.cell? ⟨mb,0,none⟩=some mv :=
    fun o=>⟨(World.cell?_alloc_some x _ o (by rw [c1]; rfl)).trans c1,(World.cell?_alloc_some x _ o (by rw [c2]; rfl)).trans c2,(World.cell?_alloc_some x _ o (by rw [c4]; rfl)).trans c4,(World.cell?_alloc_some x _ o (by rw [c3']; rfl)).trans c3'⟩
  refine hK.out _ _ (hS2 _) (fun _=>?_)
  clear hK K
  refine wpAnyH_ready (rs:=[8]) (by kernel_rfl) (by simp) (AllReadyH.cons rfl (fun K hK=>?_) AllReadyH.nil)
  refine step_append_lies _ (by rfl) _ _ _ (by rfl) B 37 i0 _ 4 32 Try.underlying27 hinf hz0 hz1 hz2 rfl (by decide) mv n xs (by rfl) ((ho.alloc _).drew) ⟨x.heap.size,0,none⟩ 1 1 (mkV (t,k,i,nn)) (by rfl) (by rfl) (World.news_of_block (cs:=#[.int .i64 t,.int .i64 k,.int .i64 i,.int .i64 nn]) (t:=37) (fr:=(0,0)) (heap_alloc_new _ _)) (by simp [mkV,Value.oneCell']) (by omega) (by unfold maxLen; omega) (by omega) (by simp; omega) _ rfl ?_
  intro g cap w1 hown hgrow hat hlt
  have hS3:=hS2 (.cells #[.int .i64 t,.int .i64 k,.int .i64 i,.int .i64 nn] 37)
  have far:∀ (c o:Nat) (v:Value),c < x.heap.size→mv.ownBlock≠some c→(x.alloc (.cells #[.int .i64 t,.int .i64 k,.int .i64 i,.int .i64 nn] 37)).drew.cell? ⟨c,o,none⟩=some v→w1.cell? ⟨c,o,none⟩=some v:=fun c o v h1 h2 h3=>(hgrow.cell_far _ (by simp; omega) (Ne.symm h2)).trans h3
  refine hK.out _ _ ⟨far _ _ _ l1 n1 hS3.1,far _ _ _ l2 n2 hS3.2.1,far _ _ _ l4 n4 hS3.2.2.1,far _ _ _ l3 n3 hS3.2.2.2⟩ (fun _=>?_)
  clear hK K
  simp only [Act.put,List.setIfInBounds_toArray,List.set_cons_zero,List.set_cons_succ,List.getElem_toArray,List.getElem_cons_succ,List.getElem_cons_zero]
  have hb1:=(hgrow.block mb (by simp; omega) (Ne.symm n3)).trans (hmz _)
  have hc1:=obj_cell hb1 (o:=0) rfl
  have hf1:=obj_thaw hb1 0
  refine wpAnyH_ready (rs:=[9]) (by kernel_rfl) (by simp) (AllReadyH.cons rfl (fun K hK=>?_) AllReadyH.nil)
  go_simp
  refine hK.out _ _ ⟨far _ _ _ l1 n1 hS3.1,far _ _ _ l2 n2 hS3.2.1,far _ _ _ l4 n4 hS3.2.2.1,far _ _ _ l3 n3 hS3.2.2.2⟩ (fun _=>?_)
  clear hK K
  refine wpAnyH_done (by kernel_rfl) ?_ _
  unfold LastQ
  go_simp
  show Q _ _ _
  refine hQ _ _ (by simp) (fun j hj=>?_) ?_
  · rw [← h0,← h5,← h6,← h8,← h13]
    exact slots44 f j hj
  · refine Marked.mk ?_ ?_ ⟨.slice (some ⟨g,0,none⟩) (n+1) cap,?_,?_,?_⟩
    · have:=hgrow.size
      simp at this ⊢
      omega
    · intro c hc h1 h2
      rw [heap_setCell_ne (a:=⟨mb,0,none⟩) (b:=c) (Ne.symm h1),hgrow.block c (by simp; omega) (Ne.symm h2)]
      exact alloc_old hc
    · exact heap_set (a:=⟨mb,0,none⟩) (w:=w1) rfl hb1
    · refine ownsRow_setCell_other hown (fun e=>?_) _
      have hg2:g=mb:=by simpa [Value.ownBlock] using e
      subst hg2
      rcases hat with z | z
      · exact n3 z
      · simp at z; omega
    · intro g' hg'
      have hg2:g=g':=by simpa [Value.ownBlock] using hg'
      subst hg2
      rcases hat with z | z
      · exact .inl z
      · right; rw [z]; simp
end Go.Proofs.Ytimlbbleblijnaa.Co

namespace Go.Proofs.Ytimlbbleblijnaa.Co
open Go Go.Conc
def lastT2 (md:Region.Mode) (ops:Array Oper) (n:Nat):Bool :=
  (n+2 == ops.size) && ((List.range n).all fun j=>(List.range (n+1)).any fun i=>decide (j < i) && ((ops[i]?).map fun o:Oper=>o.after.any fun e=>Region.binds md e && e.on == j).getD false) && ops.all (fun o=>o.guard.isNone) && ((List.range ops.size).all fun j=>((ops[j]?).map fun o:Oper=>o.after.all fun e=>decide (e.on < j)).getD false) && ((ops[n+1]?).map fun o:Oper=>o.after.any fun e=>Region.binds md e && e.on == n).getD false
def nop2 (ops:Array Oper) (n:Nat) (o p:Oper):Array Oper:=(ops.setIfInBounds n (nopOf o)).setIfInBounds (n+1) (nopOf p)
section
variable {P:Program} {main:Bool} {R:World→World→Prop} {D:World→World→Array Event→Prop} {fn:FuncId} {ops:Array Oper} {Q:Exit→Act→World→Prop} {md:Region.Mode} {S:World→Prop} {Stop:Goroutine→World→Prop} {b:Frame} {k:List Item} {cs:List Frame}
theorem goes_last2 {n:Nat} {o p:Oper} (ho:ops[n]?=some o) (hp:ops[n+1]?=some p) (hB:lastT2 md ops n=true) (hrefl:∀ w,R w w) (hb:b.fn=fn) (hk:b.kind≠.early) (hstop:∀ a w,Q .normal a w→Stop (G (b.at a (.inRegion ops [n,n+1] :: k)) cs) w) :
    ∀ (fuel t:Nat) (listed:Array Bool) (a:Act) (w:World),AnyCH P R D fn md (nop2 ops n o p) Q S fuel listed a w→listed.size=ops.size→listed.getD n true=false→(∀ (j:Nat) (oj:Oper),ops[j]?=some oj→listed.getD j true=true→∀ e ∈ oj.after,Region.binds md e=true→listed.getD e.on false=true) →
      GoesW P main R D Stop (G (b.at a (.inRegion ops (Region.linearise.go md ops fuel t listed []) :: k)) cs) w:=by
  simp only [lastT2,Bool.and_eq_true,beq_iff_eq,List.all_eq_true,List.any_eq_true,List.mem_range,Array.all_eq_true,decide_eq_true_eq] at hB
  obtain ⟨⟨⟨⟨hn,hall⟩,hg⟩,hback⟩,hlast⟩:=hB
  rw [hp] at hlast
  simp only [Option.map_some,Option.getD_some,Array.any_eq_true,Bool.and_eq_true,beq_iff_eq] at hlast
  obtain ⟨q0,hq0,hq1,hq2⟩:=hlast
  have hpl:n+1 < ops.size:=by omega
  have hnl:n < ops.size:=by omega
  have hsz:(nop2 ops n o p).size=ops.size:=by simp [nop2]
  have haft:∀ i:Nat,((nop2 ops n o p)[i]?).map Oper.after=(ops[i]?).map Oper.after:=fun i=>by
    unfold nop2
    rw [Array.getElem?_setIfInBounds]
    by_cases hi:n+1=i
    · subst hi
      rw [if_pos rfl,if_pos (by simpa using hpl),hp]; rfl
    · rw [if_neg hi,Array.getElem?_setIfInBounds]
      by_cases hi2:n=i
      · subst hi2
        rw [if_pos rfl,if_pos hnl,ho]; rfl
      · rw [if_neg hi2]
  have hready:=fun listed=>ready_set (md:=md) hsz haft listed
  have hguard:∀ (i:Nat) (oi:Oper),ops[i]?=some oi→oi.guard=none:=fun i oi e=>by
    obtain ⟨h1,h2⟩:=Array.getElem?_eq_some_iff.1 e
    have:=hg i h1
    rw [h2] at this
    simpa using this
  have hne:∀ (listed:Array Bool),listed.size=ops.size→∀ i,listed.getD i true=false→Region.ready md ops listed≠[]:=fun listed hsl i=>by
    induction i using Nat.strongRecOn with
    | _ i ih =>
      intro hun
      have hil:i < ops.size:=by
        rcases Nat.lt_or_ge i ops.size with z | z
        · exact z
        · rw [← hsl] at z
          simp [Array.getD,Nat.not_lt.2 z] at hun
      by_cases hr:i ∈ Region.ready md ops listed
      · exact fun e=>by rw [e] at hr; cases hr
      · have hoi:ops[i]?=some ops[i]:=Array.getElem?_eq_getElem hil
        have hnr:=fun z=>hr (mem_ready.2 ⟨hun,_,hoi,z⟩)
        have hb:=hback i hil
        rw [hoi] at hb
        simp only [Option.map_some,Option.getD_some,Array.all_eq_true,decide_eq_true_eq] at hb
        apply Classical.byContradiction
        intro hemp
        refine hnr fun e he hbd=>?_
        cases hl:listed.getD e.on false with
        | true=>rfl
        | false =>
          obtain ⟨j,hj,rfl⟩:=Array.mem_iff_getElem.1 he
          have hlt:=hb j hj
          refine absurd (ih _ hlt ?_) hemp
          have:ops[i].after[j].on < listed.size:=by omega
          simp only [Array.getD,this,dif_pos] at hl ⊢
          exact hl
  intro fuel
  induction fuel with
  | zero =>
    intro t listed a w h hsl hun hdc
    obtain ⟨h1,h2⟩:=h
    rw [hready] at h1
    exact absurd h1 (hne listed hsl n hun)
  | succ fuel ih =>
    intro t listed a w h hsl hun hdc
    obtain ⟨h1,h2⟩:=h
    rw [hready] at h1 h2
    have hnil:=hne listed hsl n hun
    simp only [Region.linearise.go]
    change GoesW P main R D Stop (G (b.at a (.inRegion ops (match (Region.ready md ops listed)[t % (Region.ready md ops listed).length]? with
      | some i=>Region.linearise.go md ops fuel (t / (Region.ready md ops listed).length) (listed.setIfInBounds i true) [i]
      | none=>[].reverse) :: k)) cs) w
    cases hi:(Region.ready md ops listed)[t % (Region.ready md ops listed).length]? with
    | none =>
      refine absurd ?_ hnil
      cases hr:Region.ready md ops listed with
      | nil=>rfl
      | cons x xs =>
        rw [hr] at hi
        have hlt:t % (x :: xs).length < (x :: xs).length:=Nat.mod_lt _ (by simp)
        simp at hi
        simp at hlt
        omega
    | some i =>
      simp only []
      rw [linearise_go_acc,List.reverse_singleton,List.singleton_append]
      have hmem:=List.mem_of_getElem? hi
      have h3:=h2 i hmem
      have hir:=mem_ready.1 hmem
      by_cases hin:i=n
      · subst hin
        have hmem1:∀ j,j ∈ Region.ready md ops (listed.setIfInBounds i true)→j=i+1:=fun j hj=>by
          obtain ⟨hju,oj,hoj,hje⟩:=mem_ready.1 hj
          have hjl:j < ops.size:=(Array.getElem?_eq_some_iff.1 hoj).1
          by_cases hji:i=j
          · subst hji
            simp [Array.getD,hsl,hnl] at hju
          · apply Classical.byContradiction
            intro hjn1
            have hjn:j < i:=by omega
            have key:∀ d j,j+d=i→j≠i→listed.getD j true=true:=by
              intro d
              induction d using Nat.strongRecOn with
              | _ d ihd =>
                intro j hjd hne'
                obtain ⟨u,hu1,hu2,hu3⟩:=hall j (by omega)
                have hul:u < ops.size:=by omega
                rw [Array.getElem?_eq_getElem hul] at hu3
                simp only [Option.map_some,Option.getD_some,Array.any_eq_true] at hu3
                obtain ⟨q,hq,h7⟩:=hu3
                simp only [Bool.and_eq_true,beq_iff_eq] at h7
                have h8:listed.getD (ops[u].after[q]).on false=true:=by
                  by_cases hui:u=i
                  · obtain ⟨_,o2,ho2,hedge⟩:=hir
                    subst hui
                    rw [Array.getElem?_eq_getElem hul] at ho2
                    obtain rfl:=Option.some.inj ho2
                    exact hedge _ (Array.getElem_mem hq) h7.1
                  · exact hdc u _ (Array.getElem?_eq_getElem hul) (ihd (i - u) (by omega) u (by omega) hui) _ (Array.getElem_mem hq) h7.1
                rw [h7.2] at h8
                have hjs:j < listed.size:=by omega
                simp only [Array.getD,hjs,dif_pos] at h8 ⊢
                exact h8
            rw [getD_set_ne true hji] at hju
            rw [key (i - j) j (by omega) (by omega)] at hju
            cases hju
        unfold OpC at h3
        have e1:(nop2 ops i o p)[i]?=some (nopOf o):=by
          unfold nop2
          rw [Array.getElem?_setIfInBounds,if_neg (by omega),Array.getElem?_setIfInBounds,if_pos rfl,if_pos hnl]
        have e2:(nop2 ops i o p)[i+1]?=some (nopOf p):=by
          unfold nop2
          rw [Array.getElem?_setIfInBounds,if_pos rfl,if_pos (by simpa using hpl)]
        rw [e1] at h3
        dsimp only at h3
        have g0:=hguard i o ho
        have g1:=hguard (i+1) p hp
        rw [if_pos (show Region.wanted (nopOf o) (yielded (nop2 ops i o p) a.tmps)=true by simp [Region.wanted,nopOf,g0])] at h3
        have hr:∀ w₁:World,(execOp a.eval (nopOf o)).run P w₁=.ok (.value undef) w₁:=fun w₁=>by simp [nopOf,execOp,go_sem,Act.eval]
        have hrp:∀ w₁:World,(execOp a.eval (nopOf p)).run P w₁=.ok (.value undef) w₁:=fun w₁=>by simp [nopOf,execOp,go_sem,Act.eval]
        have hun1:(listed.setIfInBounds i true).getD (i+1) true=false:=by
          rw [getD_set_ne true (by omega)]
          cases hl:listed.getD (i+1) true with
          | false=>rfl
          | true =>
            have:=hdc (i+1) p hp hl _ (Array.getElem_mem hq0) hq1
            rw [hq2] at this
            have hil:i < listed.size:=by omega
            simp only [Array.getD,hil,dif_pos] at this hun
            rw [this] at hun
            cases hun
        have hne1:Region.ready md ops (listed.setIfInBounds i true)≠[]:=hne _ (by simp [hsl]) (i+1) hun1
        have hlist:∀ w₁,R w w₁→∃ w₂,True∧Region.linearise.go md ops fuel (t / (Region.ready md ops listed).length) (listed.setIfInBounds i true) []=[i+1]∧Q .normal a w₁:=fun w₁ hR=>by
          have h4:=h3 w₁ hR
          rw [hr w₁] at h4
          obtain ⟨_,_,h5⟩:=h4
          cases fuel with
          | zero =>
            obtain ⟨h6,_⟩:=h5
            rw [hready] at h6
            exact absurd h6 hne1
          | succ f =>
            obtain ⟨_,h7⟩:=h5
            rw [hready] at h7
            have hfin:∀ t',∃ i',(Region.ready md ops (listed.setIfInBounds i true))[t' % (Region.ready md ops (listed.setIfInBounds i true)).length]?=some i':=fun t'=>by
              cases hr':Region.ready md ops (listed.setIfInBounds i true) with
              | nil=>exact absurd hr' hne1
              | cons x xs =>
                have hlt:t' % (x :: xs).length < (x :: xs).length:=Nat.mod_lt _ (by simp)
                exact ⟨_,List.getElem?_eq_getElem hlt⟩
            obtain ⟨i',hi'⟩:=hfin (t / (Region.ready md ops listed).length)
            have hm':=List.mem_of_getElem? hi'
            obtain rfl:=hmem1 i' hm'
            have h8:=h7 _ hm'
            unfold OpC at h8
            rw [e2] at h8
            dsimp only at h8
            rw [show a.put (nopOf o).dst undef=a from rfl] at h8
            rw [if_pos (show Region.wanted (nopOf p) (yielded (nop2 ops i o p) a.tmps)=true by simp [Region.wanted,nopOf,g1])] at h8
            have h9:=h8 w₁ (hrefl w₁)
            rw [hrp w₁] at h9
            obtain ⟨_,_,h10⟩:=h9
            have hemp:Region.ready md ops ((listed.setIfInBounds i true).setIfInBounds (i+1) true)=[]:=by
              apply List.eq_nil_iff_forall_not_mem.2
              intro j hj
              obtain ⟨hju,oj,hoj,hje⟩:=mem_ready.1 hj
              have hjl:j < ops.size:=(Array.getElem?_eq_some_iff.1 hoj).1
              by_cases hji:i+1=j
              · subst hji
                simp [Array.getD,hsl,hpl] at hju
              · rw [getD_set_ne true hji] at hju
                have:j ∈ Region.ready md ops (listed.setIfInBounds i true):=by
                  refine mem_ready.2 ⟨hju,oj,hoj,fun e he hbd=>?_⟩
                  have h11:=hje e he hbd
                  by_cases hei:i+1=e.on
                  · have hb2:=hback j hjl
                    rw [hoj] at hb2
                    simp only [Option.map_some,Option.getD_some,Array.all_eq_true,decide_eq_true_eq] at hb2
                    obtain ⟨j2,hj2,rfl⟩:=Array.mem_iff_getElem.1 he
                    have:=hb2 j2 hj2
                    omega
                  · rw [Array.getD_eq_getD_getElem?,Array.getElem?_setIfInBounds_ne hei,← Array.getD_eq_getD_getElem?] at h11
                    exact h11
                exact hji (hmem1 j this).symm
            refine ⟨w₁,trivial,?_,?_⟩
            · simp only [Region.linearise.go]
              change (match (Region.ready md ops (listed.setIfInBounds i true))[(t / (Region.ready md ops listed).length) % (Region.ready md ops (listed.setIfInBounds i true)).length]? with
                | some j=>Region.linearise.go md ops f ((t / (Region.ready md ops listed).length) / (Region.ready md ops (listed.setIfInBounds i true)).length) ((listed.setIfInBounds i true).setIfInBounds j true) [j]
                | none=>[].reverse)=_
              rw [hi']
              simp only []
              rw [linearise_go_acc]
              have hend:∀ (t2:Nat),Region.linearise.go md ops f t2 ((listed.setIfInBounds i true).setIfInBounds (i+1) true) []=[]:=fun t2=>by
                cases f with
                | zero=>rfl
                | succ f =>
                  simp only [Region.linearise.go]
                  change (match (Region.ready md ops ((listed.setIfInBounds i true).setIfInBounds (i+1) true))[t2 % (Region.ready md ops ((listed.setIfInBounds i true).setIfInBounds (i+1) true)).length]? with
                    | some j=>Region.linearise.go md ops f (t2 / (Region.ready md ops ((listed.setIfInBounds i true).setIfInBounds (i+1) true)).length) (((listed.setIfInBounds i true).setIfInBounds (i+1) true).setIfInBounds j true) [j]
                    | none=>[].reverse)=[]
                  rw [hemp]
                  rfl
              rw [hend]
              rfl
            · cases f with
              | zero=>exact h10.2
              | succ f=>exact h10.1 ((hready _).trans hemp)
        obtain ⟨_,_,hL,_⟩:=hlist w (hrefl w)
        rw [hL]
        refine GoesW.stop (fun w₁ hR=>hstop a w₁ ?_)
        obtain ⟨_,_,_,hQ'⟩:=hlist w₁ hR
        exact hQ'
      · have hin1:i≠n+1:=fun e=>by
          subst e
          obtain ⟨_,o2,ho2,hedge⟩:=hir
          rw [hp] at ho2
          obtain rfl:=Option.some.inj ho2
          have:=hedge _ (Array.getElem_mem hq0) hq1
          rw [hq2] at this
          have hil:n < listed.size:=by omega
          simp only [Array.getD,hil,dif_pos] at this hun
          rw [this] at hun
          cases hun
        unfold OpC at h3
        have e1:(nop2 ops n o p)[i]?=ops[i]?:=by
          unfold nop2
          rw [Array.getElem?_setIfInBounds,if_neg (Ne.symm hin1),Array.getElem?_setIfInBounds,if_neg (Ne.symm hin)]
        rw [e1] at h3
        obtain ⟨hun',oi,hoi,hedge⟩:=hir
        rw [hoi] at h3
        have g0:=hguard i oi hoi
        have w1:∀ (ops2:Array Oper) (t:Array Value),Region.wanted oi (yielded ops2 t)=true:=fun ops2 t=>by simp [Region.wanted,g0]
        dsimp only at h3
        rw [if_pos (w1 _ _)] at h3
        have hun2:(listed.setIfInBounds i true).getD n true=false:=by
          rw [getD_set_ne true hin]; exact hun
        have hdc2:∀ (j:Nat) (oj:Oper),ops[j]?=some oj→(listed.setIfInBounds i true).getD j true=true→∀ e ∈ oj.after,Region.binds md e=true→(listed.setIfInBounds i true).getD e.on false=true:=fun j oj hoj hl e he hb=>by
          have h8:listed.getD e.on false=true:=by
            by_cases hji:i=j
            · subst hji
              rw [hoi] at hoj
              obtain rfl:=Option.some.inj hoj
              exact hedge e he hb
            · rw [getD_set_ne true hji] at hl
              exact hdc j oj hoj hl e he hb
          by_cases hei:i=e.on
          · subst hei
            have:e.on < listed.size:=by
              rcases Nat.lt_or_ge e.on listed.size with z | z
              · exact z
              · simp [Array.getD,Nat.not_lt.2 z] at h8
            simp [Array.getD,this]
          · have:e.on < listed.size:=by
              rcases Nat.lt_or_ge e.on listed.size with z | z
              · exact z
              · simp [Array.getD,Nat.not_lt.2 z] at h8
            simp only [Array.getD,this,dif_pos,Array.size_setIfInBounds] at h8 ⊢
            simp only [Array.getInternal_eq_getElem] at h8 ⊢
            rw [Array.getElem_setIfInBounds,if_neg hei]
            exact h8
        refine GoesW.step' rfl fun w₁ h₁=>?_
        have h4:=h3 w₁ h₁
        have h5:(stepG P main (G (b.at a (.inRegion ops (i :: Region.linearise.go md ops fuel (t / (Region.ready md ops listed).length) (listed.setIfInBounds i true) []) :: k)) cs) w₁).goes (fun g' w' es=>D w₁ w' es∧GoesW P main R D Stop g' w'):=by
          refine goes_oper hoi (w1 _ _) hk ?_
          revert h4
          cases (execOp a.eval oi).run P w₁ with
          | ok x w'=>cases x <;> first | exact fun ⟨d,_,g⟩=>⟨hb ▸ d,ih _ _ _ _ g (by simp [hsl]) hun2 hdc2⟩ | exact id
          | halt _ _=>exact id
        cases hg:stepG P main (G (b.at a (.inRegion ops (i :: Region.linearise.go md ops fuel (t / (Region.ready md ops listed).length) (listed.setIfInBounds i true) []) :: k)) cs) w₁ with
        | go g' w' es=>rw [hg,goes_go] at h5; exact ⟨g',w',es,rfl,h5.1,h5.2⟩
        | _=>rw [hg] at h5; exact h5.elim
end
section
variable {P:Program} {h:Nat} {F:Machine→Trace→Prop} {E:Env} {w:World}
theorem HG.looksTo2 {fr:Frame} {a aF:Act} {k:List Item} {cs:List Frame} {rid n:Nat} {o p:Oper} {ops:Array Oper} {S:World→Prop} (hm:P.follows .mixedOrders=true) (hk:fr.kind=.normal) (ho:ops[n]?=some o) (hp:ops[n+1]?=some p) (hB:lastT2 .any ops n=true)
    (hany:∀ w₁,Aw E.W w w₁→AnyCH P (Aw E.W) E.D fr.fn .any (nop2 ops n o p) (fun e a' w'=>e=.normal∧a'=aF∧Aw E.W w w') S ops.size (Array.replicate ops.size false) a { w₁ with drawn:=w₁.drawn+1 })
    (hg:∀ w',Aw E.W w w'→HG P h F E (G (fr.at aF (.inRegion ops [n,n+1] :: k)) cs) w'):HG P h F E (G (fr.at a (.code (.region rid ops true) :: k)) cs) w:=by
  refine (HG.clo P h F E).own rfl (fun w₁ hA=>⟨_,_,_,stepG_region_draw,⟨Nat.le_refl _,fun _ _=>rfl,fun _ _=>rfl,fun _ _ x _ _ _ h=>⟨x,h⟩,fun f=>(by cases f; constructor <;> assumption),fun e he=>by simp at he,SameIo.refl _⟩,?_⟩)
  simp only [Region.schedule,hm,Bool.true_or,if_true]
  refine (HG.clo P h F E).goes _ _ ?_
  have hnl:n < ops.size:=(Array.getElem?_eq_some_iff.1 ho).1
  refine goes_last2 (fn:=fr.fn) (Q:=fun e a' w'=>e=.normal∧a'=aF∧Aw E.W w w') (S:=S) ho hp hB (Aw.refl _) rfl (by rw [hk]; decide) (fun a' w' ⟨_,q2,q3⟩=>?_) _ _ _ _ _ (hany w₁ hA) (by simp) (by simp [Array.getD,hnl]) (fun j oj hoj hl=>by
    have:j < ops.size:=(Array.getElem?_eq_some_iff.1 hoj).1
    simp [Array.getD,this] at hl)
  subst q2
  exact hg w' q3
end
end Go.Proofs.Ytimlbbleblijnaa.Co

namespace Go.Proofs.Ytimlbbleblijnaa.Co
open Go Go.Conc Go.RowKit
section
variable {σ Λ:Type}
end
section
variable {P:Program} {h:Nat} {F:Machine→Trace→Prop} {E:Env} {w:World} {Fs:FuncId→Bool}
theorem HG.quietM (os:List Obj) (hC:Closed P Fs) {fr:Frame} {T:Array Value} {k:List Item} {cs:List Frame} {c:Code} (R:Array Value→Nat→Prop) (hq:quietCode P Fs c=true) (hk:fr.kind=.normal)
    (hwp:∀ x:World,x.heap.size=w.heap.size→(∀ b,E.H b=none→x.heap[b]?=w.heap[b]?)→c.wp P (fun e a' x'=>e=.normal∧a'.defers=[]∧(∀ b,b < x.heap.size→x'.heap[b]?=x.heap[b]?)∧(∀ (i:Nat) o,os[i]?=some o→x'.heap[x.heap.size+i]?=some o)∧R a'.tmps x.heap.size) ⟨T,[]⟩ x)
    (hg:∀ (E1:Env) (w1:World) (T':Array Value),Still h E w E1 w1→(∀ (i:Nat) o,os[i]?=some o→w1.heap[w.heap.size+i]?=some o∧E1.H (w.heap.size+i)=none)→R T' w.heap.size→HG P h F E1 (G (fr.at ⟨T',[]⟩ k) cs) w1):HG P h F E (G (fr.at ⟨T,[]⟩ (.code c :: k)) cs) w:=by
  refine HG.quietS (fun _=>False) (fun _ z=>z.elim) hC (Q:=fun a' x x'=>(∀ (i:Nat) o,os[i]?=some o→x'.heap[x.heap.size+i]?=some o)∧R a'.tmps x.heap.size) hq hk rfl (fun x hxs hx=>?_) (fun E1 w' a' x x' hE hd hxs hx hxs' hx' hK hB hSt hq=>?_)
  · exact Code.wp_mono (fun e a' x' ⟨q1,q2,q3,q4,q5⟩=>⟨q1,q2,fun b hb _=>q3 b hb,q4,q5⟩) (hwp x hxs hx)
  · obtain ⟨Ta,df⟩:=a'
    have hdf:df=[]:=hd
    subst hdf
    refine hg E1 w' Ta ⟨hK,hE.H',fun b o h1 h2=>⟨by rw [hE.H']; exact h1,?_⟩⟩ (fun i o hi=>?_) (by rw [← hxs]; exact hq.2)
    · have hl:=(Array.getElem?_eq_some_iff.1 h2).1
      rw [hx' b h1,hSt b (by omega) id,hx b h1]
      exact h2
    · have h1:=hq.1 i o hi
      rw [hxs] at h1
      have h2:=hB (w.heap.size+i) (by omega)
      exact ⟨(hx' _ h2).trans h1,by rw [hE.H']; exact h2⟩
end
structure NM (xb:Nat) (K:Nat→Obj→Prop) (v:Int) (E:Env) (w:World):Prop where
  word:WordAt w ⟨xb,0,none⟩ v
  wordH:E.H xb=none
  kobj:∀ b o,K b o→w.heap[b]?=some o∧E.H b=none∧b≠xb
  rng:-9223372036854775808≤v∧v≤9223372036854775807
theorem NM.konst {xb:Nat} {K:Nat→Obj→Prop} {v:Int} {E:Env} {w:World} (m:NM xb K v E w) (a:Addr) (u:Value) (h:KC K a u):w.cell? a=some u∧E.H a.block=none:=by
  obtain ⟨o,h1,h2⟩:=h
  obtain ⟨k1,k2,_⟩:=m.kobj _ _ h1
  exact ⟨h2 w k1,k2⟩
theorem NM.still {xb j:Nat} {K:Nat→Obj→Prop} {v:Int} {E E':Env} {w w':World} (m:NM xb K v E w) (S:Still j E w E' w'):NM xb K v E' w':=by
  obtain ⟨s1,s2⟩:=S.word m.word m.wordH
  refine ⟨s1,s2,fun b o hk=>?_,m.rng⟩
  obtain ⟨k1,k2,k3⟩:=m.kobj b o hk
  obtain ⟨z1,z2⟩:=S.st b o k2 k1
  exact ⟨z2,z1,k3⟩
theorem NM.wset {xb:Nat} {K:Nat→Obj→Prop} {v n:Int} {E E':Env} {w w':World} (m:NM xb K v E w) (S:WSet E w E' w' ⟨xb,0,none⟩ n) (hn:-9223372036854775808≤n∧n≤9223372036854775807):NM xb K n E' w':=by
  refine ⟨S.word m.word,by rw [S.H]; exact m.wordH,fun b o hk=>?_,hn⟩
  obtain ⟨k1,k2,k3⟩:=m.kobj b o hk
  exact ⟨(S.stands k2 k1 k3).2,(S.stands k2 k1 k3).1,k3⟩
section
variable {j xb la lo cap:Nat} {F:Machine→Trace→Prop} {K:Nat→Obj→Prop} {ops:List Op3} {b₀:Frame} {a₀:Act} {ops₀:Array Oper} {i₀:Nat} {rest₀:List Nat} {k₀:List Item} {cl:List Frame}
end
end Go.Proofs.Ytimlbbleblijnaa.Co
