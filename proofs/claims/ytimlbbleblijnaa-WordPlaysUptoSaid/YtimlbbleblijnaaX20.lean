/- Lemmas for the laws of this seat, laid together of PHc, PHe0, PHe, PHf, PJa, PJb. -/
import Derived.Test.YtimlbbleblijnaaX19
import Derived.Conc.CompanyDraw
import Derived.Maps.OwnSet
import Derived.Maps.Keyed

set_option linter.unusedVariables false
set_option linter.unusedSimpArgs false
set_option maxRecDepth 100000
set_option maxHeartbeats 4000000
namespace Go.Proofs.Ytimlbbleblijnaa.Co
open Go Go.Conc Go.RowKit
structure RegC (T:Array Value) (wp gp:Value) (la lo n cap i:Nat) (v:Int):Prop where
 sz:T.size=77
 t0:T[0]?=some wp
 t1:∃ A,T[1]?=some (.slice A n cap)∧(0 < n→A=some ⟨la,lo,none⟩)
 t2:T[2]?=some gp
 t7:T[7]?=some (.int .i64 v)
 t8:T[8]?=some (.int .i64 (i:Int))
theorem RegC.up {T T':Array Value} {wp gp:Value} {la lo n cap i:Nat} {v:Int} (R:RegC T wp gp la lo n cap i v) (hs:T'.size=77) (h:∀ j,j < 9→T'[j]?=T[j]?):RegC T' wp gp la lo n cap i v:=by
 obtain ⟨sz,t0,⟨A,t1,tA⟩,t2,t7,t8⟩:=R
 exact ⟨hs,(h 0 (by decide)).trans t0,⟨A,(h 1 (by decide)).trans t1,tA⟩,(h 2 (by decide)).trans t2,(h 7 (by decide)).trans t7,(h 8 (by decide)).trans t8⟩
section
variable {j:Nat} {F:Machine→Trace→Prop} {E:Env} {w:World} {T:Array Value} {wp gp:Value} {la lo n cap i:Nat} {v:Int} {cs:List Frame}
end
end Go.Proofs.Ytimlbbleblijnaa.Co

namespace Go.Proofs.Ytimlbbleblijnaa.Co
open Go Go.Conc
theorem terms_aw (W:Nat→Bool) (H:Nat→Option Nat) (S:Addr→Prop) (Cs:Nat→Prop):Terms (Aw W) (DG H W S Cs):=⟨Aw.trans,fun w=>DG.idle _ _ _ _ w⟩
theorem aw_draw {W:Nat→Bool} {w w₁:World} (h:Aw W w w₁) (n:Nat):Aw W w { w₁ with drawn:=n }:=by
 obtain ⟨a1,a2,a3,a4,a5,a6⟩:=h
 exact ⟨a1,a2,a3,a4,a5,a6⟩
section
variable {P:Program} {h:Nat} {F:Machine→Trace→Prop} {E:Env} {w:World}
end
section
variable {P:Program} {W:Nat→Bool} {H:Nat→Option Nat} {Sx:Addr→Prop} {Cs:Nat→Prop} {fn:FuncId} {ops:Array Oper} {S:World→Prop} {o:Oper} {v:Value} {a:Act}
theorem yields_pure (hw:Region.wanted o (yielded ops a.tmps)=true) (hr:∀ w,(execOp a.eval o).run P w=.ok (.value v) w) (he:∀ w,(execOp a.eval o).events P w #[]=#[]):YieldsIfC P (DG H W Sx Cs) fn ops S o v a :=
 .inl ⟨hw,fun w _=>⟨hr w,Nat.le_refl _,fun _ _=>rfl,fun _ _=>rfl,fun _ _ x _ _ _ h=>⟨x,h⟩,id,fun e hh=>by
  have:=mem_listed hh
  rw [he w] at this
  simp at this,SameIo.refl _⟩⟩
theorem yields_ld {ad:Addr} (hS:∀ w,S w→w.cell? ad=some v) (hp:W ad.block=false) (hw:Region.wanted o (yielded ops a.tmps)=true)
  (hr:∀ w,w.cell? ad=some v→(execOp a.eval o).run P w=.ok (.value v) w∧∀ e ∈ (execOp a.eval o).events P w #[],e=⟨.cell ad,false,false⟩):YieldsIfC P (DG H W Sx Cs) fn ops S o v a :=
 .inl ⟨hw,fun w hs=>by
  have hc:=hS w hs
  obtain ⟨e1,e2⟩:=hr w hc
  refine ⟨e1,Nat.le_refl _,fun _ _=>rfl,fun _ _=>rfl,fun _ _ x _ _ _ h=>⟨x,h⟩,id,fun e hh=>?_,SameIo.refl _⟩
  rw [e2 e (mem_listed hh)]
  exact evG_plain (lt_of_cell hc) (fun z=>by rw [hp] at z; cases z) (fun z=>by cases z)⟩
end
section
variable {h:Nat} {F:Machine→Trace→Prop} {E:Env} {w:World} {b₀:Frame} {a₀:Act} {ops₀:Array Oper} {i₀:Nat} {rest₀:List Nat} {k₀:List Item} {cl:List Frame}
end
end Go.Proofs.Ytimlbbleblijnaa.Co

namespace Go.Proofs.Ytimlbbleblijnaa.Co
open Go Go.Conc Go.RowKit
structure AS where
 held:Int
 ok:Bool
 st:Int
structure AL where
 i:Nat
 c:Nat
 v:Int
inductive AdvA (ops:List Op3) (c:Nat):Nat→AS→AS × Option AL→Prop
 | stop {i s} (h:ops.length≤i):AdvA ops c i s ({ s with ok:=true,st:=(c:Int) },none)
 | call {i s} {op:Op3} (h:ops[i]?=some op) (hc:isC op.1=true):AdvA ops c i s (s,some ⟨i,c,s.held⟩)
 | skip {i s z} {op:Op3} (h:ops[i]?=some op) (hc:isC op.1=false) (t:AdvA ops c (i+1) s z):AdvA ops c i s z
theorem AdvA.held {ops:List Op3} {c i:Nat} {s:AS} {z:AS × Option AL} (h:AdvA ops c i s z) {s':AS} {l':AL}:z=(s',some l')→s'.held=l'.v:=by
 induction h with
 | stop=>intro e; cases e
 | call=>intro e; cases e; rfl
 | skip _ _ _ ih=>exact ih
structure AM (xb okb stb:Nat) (K:Nat→Obj→Prop) (s:AS) (E:Env) (w:World):Prop where
 word:WordAt w ⟨xb,0,none⟩ s.held
 wordH:E.H xb=none
 okc:w.heap[okb]?=some (.cells #[.bool s.ok] 4)
 okH:E.H okb=none
 stc:w.heap[stb]?=some (.cells #[.int .i64 s.st] 3)
 stH:E.H stb=none
 kobj:∀ b o,K b o→w.heap[b]?=some o∧E.H b=none∧b≠xb∧b≠okb∧b≠stb
 d1:xb≠okb
 d2:xb≠stb
 d3:okb≠stb
 rng:-9223372036854775808≤s.held∧s.held≤9223372036854775807
theorem kept_vis {j b o:Nat} {gb:Option Nat} {E:Env} {w:World} {v:Value} (hH:E.H b=none) (hW:E.W b=false):Kept j gb E w E (w.setCell ⟨b,o,none⟩ v) :=
 ⟨.refl j E,by simp [World.setCell],fun c n hc _ _ _=>heap_setCell_ne (a:=⟨b,o,none⟩) (fun e=>by have e':b=c:=e; rw [← e',hH] at hc; cases hc),fun c hc x st sm e hx=>⟨st,sm,by rw [heap_setCell_ne (a:=⟨b,o,none⟩) (fun z=>by have z':b=c:=z; rw [z',hc] at hW; cases hW)]; exact hx⟩,fun _ _ h=>.inl h,fun _ h=>.inl h⟩
theorem AM.konst {xb okb stb:Nat} {K:Nat→Obj→Prop} {s:AS} {E:Env} {w:World} (m:AM xb okb stb K s E w) (a:Addr) (v:Value) (h:KC K a v):w.cell? a=some v∧E.H a.block=none:=by
 obtain ⟨o,h1,h2⟩:=h
 obtain ⟨k1,k2,_⟩:=m.kobj _ _ h1
 exact ⟨h2 w k1,k2⟩
theorem AM.move {xb okb stb:Nat} {K:Nat→Obj→Prop} {s:AS} {E E':Env} {w w':World} (m:AM xb okb stb K s E w) (hb:∀ b,b < w.heap.size→E.H b=none→E'.H b=none∧w'.heap[b]?=w.heap[b]?):AM xb okb stb K s E' w':=by
 obtain ⟨h0,c,t,h1,h2⟩:=m.word
 have l1:=(Array.getElem?_eq_some_iff.1 h1).1
 have l2:=(Array.getElem?_eq_some_iff.1 m.okc).1
 have l3:=(Array.getElem?_eq_some_iff.1 m.stc).1
 refine ⟨m.word.same (hb xb l1 m.wordH).2,(hb xb l1 m.wordH).1,(hb okb l2 m.okH).2.trans m.okc,(hb okb l2 m.okH).1,(hb stb l3 m.stH).2.trans m.stc,(hb stb l3 m.stH).1,fun b o hk=>?_,m.d1,m.d2,m.d3,m.rng⟩
 obtain ⟨k1,k2,k3⟩:=m.kobj b o hk
 have l4:=(Array.getElem?_eq_some_iff.1 k1).1
 exact ⟨(hb b l4 k2).2.trans k1,(hb b l4 k2).1,k3⟩
theorem AM.still {xb okb stb j:Nat} {K:Nat→Obj→Prop} {s:AS} {E E':Env} {w w':World} (m:AM xb okb stb K s E w) (S:Still j E w E' w'):AM xb okb stb K s E' w' :=
 m.move fun b hb hn=>by
  obtain ⟨s1,s2⟩:=S.st b _ hn (Array.getElem?_eq_getElem hb)
  exact ⟨s1,by rw [s2,Array.getElem?_eq_getElem hb]⟩
theorem AM.wset {xb okb stb:Nat} {K:Nat→Obj→Prop} {s:AS} {E E':Env} {w w':World} {n:Int} (m:AM xb okb stb K s E w) (S:WSet E w E' w' ⟨xb,0,none⟩ n) (hn:-9223372036854775808≤n∧n≤9223372036854775807):AM xb okb stb K { s with held:=n } E' w':=by
 refine ⟨S.word m.word,by rw [S.H]; exact m.wordH,(S.stands m.okH m.okc (Ne.symm m.d1)).2,(S.stands m.okH m.okc (Ne.symm m.d1)).1,(S.stands m.stH m.stc (Ne.symm m.d2)).2,(S.stands m.stH m.stc (Ne.symm m.d2)).1,fun b o hk=>?_,m.d1,m.d2,m.d3,hn⟩
 obtain ⟨k1,k2,k3⟩:=m.kobj b o hk
 exact ⟨(S.stands k2 k1 k3.1).2,(S.stands k2 k1 k3.1).1,k3⟩
noncomputable def aB:Code:=Try.f30.body.getD .skip
noncomputable def a0:Code:=match aB with | .seq x _=>x | _=>.skip
noncomputable def a1:Code:=match aB with | .seq _ x=>x | _=>.skip
section
variable {h rb xb okb stb:Nat} {home:Goroutine→Prop} {k:Int} {th:Th} {F:Machine→Trace→Prop} {E:Env} {w:World} {s:AS} {K:Nat→Obj→Prop} {ops:List Op3} {b₀:Frame} {a₀:Act} {ops₀:Array Oper} {i₀:Nat} {rest₀:List Nat} {k₀:List Item} {cl:List Frame}
end
theorem wrap_sub (v n:Int) (h:-9223372036854775808≤v∧v≤9223372036854775807):IntKind.i64.wrap (IntKind.i64.wrap (v+n) - n)=v:=by
 rw [IntKind.wrap_i64,IntKind.wrap_i64]
 omega
theorem wrap_rng (v:Int):-9223372036854775808≤IntKind.i64.wrap v∧IntKind.i64.wrap v≤9223372036854775807:=by
 rw [IntKind.wrap_i64]
 omega
theorem isC_cases {k:Int} (h:isC k=true):k=1∨k=2∨k=3∨k=4:=by
 unfold isC at h
 simp only [Bool.and_eq_true,decide_eq_true_eq] at h
 omega
section
variable {rb xb okb stb la lo cap:Nat} {th:Th} {K:Nat→Obj→Prop} {ops:List Op3} {b₀:Frame} {a₀:Act} {ops₀:Array Oper} {i₀:Nat} {rest₀:List Nat} {k₀:List Item} {cl:List Frame}
end
section
variable {j:Nat} {F:Machine→Trace→Prop} {E:Env} {w:World} {cs:List Frame}
end
section
variable {xb okb stb la lo cap xbb lbb:Nat} {K:Nat→Obj→Prop} {ops:List Op3}
end
end Go.Proofs.Ytimlbbleblijnaa.Co

namespace Go.Proofs.Ytimlbbleblijnaa.Co
open Go Go.Conc Go.RowKit
open Go.ConcN (sumTo upd sumTo_upd upd_ne upd_same sumTo_congr le_sumTo)
def aftI (l:List Op3) (i:Nat):Nat:=i+((l.drop i).takeWhile fun o=>!isC o.1).length
theorem aftI_call {l:List Op3} {i:Nat} {op:Op3} (h:l[i]?=some op) (hc:isC op.1=true):aftI l i=i:=by
 have hl:=(List.getElem?_eq_some_iff.1 h).1
 unfold aftI
 rw [List.drop_eq_getElem_cons hl,(List.getElem?_eq_some_iff.1 h).2,List.takeWhile_cons,hc]
 rfl
theorem aftI_skip {l:List Op3} {i:Nat} {op:Op3} (h:l[i]?=some op) (hc:isC op.1=false):aftI l i=aftI l (i+1):=by
 have hl:=(List.getElem?_eq_some_iff.1 h).1
 unfold aftI
 rw [List.drop_eq_getElem_cons hl,(List.getElem?_eq_some_iff.1 h).2,List.takeWhile_cons,hc]
 simp only [Bool.not_false,if_true,List.length_cons]
 omega
theorem aftI_end {l:List Op3} {i:Nat} (h:l.length≤i):aftI l i=i:=by
 unfold aftI
 rw [List.drop_eq_nil_of_le h]
 rfl
theorem aftI_ge (l:List Op3) (i:Nat):i≤aftI l i:=Nat.le_add_right _ _
theorem aftI_le {l:List Op3} {i:Nat} (h:i≤l.length):aftI l i≤l.length:=by
 have h1:((l.drop i).takeWhile fun o=>!isC o.1).length≤(l.drop i).length:=List.IsPrefix.length_le (List.takeWhile_prefix _)
 unfold aftI
 rw [List.length_drop] at h1
 omega
theorem aftI_op {l:List Op3}:∀ (m i:Nat),l.length - i=m→aftI l i < l.length→∃ op,l[aftI l i]?=some op∧isC op.1=true
 | 0,i,hm,h=>by
   have:=aftI_ge l i
   omega
 | m+1,i,hm,h=>by
   have hl:i < l.length:=by omega
   have e:=List.getElem?_eq_getElem hl
   cases hc:isC (l[i]).1 with
   | true =>
     rw [aftI_call e hc]
     exact ⟨_,e,hc⟩
   | false =>
     rw [aftI_skip e hc] at h ⊢
     exact aftI_op m (i+1) (by omega) h
structure WS where
 ms:List Mk
 cnt:Nat→Nat
 vs:Nat→Int
structure WL where
 t:Nat
 i:Nat
 c:Nat
def opsOf (L:List PT) (t:Nat):List Op3:=((L[t]?).map (·.ops)).getD []
theorem opsOf_of {L:List PT} {t:Nat} {p:PT} (h:L[t]?=some p):opsOf L t=p.ops:=by unfold opsOf; rw [h]; rfl
def standW (L:List PT) (t c i:Nat):Option WL:=if i < (opsOf L t).length then some ⟨t,i,c⟩ else none
def doneW (n:Nat) (s:WS) (t c:Nat) (k:Int) (op:Op3):WS :=
 ⟨s.ms ++ [((t:Int),k,(c:Int),(doW (s.vs (pickIx op.2.1 n)) op.1 op.2.2).2)],upd s.cnt t (c+1),upd s.vs (pickIx op.2.1 n) (doW (s.vs (pickIx op.2.1 n)) op.1 op.2.2).1⟩
def wrow (n:Nat) (v:Nat→Int):Obj:=.cells ((List.range n).map fun i=>.int .i64 (v i)).toArray 46
def KW (K:Nat→Obj→Prop) (wb n:Nat) (v:Nat→Int) (b:Nat) (o:Obj):Prop:=K b o∨(b=wb∧o=wrow n v)
def I64 (v:Int):Prop:=-9223372036854775808≤v∧v≤9223372036854775807
structure WordM (mb wb n:Nat) (K:Nat→Obj→Prop) (L:List PT) (s:WS) (E:Env) (w:World):Prop where
 m:PlayM mb (KW K wb n s.vs) L ⟨s.ms,[],s.cnt⟩ E w
 rng:∀ i,I64 (s.vs i)
theorem standW_some {L:List PT} {t c i:Nat} {l:WL} (h:standW L t c i=some l):l=⟨t,i,c⟩∧i < (opsOf L t).length:=by
 unfold standW at h
 split at h
 ·next h1=>exact ⟨(Option.some.inj h).symm,h1⟩
 ·cases h
def wordD (mb wb n:Nat) (K:Nat→Obj→Prop) (L:List PT):Prot WS WL where
 M:=WordM mb wb n K L
 next ℓ k s z:=∃ op,(opsOf L ℓ.t)[ℓ.i]?=some op∧isC op.1=true∧z=(doneW n s ℓ.t ℓ.c k op,standW L ℓ.t (ℓ.c+1) (aftI (opsOf L ℓ.t) (ℓ.i+1)))
 fits ℓ s:=s.cnt ℓ.t=ℓ.c∧ℓ.c≤ℓ.i∧ℓ.i < (opsOf L ℓ.t).length
 who ℓ:=ℓ.t
 init t s:=∀ t',t≤t'→s.cnt t'=0
 mono:=fun ℓ k s s' o l2 h1 ⟨c2,c3,c4⟩ hw ⟨op,hop,hc,hz⟩=>by
  cases hz
  exact ⟨(upd_ne _ _ hw).trans c2,c3,c4⟩
 fresh:=fun ℓ k s s' l' ⟨f1,f2,f3⟩ ⟨op,hop,hc,hz⟩=>by
  have e1:s'=doneW n s ℓ.t ℓ.c k op:=congrArg Prod.fst hz
  have e2:some l'=standW L ℓ.t (ℓ.c+1) (aftI (opsOf L ℓ.t) (ℓ.i+1)):=congrArg Prod.snd hz
  obtain ⟨rfl,h2⟩:=standW_some e2.symm
  subst e1
  have:=aftI_ge (opsOf L ℓ.t) (ℓ.i+1)
  exact ⟨⟨upd_same ..,by dsimp only; omega,h2⟩,rfl⟩
 tal ℓ:=((ℓ.c:Int),0,0)
 closed:=fun s E w E' w' m hb=>⟨(playD mb (KW K wb n s.vs) L).closed _ _ _ _ _ m.m hb,m.rng⟩
def startW (L:List PT) (t:Nat) (s:WS) (z:WS × Option WL):Prop:=z=(s,standW L t 0 (aftI (opsOf L t) 0))
theorem word_start {mb wb n:Nat} {K:Nat→Obj→Prop} {L:List PT} (t:Nat):StartOk (wordD mb wb n K L) t (startW L t):=by
 refine ⟨fun s s' o l2 hi ha hw h2=>?_,fun s s' l' hi ha=>?_,fun s s' o hi ha=>?_⟩
 ·cases ha; exact h2
 ·have e1:s'=s:=congrArg Prod.fst ha
  have e2:some l'=standW L t 0 (aftI (opsOf L t) 0):=congrArg Prod.snd ha
  obtain ⟨rfl,h2⟩:=standW_some e2.symm
  subst e1
  exact ⟨⟨hi t (Nat.le_refl t),Nat.zero_le _,h2⟩,rfl⟩
 ·cases ha
  exact fun t' ht=>hi t' (by omega)
theorem wrow_word {n i:Nat} {v:Nat→Int} {w:World} {wb:Nat} (h:w.heap[wb]?=some (wrow n v)) (hi:i < n):WordAt w ⟨wb,i,none⟩ (v i) :=
 ⟨rfl,_,46,h,by simp [hi]⟩
theorem wrow_set {n i:Nat} {v:Nat→Int} {x:Int} (hi:i < n):Obj.cells (((List.range n).map fun j=>Value.int .i64 (v j)).toArray.setIfInBounds i (.int .i64 x)) 46=wrow n (upd v i x):=by
 unfold wrow
 rw [List.setIfInBounds_toArray]
 congr 2
 apply List.ext_getElem?
 intro j
 by_cases e:i=j
 ·subst e
  rw [List.getElem?_set_self (by simpa using hi),List.getElem?_map,List.getElem?_range hi]
  simp [upd_same]
 ·rw [List.getElem?_set_ne e]
  by_cases hj:j < n
  ·simp [hj,upd_ne _ _ (Ne.symm e)]
  ·simp [hj]
section
variable {mb wb n:Nat} {K:Nat→Obj→Prop} {L:List PT} {s:WS} {E E':Env} {w w':World}
theorem WordM.konst (m:WordM mb wb n K L s E w) (a:Addr) (v:Value) (h:KC K a v):w.cell? a=some v∧E.H a.block=none∧a.block≠mb:=by
 obtain ⟨o,h1,h2⟩:=h
 obtain ⟨k1,k2,k3⟩:=m.m.kobj _ _ (.inl h1)
 exact ⟨h2 w k1,k2,k3⟩
theorem WordM.word (m:WordM mb wb n K L s E w) {i:Nat} (hi:i < n):WordAt w ⟨wb,i,none⟩ (s.vs i)∧E.H wb=none:=by
 obtain ⟨k1,k2,k3⟩:=m.m.kobj wb _ (.inr ⟨rfl,rfl⟩)
 exact ⟨wrow_word k1 hi,k2⟩
theorem WordM.wset (m:WordM mb wb n K L s E w) (hne:∀ b o,K b o→b≠wb) {i:Nat} {x:Int} (hi:i < n) (S:WSet E w E' w' ⟨wb,i,none⟩ x) (hx:I64 x):WordM mb wb n K L { s with vs:=upd s.vs i x } E' w':=by
 obtain ⟨k1,k2,k3⟩:=m.m.kobj wb _ (.inr ⟨rfl,rfl⟩)
 obtain ⟨mv,r1,r2,r3⟩:=m.m.row
 refine ⟨⟨by rw [S.H]; exact m.m.mbH,fun b o hk=>?_,⟨mv,?_,ownsRow_same r2 (fun g hg=>?_),fun g hg=>?_⟩,(fun ob ho=>by cases ho),m.m.len,m.m.cnt⟩,fun j=>?_⟩
 ·rcases hk with hk | ⟨rfl,rfl⟩
  ·obtain ⟨q1,q2,q3⟩:=m.m.kobj b o (.inl hk)
   exact ⟨(S.stands q2 q1 (hne b o hk)).2,(S.stands q2 q1 (hne b o hk)).1,q3⟩
  ·refine ⟨?_,by rw [S.H]; exact k2,k3⟩
   rw [← wrow_set hi]
   exact S.new _ _ k1
 ·exact (S.stands m.m.mbH r1 (fun e=>k3 e.symm)).2
 ·have hgw:g≠wb:=fun e=>(r3 g hg).2.2 wb _ (.inr ⟨rfl,rfl⟩) e.symm
  obtain ⟨o,ho⟩:∃ o,w.heap[g]?=some o:=⟨_,Array.getElem?_eq_getElem (r2.lt g hg).2⟩
  rw [ho]
  exact (S.stands (r3 g hg).1 ho hgw).2
 ·obtain ⟨q1,q2,q3⟩:=r3 g hg
  refine ⟨by rw [S.H]; exact q1,fun ob ho=>(by cases ho),fun b o hk=>?_⟩
  rcases hk with hk | ⟨rfl,rfl⟩
  ·exact q3 b o (.inl hk)
  ·exact q3 b _ (.inr ⟨rfl,rfl⟩)
 ·dsimp only
  by_cases e:j=i
  ·subst e; rw [upd_same]; exact hx
  ·rw [upd_ne _ _ e]; exact m.rng j
end
end Go.Proofs.Ytimlbbleblijnaa.Co

namespace Go.Proofs.Ytimlbbleblijnaa.Co
open Go Go.Conc Go.RowKit
open Go.Maps (Keyed)
def fvV (f:Nat):Value:=.func (.func f) #[] #[]
def RV:Value→Option (DataW Value × List MemPlace):=fun v=>some (.held v,[])
theorem RV_inv {v:Value} {d:DataW Value} {ps:List MemPlace} (h:RV v=some (d,ps)):d=.held v:=by
 unfold RV at h
 simp only [Option.some.injEq,Prod.mk.injEq] at h
 exact h.1.symm
def DW:DataW Value:=((((DataW.map []).put (.int .i64 1) (.held (fvV 124))).put (.int .i64 2) (.held (fvV 125))).put (.int .i64 3) (.held (fvV 68))).put (.int .i64 4) (.held (fvV 69))
theorem DW_eq:DW=.map [(.int .i64 1,.held (fvV 124)),(.int .i64 2,.held (fvV 125)),(.int .i64 3,.held (fvV 68)),(.int .i64 4,.held (fvV 69))]:=by rfl
def fnOf (k:Int):Nat:=if k=1 then 124 else if k=2 then 125 else if k=3 then 68 else 69
theorem DW_at (k:Int) (z:DataW Value):DW.atKey (.int .i64 k) z=if isC k then .held (fvV (fnOf k)) else z:=by
 rw [DW_eq]
 by_cases h1:k=1
 ·subst h1; rfl
 by_cases h2:k=2
 ·subst h2; rfl
 by_cases h3:k=3
 ·subst h3; rfl
 by_cases h4:k=4
 ·subst h4; rfl
 have:isC k=false:=by
  unfold isC
  simp only [Bool.and_eq_false_iff,decide_eq_false_iff_not]
  omega
 rw [this]
 simp [DataW.atKey,Lit.sameKey,Ne.symm h1,Ne.symm h2,Ne.symm h3,Ne.symm h4]
theorem DW_has (k:Int):Maps.has DW (.int .i64 k)=isC k:=by
 rw [DW_eq]
 by_cases h1:k=1
 ·subst h1; rfl
 by_cases h2:k=2
 ·subst h2; rfl
 by_cases h3:k=3
 ·subst h3; rfl
 by_cases h4:k=4
 ·subst h4; rfl
 have:isC k=false:=by
  unfold isC
  simp only [Bool.and_eq_false_iff,decide_eq_false_iff_not]
  omega
 rw [this]
 simp [Maps.has,Lit.sameKey,Ne.symm h1,Ne.symm h2,Ne.symm h3,Ne.symm h4]
theorem law3:Keyed Try.prog 3:=Maps.int_keyed Try.underlying3
theorem ownsMap_same {P:Program} {H:Type} {k:TypeId} {R:Value→Option (DataW H × List MemPlace)} {w w':World} {b n:Nat} {D:DataW H} (h:w.ownsMap P k R b n D) (e:w'.heap[b]?=w.heap[b]?):w'.ownsMap P k R b n D:=by
 obtain ⟨es,clock,hb,r⟩:=h
 exact ⟨es,clock,e.trans hb,r⟩
theorem wpList_insert_own {H:Type} {P:Program} (w:World) {ops:Array Oper} {rest:List Oper} {o:Oper} {a:Act} {Q:Exit→Act→World→Prop}
  (hg:o.guard=none) (m x v:Operand) (t:TypeId) (hop:o.op=Op.insert t m x v)
  (k e:TypeId) (K:Keyed P k) (ht:P.underlying t=some (.map k e)) (R:Value→Option (DataW H × List MemPlace)) (b n:Nat) (D:DataW H)
  (hm:a.eval m=.map (some b)) (hown:w.ownsMap P k R b n D) (hn:n < maxLen) (key val:Value) (kl:Lit) (hx:a.eval x=key) (hv:a.eval v=val) (hkey:keyOf P k key=some kl)
  (d:DataW H) (ps:List MemPlace) (hval:R val=some (d,ps))
  (hK:∀ w',w'.ownsMap P k R b (n+1) (D.put kl d)→w.grownBy w' (some b)→wpList P ops Q rest (a.put o.dst undef) w') :
  wpList P ops Q (o :: rest) a w:=by
 refine wpList_plain hg fun K' hK'=>?_
 obtain ⟨w',hrun,r1,r2⟩:=hown.update K ht hn hkey hval
 unfold Oper.wp
 simp [execOp,hop,hm,hx,hv,hrun,Result.andThen]
 exact hK' _ _ (hK w' r1 r2)
theorem key3 {k:Int} (h:I64 k):keyOf Try.prog 3 (.int .i64 k)=some (.int .i64 k):=by
 refine Maps.keyOf_int_mk Try.underlying3 ?_
 obtain ⟨h1,h2⟩:=h
 show (decide (IntKind.i64.min≤k) && decide (k≤IntKind.i64.max))=true
 have e1:IntKind.i64.min = -9223372036854775808:=by decide
 have e2:IntKind.i64.max=9223372036854775807:=by decide
 rw [e1,e2,decide_eq_true h1,decide_eq_true h2]
 rfl
theorem wcalls_any (x:World):Calls Try.prog 80 #[] x fun e x'=>e=.returned (.map (some x.heap.size))∧x'.ownsMap Try.prog 3 RV x.heap.size 4 DW∧∀ b,b < x.heap.size→x'.heap[b]?=x.heap[b]?:=by
 go_enter Try.func80,Try.ntmps80
 have hm0:(x.alloc (.map #[] 0)).ownsMap Try.prog 3 RV x.heap.size 0 (.map []):=World.ownsMap_made ..
 obtain ⟨x0,hx0⟩:∃ x0,x0=x.alloc (.map #[] 0):=⟨_,rfl⟩
 have g0:∀ b,b < x.heap.size→x0.heap[b]?=x.heap[b]?:=fun b hb=>by rw [hx0]; exact alloc_old hb
 rw [← hx0] at hm0
 have hs0:x0.heap.size=x.heap.size+1:=by rw [hx0]; simp
 replace hs0:=Lib.hid hs0
 have hmk:(Instr.makeMap 120 none).run Try.prog x=.ok (.map (some x.heap.size)) (x.alloc (.map #[] 0)):=rfl
 rw [← hx0] at hmk
 replace hx0:=Lib.hid hx0
 go_wp2_with (first | (refine wpList_insert_own _ rfl (.tmp 1) (.const (.int .i64 1)) (.func 124) 120 rfl 3 122 law3 Try.underlying120 RV x.heap.size 0 _ rfl hm0 (by decide) (.int .i64 1) (fvV 124) (.int .i64 1) rfl rfl (key3 (by unfold I64; omega)) _ [] rfl ?_; intro x1 m1 g1) | (refine wpList_insert_own _ rfl (.tmp 1) (.const (.int .i64 2)) (.func 125) 120 rfl 3 122 law3 Try.underlying120 RV x.heap.size 1 _ rfl m1 (by decide) (.int .i64 2) (fvV 125) (.int .i64 2) rfl rfl (key3 (by unfold I64; omega)) _ [] rfl ?_; intro x2 m2 g2) | (refine wpList_insert_own _ rfl (.tmp 1) (.const (.int .i64 3)) (.func 68) 120 rfl 3 122 law3 Try.underlying120 RV x.heap.size 2 _ rfl m2 (by decide) (.int .i64 3) (fvV 68) (.int .i64 3) rfl rfl (key3 (by unfold I64; omega)) _ [] rfl ?_; intro x3 m3 g3) | (refine wpList_insert_own _ rfl (.tmp 1) (.const (.int .i64 4)) (.func 69) 120 rfl 3 122 law3 Try.underlying120 RV x.heap.size 3 _ rfl m3 (by decide) (.int .i64 4) (fvV 69) (.int .i64 4) rfl rfl (key3 (by unfold I64; omega)) _ [] rfl ?_; intro x4 m4 g4))
 have hold:∀ b,b < x.heap.size→x4.heap[b]?=x.heap[b]?:=fun b hb=>by
  have h0:=hs0.out
  have s1:=g1.size
  have s2:=g2.size
  have s3:=g3.size
  have hne:some b≠some x.heap.size:=fun e=>by
   have:=Option.some.inj e
   omega
  rw [g4.block b (by omega) hne,g3.block b (by omega) hne,g2.block b (by omega) hne,g1.block b (by omega) hne,g0 b hb]
 go_ret
 exact ⟨rfl,m4,hold⟩
end Go.Proofs.Ytimlbbleblijnaa.Co
