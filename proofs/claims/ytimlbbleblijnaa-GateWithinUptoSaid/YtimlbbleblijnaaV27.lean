/- Lemmas for the laws of this seat, laid together of PWa, PWb, PWc, PWd, PGet. -/
import Derived.Test.YtimlbbleblijnaaV18
import Derived.Test.YtimlbbleblijnaaV19
import Derived.Test.YtimlbbleblijnaaV20
import Derived.Test.YtimlbbleblijnaaV23
import Derived.Test.YtimlbbleblijnaaV24
import Derived.Test.YtimlbbleblijnaaV26

open Go.ConcR.Gen (base_kind baseD_kind)
set_option linter.unusedVariables false
set_option linter.unusedSimpArgs false
set_option maxRecDepth 100000
set_option maxHeartbeats 4000000
namespace Go.Proofs.Ytimlbbleblijnaa.Co
open Go Go.Conc Go.RowKit
open Go.ConcN (sumTo upd sumTo_upd upd_ne upd_same sumTo_congr le_sumTo)
noncomputable def iwB:Code:=Try.f41.body.getD .skip
noncomputable def iwR0:Code:=match iwB with | .seq x _=>x | _=>.skip
noncomputable def iwL:Code:=match iwB with | .seq _ (.block _ (.loop c))=>c | _=>.skip
noncomputable def iwR1:Code:=match iwL with | .seq (.seq x _) _=>x | _=>.skip
noncomputable def iwIf:Code:=match iwL with | .seq (.seq _ x) _=>x | _=>.skip
noncomputable def iwBl:Code:=match iwL with | .seq _ (.seq (.block _ x) _)=>x | _=>.skip
noncomputable def iwR2:Code:=match iwL with | .seq _ (.seq _ x)=>x | _=>.skip
noncomputable def iwR3:Code:=match iwBl with | .seq x _=>x | _=>.skip
noncomputable def iwT4:Code:=match iwBl with | .seq _ x=>x | _=>.skip
noncomputable def iwR4:Code:=match iwT4 with | .seq x _=>x | _=>.skip
noncomputable def iwCd:Code:=match iwT4 with | .seq _ x=>x | _=>.skip
noncomputable def iwIn:Code:=match iwCd with | .cond _ x _=>x | _=>.skip
noncomputable def iwOps:Array Oper:=match iwR3 with | .region _ o _=>o | _=>#[]
noncomputable def iwOp:Oper:=(iwOps[10]?).getD default
noncomputable def iwCdx (x:Code):Code:=match iwCd with | .cond c _ y=>.cond c x y | _=>.skip
theorem iwB_parts:iwB=.seq iwR0 (.block 0 (.loop iwL)):=by kernel_rfl
theorem iwL_parts:iwL=.seq (.seq iwR1 iwIf) (.seq (.block 1 iwBl) iwR2):=by kernel_rfl
theorem iwBl_parts:iwBl=.seq iwR3 iwT4:=by kernel_rfl
theorem iwT4_parts:iwT4=.seq iwR4 iwCd:=by kernel_rfl
theorem iwCd_parts:iwCd=iwCdx iwIn:=by kernel_rfl
noncomputable def hdW:List Item:=[.code iwL,.inLoop iwL,.inBlock 0]
noncomputable def hdW1:List Item:=[.inBlock 1,.code iwR2,.inLoop iwL,.inBlock 0]
noncomputable def xiwIf:Code:=iwIf
noncomputable def xiwR2:Code:=iwR2
noncomputable def xiwR0:Code:=iwR0
structure RegW (T:Array Value) (gp:Value) (C:Nat→Nat) (i:Nat):Prop where
  sz:T.size=73
  t0:T[0]?=some gp
  t1:T[1]?=some (.pointer (some ⟨C 1,0,none⟩))
  t2:T[2]?=some (.pointer (some ⟨C 2,0,none⟩))
  t3:T[3]?=some (.pointer (some ⟨C 3,0,none⟩))
  t4:T[4]?=some (.pointer (some ⟨C 4,0,none⟩))
  t5:T[5]?=some (.pointer (some ⟨C 5,0,none⟩))
  t6:T[6]?=some (.pointer (some ⟨C 6,0,none⟩))
  t7:T[7]?=some (.pointer (some ⟨C 7,0,none⟩))
  t8:T[8]?=some (.pointer (some ⟨C 8,0,none⟩))
  t9:T[9]?=some (.pointer (some ⟨C 9,0,none⟩))
  t10:T[10]?=some (.pointer (some ⟨C 10,0,none⟩))
  t12:T[12]?=some (.int .i64 (i:Int))
theorem RegW.up {T T':Array Value} {gp:Value} {C:Nat→Nat} {i:Nat} (R:RegW T gp C i) (hs:T'.size=73) (h:∀ j,j < 13→T'[j]?=T[j]?):RegW T' gp C i :=
  ⟨hs,(h 0 (by decide)).trans R.t0,(h 1 (by decide)).trans R.t1,(h 2 (by decide)).trans R.t2,(h 3 (by decide)).trans R.t3,(h 4 (by decide)).trans R.t4,(h 5 (by decide)).trans R.t5,(h 6 (by decide)).trans R.t6,(h 7 (by decide)).trans R.t7,(h 8 (by decide)).trans R.t8,(h 9 (by decide)).trans R.t9,(h 10 (by decide)).trans R.t10,(h 12 (by decide)).trans R.t12⟩
theorem slots13 (f:Nat→Value) {l:List Value}:∀ j,j < 13→(List.toArray (f 0 :: f 1 :: f 2 :: f 3 :: f 4 :: f 5 :: f 6 :: f 7 :: f 8 :: f 9 :: f 10 :: f 11 :: f 12 :: l))[j]?=some (f j)
  | 0,_ | 1,_ | 2,_ | 3,_ | 4,_ | 5,_ | 6,_ | 7,_ | 8,_ | 9,_ | 10,_ | 11,_ | 12,_=>rfl
  | n+13,h=>absurd h (by omega)
theorem iwR1_wp {T:Array Value} {x:World} {gp:Value} {C:Nat→Nat} {i t ba bo nn cp len cap:Nat} {A:Option Addr} {Q:Exit→Act→World→Prop} (R:RegW T gp C i) (k1:x.cell? ⟨C 1,0,none⟩=some (.slice (some ⟨ba,bo,none⟩) nn cp)) (k2:x.cell? ⟨C 2,0,none⟩=some (.int .i64 (t:Int))) (k3:x.cell? ⟨ba,bo+t,none⟩=some (.slice A len cap)) (ht:t < nn)
    (hQ:∀ T',T'.size=73→(∀ j,j < 13→T'[j]?=T[j]?)→T'[22]?=some (.bool (decide ((i:Int) < (len:Int))))→Q .normal ⟨T',[]⟩ x):iwR1.wp Try.prog Q ⟨T,[]⟩ x:=by
  obtain ⟨sz,t0,t1,t2,t3,t4,t5,t6,t7,t8,t9,t10,t12⟩:=R
  obtain ⟨f,rfl,fz⟩:=arrfv T sz
  have e0:=fz 0 _ t0
  have e1:=fz 1 _ t1
  have e2:=fz 2 _ t2
  have e3:=fz 3 _ t3
  have e4:=fz 4 _ t4
  have e5:=fz 5 _ t5
  have e6:=fz 6 _ t6
  have e7:=fz 7 _ t7
  have e8:=fz 8 _ t8
  have e9:=fz 9 _ t9
  have e10:=fz 10 _ t10
  have e12:=fz 12 _ t12
  have hj:∀ j,j < 13→(List.map f (List.range 73)).toArray[j]?=some (f j):=fun j hj=>arrf_get f (by omega)
  have q1:(0:Int)≤(t:Int):=by omega
  have q2:(t:Int) < (nn:Int):=by omega
  clear fz t0 t1 t2 t3 t4 t5 t6 t7 t8 t9 t10 t12 sz ht
  replace hj:=Lib.hid hj
  replace hQ:=Lib.hid hQ
  simp only [List.range,List.range.loop,List.map_cons,List.map_nil,e0,e1,e2,e3,e4,e5,e6,e7,e8,e9,e10,e12]
  simp only [iwR1,iwL,iwB,Try.f41,Option.getD_some]
  go_wp2_with fail
  refine hQ.out _ (by simp) (fun j hj'=>?_) (by simp)
  rw [hj.out j hj',← e0,← e1,← e2,← e3,← e4,← e5,← e6,← e7,← e8,← e9,← e10,← e12]
  exact slots13 f j hj'
theorem iwR4_wp {T:Array Value} {x:World} {gp:Value} {C:Nat→Nat} {i t ba bo nn cp len cap la lo:Nat} {c n:Int} {Q:Exit→Act→World→Prop} (R:RegW T gp C i) (k1:x.cell? ⟨C 1,0,none⟩=some (.slice (some ⟨ba,bo,none⟩) nn cp)) (k2:x.cell? ⟨C 2,0,none⟩=some (.int .i64 (t:Int))) (k3:x.cell? ⟨ba,bo+t,none⟩=some (.slice (some ⟨la,lo,none⟩) len cap)) (k4:x.cell? ⟨la,lo+i,none⟩=some (.int .i64 c)) (k5:x.cell? ⟨C 4,0,none⟩=some (.int .i64 n)) (ht:t < nn) (hi:i < len)
    (hQ:∀ T',T'.size=73→(∀ j,j < 13→T'[j]?=T[j]?)→T'[47]?=some (.bool ((c == 5) && decide (n < 3)))→Q .normal ⟨T',[]⟩ x):iwR4.wp Try.prog Q ⟨T,[]⟩ x:=by
  obtain ⟨sz,t0,t1,t2,t3,t4,t5,t6,t7,t8,t9,t10,t12⟩:=R
  obtain ⟨f,rfl,fz⟩:=arrfv T sz
  have e0:=fz 0 _ t0
  have e1:=fz 1 _ t1
  have e2:=fz 2 _ t2
  have e3:=fz 3 _ t3
  have e4:=fz 4 _ t4
  have e5:=fz 5 _ t5
  have e6:=fz 6 _ t6
  have e7:=fz 7 _ t7
  have e8:=fz 8 _ t8
  have e9:=fz 9 _ t9
  have e10:=fz 10 _ t10
  have e12:=fz 12 _ t12
  have hj:∀ j,j < 13→(List.map f (List.range 73)).toArray[j]?=some (f j):=fun j hj=>arrf_get f (by omega)
  have q1:(0:Int)≤(t:Int):=by omega
  have q2:(t:Int) < (nn:Int):=by omega
  have q3:(0:Int)≤(i:Int):=by omega
  have q4:(i:Int) < (len:Int):=by omega
  clear fz t0 t1 t2 t3 t4 t5 t6 t7 t8 t9 t10 t12 sz ht hi
  replace hj:=Lib.hid hj
  replace hQ:=Lib.hid hQ
  by_cases h5:c=5
  · subst h5
    rw [show ((5:Int) == 5)=true from rfl,Bool.true_and] at hQ
    simp only [List.range,List.range.loop,List.map_cons,List.map_nil,e0,e1,e2,e3,e4,e5,e6,e7,e8,e9,e10,e12]
    simp only [iwR4,iwT4,iwBl,iwL,iwB,Try.f41,Option.getD_some]
    go_wp2_with fail
    refine hQ.out _ (by simp) (fun j hj'=>?_) (by simp)
    rw [hj.out j hj',← e0,← e1,← e2,← e3,← e4,← e5,← e6,← e7,← e8,← e9,← e10,← e12]
    exact slots13 f j hj'
  · have hb1':(c == 5)=false:=beq_eq_false_iff_ne.2 h5
    rw [hb1',Bool.false_and] at hQ
    simp only [List.range,List.range.loop,List.map_cons,List.map_nil,e0,e1,e2,e3,e4,e5,e6,e7,e8,e9,e10,e12]
    simp only [iwR4,iwT4,iwBl,iwL,iwB,Try.f41,Option.getD_some]
    clear h5
    go_wp2_with fail
    refine hQ.out _ (by simp) (fun j hj'=>?_) (by simp)
    rw [hj.out j hj',← e0,← e1,← e2,← e3,← e4,← e5,← e6,← e7,← e8,← e9,← e10,← e12]
    exact slots13 f j hj'
section
variable {j:Nat} {F:Machine→Trace→Prop} {E:Env} {w:World} {T:Array Value} {gp:Value} {C:Nat→Nat} {bb i t ba bo nn cp len cap la lo:Nat} {cs:List Frame} {c n:Int}
theorem iw_r3 {k:List Item} (R:RegW T gp C i) (k1:w.cell? ⟨C 1,0,none⟩=some (.slice (some ⟨ba,bo,none⟩) nn cp)) (k2:w.cell? ⟨C 2,0,none⟩=some (.int .i64 (t:Int))) (k3:w.cell? ⟨ba,bo+t,none⟩=some (.slice (some ⟨la,lo,none⟩) len cap)) (k4:w.cell? ⟨la,lo+i,none⟩=some (.int .i64 c)) (k5:w.cell? ⟨C 3,0,none⟩=some (.pointer (some ⟨bb,0,none⟩)))
    (W1:E.W (C 1)=false) (W2:E.W (C 2)=false) (W3:E.W ba=false) (W4:E.W la=false) (W5:E.W (C 3)=false) (ht:t < nn) (hi:i < len)
    (hc:∀ T' w',AtE j E w E w'→RegW T' gp C i→HGn Try.prog j F E w' 200 (entry 42 Try.f42 #[gp,.int .i64 (t:Int),.int .i64 c,.pointer (some ⟨bb,0,none⟩)] ((base 41).at ⟨T',[]⟩ (.inRegion iwOps [10] :: k) :: cs))) :
    HG Try.prog j F E (G ((base 41).at ⟨T,[]⟩ (.code iwR3 :: k)) cs) w:=by
  have hcell:∀ {x y:World} {a:Addr} {v:Value},x.cell? a=some v→E.W a.block=false→Aw E.W x y→y.cell? a=some v:=fun {x y a v} h1 h2 h3=>(World.cell?_of_block (h3.heap _ h2)).trans h1
  have hSR:∀ x y:World,(x.cell? ⟨C 1,0,none⟩=some (.slice (some ⟨ba,bo,none⟩) nn cp)∧x.cell? ⟨C 2,0,none⟩=some (.int .i64 (t:Int))∧x.cell? ⟨ba,bo+t,none⟩=some (.slice (some ⟨la,lo,none⟩) len cap)∧x.cell? ⟨la,lo+i,none⟩=some (.int .i64 c)∧x.cell? ⟨C 3,0,none⟩=some (.pointer (some ⟨bb,0,none⟩)))→Aw E.W x y →
      (y.cell? ⟨C 1,0,none⟩=some (.slice (some ⟨ba,bo,none⟩) nn cp)∧y.cell? ⟨C 2,0,none⟩=some (.int .i64 (t:Int))∧y.cell? ⟨ba,bo+t,none⟩=some (.slice (some ⟨la,lo,none⟩) len cap)∧y.cell? ⟨la,lo+i,none⟩=some (.int .i64 c)∧y.cell? ⟨C 3,0,none⟩=some (.pointer (some ⟨bb,0,none⟩))) :=
    fun x y ⟨a1,a2,a3,a4,a5⟩ hA=>⟨hcell a1 W1 hA,hcell a2 W2 hA,hcell a3 W3 hA,hcell a4 W4 hA,hcell a5 W5 hA⟩
  have TT:Terms (Aw E.W) E.D:=terms_aw _ _ _ _
  have q1:(0:Int)≤(t:Int):=by omega
  have q2:(t:Int) < (nn:Int):=by omega
  have q3:(0:Int)≤(i:Int):=by omega
  have q4:(i:Int) < (len:Int):=by omega
  obtain ⟨sz,t0,t1,t2,t3,t4,t5,t6,t7,t8,t9,t10,t12⟩:=R
  obtain ⟨f,hf,fz⟩:=arrfv T sz
  have e0:=fz 0 _ t0
  have e1:=fz 1 _ t1
  have e2:=fz 2 _ t2
  have e3:=fz 3 _ t3
  have e4:=fz 4 _ t4
  have e5:=fz 5 _ t5
  have e6:=fz 6 _ t6
  have e7:=fz 7 _ t7
  have e8:=fz 8 _ t8
  have e9:=fz 9 _ t9
  have e10:=fz 10 _ t10
  have e12:=fz 12 _ t12
  clear fz t0 t1 t2 t3 t4 t5 t6 t7 t8 t9 t10 t12 sz
  rw [hf]
  clear hf
  obtain ⟨aF,haF⟩:∃ aF:Act,aF=⟨#[gp,.pointer (some ⟨C 1,0,none⟩),.pointer (some ⟨C 2,0,none⟩),.pointer (some ⟨C 3,0,none⟩),.pointer (some ⟨C 4,0,none⟩),.pointer (some ⟨C 5,0,none⟩),.pointer (some ⟨C 6,0,none⟩),.pointer (some ⟨C 7,0,none⟩),.pointer (some ⟨C 8,0,none⟩),.pointer (some ⟨C 9,0,none⟩),.pointer (some ⟨C 10,0,none⟩),f 11,.int .i64 (i:Int),f 13,f 14,f 15,f 16,f 17,f 18,f 19,f 20,f 21,f 22,f 23,f 24,gp,.int .i64 (t:Int),.slice (some ⟨ba,bo,none⟩) nn cp,.int .i64 (t:Int),.pointer (some ⟨ba,bo+t,none⟩),.slice (some ⟨la,lo,none⟩) len cap,.int .i64 (i:Int),.pointer (some ⟨la,lo+i,none⟩),.int .i64 c,.pointer (some ⟨bb,0,none⟩),f 35,f 36,f 37,f 38,f 39,f 40,f 41,f 42,f 43,f 44,f 45,f 46,f 47,f 48,f 49,f 50,f 51,f 52,f 53,f 54,f 55,f 56,f 57,f 58,f 59,f 60,f 61,f 62,f 63,f 64,f 65,f 66,f 67,f 68,f 69,f 70,f 71,f 72],[]⟩:=⟨_,rfl⟩
  have hS0:w.cell? ⟨C 1,0,none⟩=some (.slice (some ⟨ba,bo,none⟩) nn cp)∧w.cell? ⟨C 2,0,none⟩=some (.int .i64 (t:Int))∧w.cell? ⟨ba,bo+t,none⟩=some (.slice (some ⟨la,lo,none⟩) len cap)∧w.cell? ⟨la,lo+i,none⟩=some (.int .i64 c)∧w.cell? ⟨C 3,0,none⟩=some (.pointer (some ⟨bb,0,none⟩)):=⟨k1,k2,k3,k4,k5⟩
  clear k1 k2 k3 k4 k5 hcell
  replace hc:=Lib.hid hc
  generalize k=KB at hc ⊢
  rw [show iwR3=.region 3 iwOps true from by kernel_rfl]
  simp only [List.range,List.range.loop,List.map_cons,List.map_nil,e0,e1,e2,e3,e4,e5,e6,e7,e8,e9,e10,e12]
  refine HG.looksTo (n:=10) (o:=iwOp) (aF:=aF) (S:=fun x=>x.cell? ⟨C 1,0,none⟩=some (.slice (some ⟨ba,bo,none⟩) nn cp)∧x.cell? ⟨C 2,0,none⟩=some (.int .i64 (t:Int))∧x.cell? ⟨ba,bo+t,none⟩=some (.slice (some ⟨la,lo,none⟩) len cap)∧x.cell? ⟨la,lo+i,none⟩=some (.int .i64 c)∧x.cell? ⟨C 3,0,none⟩=some (.pointer (some ⟨bb,0,none⟩))) (by kernel_rfl) (by rfl) (by kernel_rfl) (by kernel_rfl) (fun w₁ hA=>?_) (fun w' hA=>?_)
  · have hS1:=hSR w w₁ hS0 hA
    have hQR:∀ (a:Act) (x y:World),(Exit.normal=Exit.normal∧a=aF∧Aw E.W w x)→Aw E.W x y→(Exit.normal=Exit.normal∧a=aF∧Aw E.W w y):=fun a x y ⟨q1,q2,q3⟩ hxy=>⟨q1,q2,Aw.trans _ _ _ q3 hxy⟩
    have hA1:=aw_draw hA (w₁.drawn+1)
    replace hA1:=Lib.hid hA1
    replace haF:=Lib.hid haF
    clear hA hc hS0
    simp only [iwOps,iwR3,iwBl,iwL,iwB,Try.f41,Option.getD_some,nopOf,List.setIfInBounds_toArray,List.set_cons_zero,List.set_cons_succ,List.size_toArray,List.length_cons,List.length_nil,Nat.zero_add,Nat.reduceAdd]
    refine anyCH_take TT hSR hQR (i:=0) (v:=gp) rfl (by kernel_rfl) (by kernel_rfl) (by kernel_rfl) (yields_pure (by rfl) (fun w=>by go_simp) (fun w=>by simp [go_sem, *])) hS1 ?_
    simp only [Act.put,List.setIfInBounds_toArray,List.set_cons_zero,List.set_cons_succ,List.getElem_toArray,List.getElem_cons_succ,List.getElem_cons_zero]
    refine anyCH_take TT hSR hQR (i:=1) (v:=.int .i64 (t:Int)) rfl (by kernel_rfl) (by kernel_rfl) (by kernel_rfl) (yields_ld (ad:=⟨C 2,0,none⟩) (fun w hs=>hs.2.1) W2 (by rfl) (fun w hc=>⟨by go_simp,fun e he=>by (have he':=he; simp [go_sem,hc] at he'; exact he')⟩)) hS1 ?_
    simp only [Act.put,List.setIfInBounds_toArray,List.set_cons_zero,List.set_cons_succ,List.getElem_toArray,List.getElem_cons_succ,List.getElem_cons_zero]
    refine anyCH_take TT hSR hQR (i:=2) (v:=.slice (some ⟨ba,bo,none⟩) nn cp) rfl (by kernel_rfl) (by kernel_rfl) (by kernel_rfl) (yields_ld (ad:=⟨C 1,0,none⟩) (fun w hs=>hs.1) W1 (by rfl) (fun w hc=>⟨by go_simp,fun e he=>by (have he':=he; simp [go_sem,hc] at he'; exact he')⟩)) hS1 ?_
    simp only [Act.put,List.setIfInBounds_toArray,List.set_cons_zero,List.set_cons_succ,List.getElem_toArray,List.getElem_cons_succ,List.getElem_cons_zero]
    refine anyCH_take TT hSR hQR (i:=3) (v:=.int .i64 (t:Int)) rfl (by kernel_rfl) (by kernel_rfl) (by kernel_rfl) (yields_ld (ad:=⟨C 2,0,none⟩) (fun w hs=>hs.2.1) W2 (by rfl) (fun w hc=>⟨by go_simp,fun e he=>by (have he':=he; simp [go_sem,hc] at he'; exact he')⟩)) hS1 ?_
    simp only [Act.put,List.setIfInBounds_toArray,List.set_cons_zero,List.set_cons_succ,List.getElem_toArray,List.getElem_cons_succ,List.getElem_cons_zero]
    refine anyCH_take TT hSR hQR (i:=4) (v:=.pointer (some ⟨ba,bo+t,none⟩)) rfl (by kernel_rfl) (by kernel_rfl) (by kernel_rfl) (yields_pure (by rfl) (fun w=>by go_simp) (fun w=>by simp [go_sem, *])) hS1 ?_
    simp only [Act.put,List.setIfInBounds_toArray,List.set_cons_zero,List.set_cons_succ,List.getElem_toArray,List.getElem_cons_succ,List.getElem_cons_zero]
    refine anyCH_take TT hSR hQR (i:=5) (v:=.slice (some ⟨la,lo,none⟩) len cap) rfl (by kernel_rfl) (by kernel_rfl) (by kernel_rfl) (yields_ld (ad:=⟨ba,bo+t,none⟩) (fun w hs=>hs.2.2.1) W3 (by rfl) (fun w hc=>⟨by go_simp,fun e he=>by (have he':=he; simp [go_sem,hc] at he'; exact he')⟩)) hS1 ?_
    simp only [Act.put,List.setIfInBounds_toArray,List.set_cons_zero,List.set_cons_succ,List.getElem_toArray,List.getElem_cons_succ,List.getElem_cons_zero]
    refine anyCH_take TT hSR hQR (i:=6) (v:=.int .i64 (i:Int)) rfl (by kernel_rfl) (by kernel_rfl) (by kernel_rfl) (yields_pure (by rfl) (fun w=>by go_simp) (fun w=>by simp [go_sem, *])) hS1 ?_
    simp only [Act.put,List.setIfInBounds_toArray,List.set_cons_zero,List.set_cons_succ,List.getElem_toArray,List.getElem_cons_succ,List.getElem_cons_zero]
    refine anyCH_take TT hSR hQR (i:=7) (v:=.pointer (some ⟨la,lo+i,none⟩)) rfl (by kernel_rfl) (by kernel_rfl) (by kernel_rfl) (yields_pure (by rfl) (fun w=>by go_simp) (fun w=>by simp [go_sem, *])) hS1 ?_
    simp only [Act.put,List.setIfInBounds_toArray,List.set_cons_zero,List.set_cons_succ,List.getElem_toArray,List.getElem_cons_succ,List.getElem_cons_zero]
    refine anyCH_take TT hSR hQR (i:=8) (v:=.int .i64 c) rfl (by kernel_rfl) (by kernel_rfl) (by kernel_rfl) (yields_ld (ad:=⟨la,lo+i,none⟩) (fun w hs=>hs.2.2.2.1) W4 (by rfl) (fun w hc=>⟨by go_simp,fun e he=>by (have he':=he; simp [go_sem,hc] at he'; exact he')⟩)) hS1 ?_
    simp only [Act.put,List.setIfInBounds_toArray,List.set_cons_zero,List.set_cons_succ,List.getElem_toArray,List.getElem_cons_succ,List.getElem_cons_zero]
    refine anyCH_take TT hSR hQR (i:=9) (v:=.pointer (some ⟨bb,0,none⟩)) rfl (by kernel_rfl) (by kernel_rfl) (by kernel_rfl) (yields_ld (ad:=⟨C 3,0,none⟩) (fun w hs=>hs.2.2.2.2) W5 (by rfl) (fun w hc=>⟨by go_simp,fun e he=>by (have he':=he; simp [go_sem,hc] at he'; exact he')⟩)) hS1 ?_
    simp only [Act.put,List.setIfInBounds_toArray,List.set_cons_zero,List.set_cons_succ,List.getElem_toArray,List.getElem_cons_succ,List.getElem_cons_zero]
    refine anyCH_take TT hSR hQR (i:=10) (v:=undef) rfl (by kernel_rfl) (by kernel_rfl) (by kernel_rfl) (yields_pure (by rfl) (fun w=>by go_simp) (fun w=>by simp [go_sem])) hS1 ?_
    simp only [Act.put,List.getElem_toArray,List.getElem_cons_succ,List.getElem_cons_zero]
    refine anyCH_done (by kernel_rfl) ⟨rfl,haF.out.symm,hA1.out⟩ _
  · subst haF
    change HGn Try.prog j F E w' 300 _
    refine Idl.callE (fn:=Try.f42) (vs:=#[gp,.int .i64 (t:Int),.int .i64 c,.pointer (some ⟨bb,0,none⟩)]) (idl_hg Try.prog j F E w') (o:=iwOp) (by kernel_rfl) rfl (by k_ne) rfl Try.func42 rfl rfl (by simp [Act.eval]) ?_
    exact hc.out _ w' ⟨.refl j E,hA⟩ ⟨by simp,by simp,by simp,by simp,by simp,by simp,by simp,by simp,by simp,by simp,by simp,by simp,by simp⟩
theorem iw_back3 {k:List Item} (R:RegW T gp C i) (hc:∀ T',RegW T' gp C i→HG Try.prog j F E (G ((base 41).at ⟨T',[]⟩ k) cs) w) :
    HG Try.prog j F E (G ((base 41).at ((⟨T,[]⟩:Act).put ((iwOps[10]?).bind (·.dst)) (.tuple #[])) (.inRegion iwOps [] :: k)) cs) w:=by
  rw [show (iwOps[10]?).bind (·.dst)=some 35 by kernel_rfl]
  change HGn Try.prog j F E w 100 _
  refine Idl.step (idl_hg Try.prog j F E w) _ _ _ rfl (fun _=>stepG_region_end) ?_
  exact hc _ (R.up (by simp [R.sz]) (fun j hj=>by simp only [Act.put]; rw [Array.getElem?_setIfInBounds_ne (by omega)]))
theorem iw_again (R:RegW T gp C i) (hi:i≤1000000000000) (hc:∀ T',RegW T' gp C (i+1)→HG Try.prog j F E (G ((base 41).at ⟨T',[]⟩ hdW) cs) w) :
    HG Try.prog j F E (G ((base 41).at ⟨T,[]⟩ hdW1) cs) w:=by
  have w3:IntKind.i64.wrap ((i:Int)+1)=((i+1:Nat):Int):=by rw [IntKind.wrap_i64]; omega
  obtain ⟨sz,t0,t1,t2,t3,t4,t5,t6,t7,t8,t9,t10,t12⟩:=R
  obtain ⟨f,hf,fz⟩:=arrfv T sz
  have e0:=fz 0 _ t0
  have e1:=fz 1 _ t1
  have e2:=fz 2 _ t2
  have e3:=fz 3 _ t3
  have e4:=fz 4 _ t4
  have e5:=fz 5 _ t5
  have e6:=fz 6 _ t6
  have e7:=fz 7 _ t7
  have e8:=fz 8 _ t8
  have e9:=fz 9 _ t9
  have e10:=fz 10 _ t10
  have e12:=fz 12 _ t12
  clear fz t0 t1 t2 t3 t4 t5 t6 t7 t8 t9 t10 t12 sz hi
  rw [hf]
  clear hf
  have hc':∀ T':Array Value,T'.size=73→T'[0]?=some gp→T'[1]?=some (.pointer (some ⟨C 1,0,none⟩))→T'[2]?=some (.pointer (some ⟨C 2,0,none⟩))→T'[3]?=some (.pointer (some ⟨C 3,0,none⟩))→T'[4]?=some (.pointer (some ⟨C 4,0,none⟩))→T'[5]?=some (.pointer (some ⟨C 5,0,none⟩))→T'[6]?=some (.pointer (some ⟨C 6,0,none⟩))→T'[7]?=some (.pointer (some ⟨C 7,0,none⟩))→T'[8]?=some (.pointer (some ⟨C 8,0,none⟩))→T'[9]?=some (.pointer (some ⟨C 9,0,none⟩))→T'[10]?=some (.pointer (some ⟨C 10,0,none⟩))→T'[12]?=some (.int .i64 ((i+1:Nat):Int))→HG Try.prog j F E (G ((base 41).at ⟨T',[]⟩ hdW) cs) w:=fun T' az a0 a1 a2 a3 a4 a5 a6 a7 a8 a9 a10 a12=>hc T' ⟨az,a0,a1,a2,a3,a4,a5,a6,a7,a8,a9,a10,a12⟩
  clear hc
  replace hc':=Lib.hid hc'
  change HGn Try.prog j F E w 100 _
  unfold hdW1
  unfold hdW at hc'
  generalize iwL=L4 at hc' ⊢
  rw [show iwR2=xiwR2 from rfl]
  simp only [xiwR2,iwR2,iwL,iwB,Try.f41,Option.getD_some,List.range,List.range.loop,List.map_cons,List.map_nil,e0,e1,e2,e3,e4,e5,e6,e7,e8,e9,e10,e12]
  refine Idl.ib (idl_hg Try.prog j F E w) (Idl.rg (idl_hg Try.prog j F E w) [0,1,2] rfl ?_)
  iterate 3 (apply Idl.value (idl_hg Try.prog j F E w) rfl rfl (by first | decide | exact base_kind _ | exact baseD_kind _ | assumption); (focus (intro w; go_simp; (try w_num); first | done | rfl)); (focus (intro w; simp [go_sem, *])); walk_nrm)
  refine Idl.re (idl_hg Try.prog j F E w) (Idl.il (idl_hg Try.prog j F E w) ?_)
  try simp only [w3]
  exact hc'.out _ (by simp) (by simp) (by simp) (by simp) (by simp) (by simp) (by simp) (by simp) (by simp) (by simp) (by simp) (by simp) (by simp)
theorem iw_no (R:RegW T gp C i) (t47:T[47]?=some (.bool false)) (hc:∀ T',RegW T' gp C i→HG Try.prog j F E (G ((base 41).at ⟨T',[]⟩ hdW1) cs) w) :
    HG Try.prog j F E (G ((base 41).at ⟨T,[]⟩ (.code iwCd :: hdW1)) cs) w:=by
  change HGn Try.prog j F E w 100 _
  rw [iwCd_parts]
  have hc':=hc T R
  clear hc
  obtain ⟨f,hf,fz⟩:=arrfv T R.sz
  have e47:=fz 47 _ t47
  generalize iwIn=L1
  simp only [iwCdx,iwCd,iwT4,iwBl,iwL,iwB,Try.f41,Option.getD_some]
  have ev:(⟨T,[]⟩:Act).eval (.tmp 47)=.bool false:=by
    simp only [Act.eval]
    rw [Array.getD_eq_getD_getElem?,t47]
    rfl
  refine Idl.cond (idl_hg Try.prog j F E w) false ev ?_
  simp only [if_true,if_false,Bool.false_eq_true,↓reduceIte]
  refine Idl.step (idl_hg Try.prog j F E w) _ _ _ rfl (fun _=>stepG_skip) ?_
  exact hc'
theorem iw_yes (t47:T[47]?=some (.bool true)) (hc:HG Try.prog j F E (G ((base 41).at ⟨T,[]⟩ (.code iwIn :: hdW1)) cs) w) :
    HG Try.prog j F E (G ((base 41).at ⟨T,[]⟩ (.code iwCd :: hdW1)) cs) w:=by
  change HGn Try.prog j F E w 100 _
  rw [iwCd_parts]
  generalize iwIn=L1 at hc ⊢
  simp only [iwCdx,iwCd,iwT4,iwBl,iwL,iwB,Try.f41,Option.getD_some]
  have ev:(⟨T,[]⟩:Act).eval (.tmp 47)=.bool true:=by
    simp only [Act.eval]
    rw [Array.getD_eq_getD_getElem?,t47]
    rfl
  refine Idl.cond (idl_hg Try.prog j F E w) true ev ?_
  simp only [if_true,if_false,Bool.false_eq_true,↓reduceIte]
  exact hc
theorem iw_head {A:Option Addr} (R:RegW T gp C i) (k1:w.cell? ⟨C 1,0,none⟩=some (.slice (some ⟨ba,bo,none⟩) nn cp)) (k2:w.cell? ⟨C 2,0,none⟩=some (.int .i64 (t:Int))) (k3:w.cell? ⟨ba,bo+t,none⟩=some (.slice A len cap)) (h1:E.H (C 1)=none) (h2:E.H (C 2)=none) (h3:E.H ba=none) (ht:t < nn)
    (hgo:i < len→∀ E1 w1 T',Still j E w E1 w1→RegW T' gp C i→HG Try.prog j F E1 (G ((base 41).at ⟨T',[]⟩ (.code iwBl :: hdW1)) cs) w1)
    (hend:len≤i→∀ E1 w1 T',Still j E w E1 w1→T'.size=73→HGn Try.prog j F E1 w1 100 (G ((base 41).at ⟨T',[]⟩ []) cs)) :
    HG Try.prog j F E (G ((base 41).at ⟨T,[]⟩ hdW) cs) w:=by
  unfold hdW
  change HGn Try.prog j F E w 100 _
  have e:([.code iwL,.inLoop iwL,.inBlock 0]:List Item)=[.code (.seq (.seq iwR1 iwIf) (.seq (.block 1 iwBl) iwR2)),.inLoop iwL,.inBlock 0]:=congrArg (fun z=>[Item.code z,.inLoop iwL,.inBlock 0]) iwL_parts
  rw [e]
  clear e
  refine Idl.step (idl_hg Try.prog j F E w) _ _ _ rfl (fun _=>stepG_seq) ?_
  refine Idl.step (idl_hg Try.prog j F E w) _ _ _ rfl (fun _=>stepG_seq) ?_
  refine HG.quietN (closed_none _) (fun T'=>T'.size=73∧(∀ j,j < 13→T'[j]?=T[j]?)∧T'[22]?=some (.bool (decide ((i:Int) < (len:Int))))) (by kernel_rfl) (by rfl) (fun x hx=>iwR1_wp R ((World.cell?_of_block (a:=⟨C 1,0,none⟩) (hx _ h1)).trans k1) ((World.cell?_of_block (a:=⟨C 2,0,none⟩) (hx _ h2)).trans k2) ((World.cell?_of_block (a:=⟨ba,bo+t,none⟩) (hx _ h3)).trans k3) ht (fun T' a1 a2 a3=>⟨rfl,rfl,fun _ _=>rfl,a1,a2,a3⟩)) (fun E1 w1 T1 S1 hR=>?_)
  obtain ⟨s1,o1,r22⟩:=hR
  have R1:=R.up s1 o1
  change HGn Try.prog j F E1 w1 200 _
  by_cases hlt:i < len
  · rw [decide_eq_true (show (i:Int) < (len:Int) by omega)] at r22
    have hg':=hgo hlt E1 w1 T1 S1 R1
    have ev:(⟨T1,[]⟩:Act).eval (.tmp 22)=.bool true:=by
      simp only [Act.eval]
      rw [Array.getD_eq_getD_getElem?,r22]
      rfl
    clear hgo hend
    unfold hdW1 at hg'
    generalize iwBl=L3 at hg' ⊢
    generalize iwR2=L2 at hg' ⊢
    generalize iwL=L4 at hg' ⊢
    rw [show iwIf=xiwIf from rfl]
    simp only [xiwIf,iwIf,iwL,iwB,Try.f41,Option.getD_some]
    refine Idl.cond (idl_hg Try.prog j F E1 w1) true ev ?_
    simp only [if_true,if_false,Bool.false_eq_true,↓reduceIte]
    refine Idl.step (idl_hg Try.prog j F E1 w1) _ _ _ rfl (fun _=>stepG_skip) ?_
    refine Idl.step (idl_hg Try.prog j F E1 w1) _ _ _ rfl (fun _=>stepG_seq) ?_
    refine Idl.step (idl_hg Try.prog j F E1 w1) _ _ _ rfl (fun _=>stepG_block) ?_
    exact hg'
  · rw [decide_eq_false (show ¬ (i:Int) < (len:Int) by omega)] at r22
    have hg:=hend (by omega) E1 w1 T1 S1 s1
    have ev:(⟨T1,[]⟩:Act).eval (.tmp 22)=.bool false:=by
      simp only [Act.eval]
      rw [Array.getD_eq_getD_getElem?,r22]
      rfl
    clear hgo hend
    generalize iwBl=L3 at ⊢
    generalize iwR2=L2 at ⊢
    generalize iwL=L4 at ⊢
    rw [show iwIf=xiwIf from rfl]
    simp only [xiwIf,iwIf,iwL,iwB,Try.f41,Option.getD_some]
    refine Idl.cond (idl_hg Try.prog j F E1 w1) false ev ?_
    simp only [if_true,if_false,Bool.false_eq_true,↓reduceIte]
    refine Idl.exit (idl_hg Try.prog j F E1 w1) rfl ?_
    exact hg
end
section
variable {P:Program} {h:Nat} {F:Machine→Trace→Prop} {E:Env} {w:World} {fr:Frame} {a:Act} {k:List Item} {cs:List Frame} {ops:Array Oper}
theorem HG.draw {rid:Nat} (hm:P.follows .mixedOrders=true)
    (hg:∀ t w',Aw E.W w w'→HG P h F E (G (fr.at a (.inRegion ops (Region.linearise.go .any ops ops.size t (Array.replicate ops.size false) []) :: k)) cs) w'):HG P h F E (G (fr.at a (.code (.region rid ops true) :: k)) cs) w:=by
  refine (HG.clo P h F E).own rfl (fun w₁ hA=>⟨_,_,_,stepG_region_draw,⟨Nat.le_refl _,fun _ _=>rfl,fun _ _=>rfl,fun _ _ x _ _ _ h=>⟨x,h⟩,fun f=>(by cases f; constructor <;> assumption),fun e he=>by simp at he,SameIo.refl _⟩,?_⟩)
  simp only [Region.schedule,hm,Bool.true_or,if_true]
  exact hg _ _ (aw_draw hA (w₁.drawn+1))
theorem HG.drawn {fuel t:Nat} {listed:Array Bool} {L:List Nat} (hL:Region.ready .any ops listed=L) (hne:L≠[]) (hg:∀ i ∈ L,∀ t',HG P h F E (G (fr.at a (.inRegion ops (i :: Region.linearise.go .any ops fuel t' (listed.setIfInBounds i true) []) :: k)) cs) w) :
    HG P h F E (G (fr.at a (.inRegion ops (Region.linearise.go .any ops (fuel+1) t listed []) :: k)) cs) w:=by
  subst hL
  simp only [Region.linearise.go]
  change HG P h F E (G (fr.at a (.inRegion ops (match (Region.ready .any ops listed)[t % (Region.ready .any ops listed).length]? with
      | some i=>Region.linearise.go .any ops fuel (t / (Region.ready .any ops listed).length) (listed.setIfInBounds i true) [i]
      | none=>[].reverse) :: k)) cs) w
  cases hi:(Region.ready .any ops listed)[t % (Region.ready .any ops listed).length]? with
  | none =>
    refine absurd ?_ hne
    cases hr:Region.ready .any ops listed with
    | nil=>rfl
    | cons x xs =>
      rw [hr] at hi
      have hlt:t % (x :: xs).length < (x :: xs).length:=Nat.mod_lt _ (by simp)
      simp at hi
      simp at hlt
      omega
  | some i =>
    simp only []
    rw [linearise_go_acc,List.reverse_singleton,List.singleton_append]
    exact hg i (List.mem_of_getElem? hi) _
end
noncomputable def iwR5:Code:=match iwIn with | .seq x _=>x | _=>.skip
noncomputable def iwR6:Code:=match iwIn with | .seq _ (.seq x _)=>x | _=>.skip
noncomputable def iwR7:Code:=match iwIn with | .seq _ (.seq _ (.seq x _))=>x | _=>.skip
noncomputable def iwR8:Code:=match iwIn with | .seq _ (.seq _ (.seq _ (.seq x _)))=>x | _=>.skip
noncomputable def iwR9:Code:=match iwIn with | .seq _ (.seq _ (.seq _ (.seq _ x)))=>x | _=>.skip
theorem iwIn_parts:iwIn=.seq iwR5 (.seq iwR6 (.seq iwR7 (.seq iwR8 iwR9))):=by kernel_rfl
noncomputable def iwOps7:Array Oper:=match iwR7 with | .region _ o _=>o | _=>#[]
noncomputable def o7 (n:Nat):Oper:=(iwOps7[n]?).getD default
def lst (b0 b1 b2 b3 b4 b5:Bool):Array Bool:=#[b0,b1,b2,b3,b4,b5,false]
theorem o7_size:iwOps7.size=7:=by kernel_rfl
theorem o7_0:iwOps7[0]?=some (o7 0)∧(o7 0).op=.load 57 (.tmp 5)∧(o7 0).dst=some 52∧(o7 0).guard=none:=⟨by kernel_rfl,by kernel_rfl,by kernel_rfl,by kernel_rfl⟩
theorem o7_1:iwOps7[1]?=some (o7 1)∧(o7 1).op=.move (.tmp 13)∧(o7 1).dst=some 53∧(o7 1).guard=none:=⟨by kernel_rfl,by kernel_rfl,by kernel_rfl,by kernel_rfl⟩
theorem o7_3:iwOps7[3]?=some (o7 3)∧(o7 3).op=.load 23 (.tmp 6)∧(o7 3).dst=some 55∧(o7 3).guard=none:=⟨by kernel_rfl,by kernel_rfl,by kernel_rfl,by kernel_rfl⟩
theorem o7_4:iwOps7[4]?=some (o7 4)∧(o7 4).op=.load 4 (.tmp 7)∧(o7 4).dst=some 56∧(o7 4).guard=none:=⟨by kernel_rfl,by kernel_rfl,by kernel_rfl,by kernel_rfl⟩
theorem ready_pre (b0 b1 b3 b4:Bool):Region.ready .any iwOps7 (lst b0 b1 false b3 b4 false)=(if b0 then [] else [0]) ++ ((if b1 then [] else [1]) ++ ((if b0 && b1 then [2] else []) ++ ((if b3 then [] else [3]) ++ (if b4 then [] else [4])))):=by
  cases b0 <;> cases b1 <;> cases b3 <;> cases b4 <;> kernel_rfl
theorem ready_post (b3 b4:Bool):Region.ready .any iwOps7 (lst true true true b3 b4 false)=(if b3 then [] else [3]) ++ ((if b4 then [] else [4]) ++ (if b3 && b4 then [5] else [])):=by
  cases b3 <;> cases b4 <;> kernel_rfl
theorem ready_end:Region.ready .any iwOps7 (lst true true true true true true)=[6]:=by kernel_rfl
theorem wanted_none {o:Oper} {y:Nat→Option Bool} (h:o.guard=none):Region.wanted o y=true:=by unfold Region.wanted; rw [h]
theorem ld_run {o:Oper} {ty:TypeId} {s:Nat} {T:Array Value} {ad:Addr} {v:Value} (hty:ty=57∨ty=23∨ty=4) (ho:o.op=.load ty (.tmp s)) (hs:T[s]?=some (.pointer (some ad))):∀ w₁:World,w₁.cell? ad=some v→(execOp (⟨T,[]⟩:Act).eval o).run Try.prog w₁=.ok (.value v) w₁∧∀ e ∈ (execOp (⟨T,[]⟩:Act).eval o).events Try.prog w₁ #[],e=⟨.cell ad,false,false⟩:=fun w₁ hc=>by
  have e1:(⟨T,[]⟩:Act).eval (.tmp s)=.pointer (some ad):=by
    simp only [Act.eval]
    rw [Array.getD_eq_getD_getElem?,hs]
    rfl
  unfold execOp
  rw [ho]
  simp only [e1]
  rcases hty with rfl | rfl | rfl
  · exact ⟨by go_simp,fun e he=>by (have he':=he; simp [go_sem,hc] at he'; exact he')⟩
  · exact ⟨by go_simp,fun e he=>by (have he':=he; simp [go_sem,hc] at he'; exact he')⟩
  · exact ⟨by go_simp,fun e he=>by (have he':=he; simp [go_sem,hc] at he'; exact he')⟩
section
variable {j:Nat} {F:Machine→Trace→Prop} {E:Env} {w:World} {gp tv pv dv v bp:Value} {C:Nat→Nat} {i:Nat} {k:List Item} {cs:List Frame}
theorem RegW.put {T:Array Value} (R:RegW T gp C i) {s:Nat} (u:Value) (hs:13≤s):RegW (T.setIfInBounds s u) gp C i:=R.up (by simp [R.sz]) (fun j hj=>Array.getElem?_setIfInBounds_ne (by omega))
theorem put_self {T:Array Value} {s:Nat} {u:Value} (h:s < T.size):(T.setIfInBounds s u)[s]?=some u:=by simp [Array.getElem?_setIfInBounds,h]
theorem put_ne {T:Array Value} {s s':Nat} {u v:Value} (h:s≠s') (e:T[s']?=some v):(T.setIfInBounds s u)[s']?=some v:=by rw [Array.getElem?_setIfInBounds_ne h]; exact e
theorem r7_post (cw:w.cell? ⟨C 6,0,none⟩=some pv) (W6:E.W (C 6)=false) (cd:w.cell? ⟨C 7,0,none⟩=some dv) (W7:E.W (C 7)=false)
    (hrun:∀ T' t',RegW T' gp C i→T'[13]?=some bp→T'[54]?=some v→T'[55]?=some pv→T'[56]?=some dv→HG Try.prog j F E (G ((base 41).at ⟨T',[]⟩ (.inRegion iwOps7 (5 :: Region.linearise.go .any iwOps7 1 t' (lst true true true true true true) []) :: k)) cs) w) :
    ∀ (n:Nat) (b3 b4:Bool) (t:Nat) (T:Array Value),(if b3 then 0 else 1)+(if b4 then 0 else 1)=n→RegW T gp C i→T[13]?=some bp→T[54]?=some v→(b3=true→T[55]?=some pv)→(b4=true→T[56]?=some dv) →
      HG Try.prog j F E (G ((base 41).at ⟨T,[]⟩ (.inRegion iwOps7 (Region.linearise.go .any iwOps7 (n+2) t (lst true true true b3 b4 false) []) :: k)) cs) w:=by
  intro n
  induction n with
  | zero =>
    intro b3 b4 t T hn R h13 h54 h3 h4
    cases b3 <;> cases b4 <;> simp at hn
    refine HG.drawn (ready_post true true) (by simp) (fun x hx t'=>?_)
    have hx5:x=5:=by simpa using hx
    subst hx5
    exact hrun T t' R h13 h54 (h3 rfl) (h4 rfl)
  | succ n ih =>
    intro b3 b4 t T hn R h13 h54 h3 h4
    refine HG.drawn (ready_post b3 b4) (by cases b3 <;> cases b4 <;> simp) (fun x hx t'=>?_)
    simp only [List.mem_append] at hx
    have hT:=R.sz
    rcases hx with hx | hx | hx
    · cases b3 with
      | true=>simp at hx
      | false =>
        have hx5:x=3:=by simpa using hx
        subst hx5
        obtain ⟨p1,p2,p3,p4⟩:=o7_3
        change HGn Try.prog j F E w 100 _
        refine HGn.ld cw (fun z=>by rw [W6] at z; cases z) p1 (wanted_none p4) (by k_ne) (ld_run (.inr (.inl rfl)) p2 R.t6) ?_
        rw [p3]
        exact ih true b4 t' _ (by cases b4 <;> simp at hn ⊢ <;> omega) (R.put _ (by decide)) (put_ne (by decide) h13) (put_ne (by decide) h54) (fun _=>put_self (T:=T) (by rw [hT]; decide)) (fun hb=>put_ne (by decide) (h4 hb))
    · cases b4 with
      | true=>simp at hx
      | false =>
        have hx5:x=4:=by simpa using hx
        subst hx5
        obtain ⟨p1,p2,p3,p4⟩:=o7_4
        change HGn Try.prog j F E w 100 _
        refine HGn.ld cd (fun z=>by rw [W7] at z; cases z) p1 (wanted_none p4) (by k_ne) (ld_run (.inr (.inr rfl)) p2 R.t7) ?_
        rw [p3]
        exact ih b3 true t' _ (by cases b3 <;> simp at hn ⊢ <;> omega) (R.put _ (by decide)) (put_ne (by decide) h13) (put_ne (by decide) h54) (fun hb=>put_ne (by decide) (h3 hb)) (fun _=>put_self (T:=T) (by rw [hT]; decide))
    · cases b3 <;> cases b4 <;> simp at hn hx
theorem r7_pre (ct:w.cell? ⟨C 5,0,none⟩=some tv) (W5:E.W (C 5)=false) (cw:w.cell? ⟨C 6,0,none⟩=some pv) (W6:E.W (C 6)=false) (cd:w.cell? ⟨C 7,0,none⟩=some dv) (W7:E.W (C 7)=false)
    (hcall:∀ (m:Nat) (b3 b4:Bool) T' t',(if b3 then 0 else 1)+(if b4 then 0 else 1)=m→RegW T' gp C i→T'[13]?=some bp→T'[52]?=some tv→T'[53]?=some bp→(b3=true→T'[55]?=some pv)→(b4=true→T'[56]?=some dv)→HG Try.prog j F E (G ((base 41).at ⟨T',[]⟩ (.inRegion iwOps7 (2 :: Region.linearise.go .any iwOps7 (m+2) t' (lst true true true b3 b4 false) []) :: k)) cs) w) :
    ∀ (n:Nat) (b0 b1 b3 b4:Bool) (t:Nat) (T:Array Value),(if b0 then 0 else 1)+(if b1 then 0 else 1)+(if b3 then 0 else 1)+(if b4 then 0 else 1)=n→RegW T gp C i→T[13]?=some bp→(b0=true→T[52]?=some tv)→(b1=true→T[53]?=some bp)→(b3=true→T[55]?=some pv)→(b4=true→T[56]?=some dv) →
      HG Try.prog j F E (G ((base 41).at ⟨T,[]⟩ (.inRegion iwOps7 (Region.linearise.go .any iwOps7 (n+3) t (lst b0 b1 false b3 b4 false) []) :: k)) cs) w:=by
  intro n
  induction n with
  | zero =>
    intro b0 b1 b3 b4 t T hn R h13 h0 h1 h3 h4
    refine HG.drawn (ready_pre b0 b1 b3 b4) (by cases b0 <;> cases b1 <;> cases b3 <;> cases b4 <;> simp) (fun x hx t'=>?_)
    cases b0 <;> cases b1 <;> cases b3 <;> cases b4 <;> simp at hn
    have hx5:x=2:=by simpa using hx
    subst hx5
    exact hcall 0 true true T t' rfl R h13 (h0 rfl) (h1 rfl) h3 h4
  | succ n ih =>
    intro b0 b1 b3 b4 t T hn R h13 h0 h1 h3 h4
    refine HG.drawn (ready_pre b0 b1 b3 b4) (by cases b0 <;> cases b1 <;> cases b3 <;> cases b4 <;> simp) (fun x hx t'=>?_)
    simp only [List.mem_append] at hx
    have hT:=R.sz
    rcases hx with hx | hx | hx | hx | hx
    · cases b0 with
      | true=>simp at hx
      | false =>
        have hx5:x=0:=by simpa using hx
        subst hx5
        obtain ⟨p1,p2,p3,p4⟩:=o7_0
        change HGn Try.prog j F E w 100 _
        refine HGn.ld ct (fun z=>by rw [W5] at z; cases z) p1 (wanted_none p4) (by k_ne) (ld_run (.inl rfl) p2 R.t5) ?_
        rw [p3]
        exact ih true b1 b3 b4 t' _ (by cases b1 <;> cases b3 <;> cases b4 <;> simp at hn ⊢ <;> omega) (R.put _ (by decide)) (put_ne (by decide) h13) (fun _=>put_self (T:=T) (by rw [hT]; decide)) (fun hb=>put_ne (by decide) (h1 hb)) (fun hb=>put_ne (by decide) (h3 hb)) (fun hb=>put_ne (by decide) (h4 hb))
    · cases b1 with
      | true=>simp at hx
      | false =>
        have hx5:x=1:=by simpa using hx
        subst hx5
        obtain ⟨p1,p2,p3,p4⟩:=o7_1
        have e1:(⟨T,[]⟩:Act).eval (.tmp 13)=bp:=by
          simp only [Act.eval]
          rw [Array.getD_eq_getD_getElem?,h13]
          rfl
        change HGn Try.prog j F E w 100 _
        refine Idl.value (v:=bp) (idl_hg Try.prog j F E w) p1 (wanted_none p4) (by k_ne) (fun w=>by unfold execOp; rw [p2]; simp only [e1]; rfl) (fun w=>by unfold execOp; rw [p2]; simp [go_sem]) ?_
        rw [p3]
        exact ih b0 true b3 b4 t' _ (by cases b0 <;> cases b3 <;> cases b4 <;> simp at hn ⊢ <;> omega) (R.put _ (by decide)) (put_ne (by decide) h13) (fun hb=>put_ne (by decide) (h0 hb)) (fun _=>put_self (T:=T) (by rw [hT]; decide)) (fun hb=>put_ne (by decide) (h3 hb)) (fun hb=>put_ne (by decide) (h4 hb))
    · cases b0 <;> cases b1 <;> simp at hx
      subst hx
      exact hcall (n+1) b3 b4 T t' (by cases b3 <;> cases b4 <;> simp at hn ⊢ <;> omega) R h13 (h0 rfl) (h1 rfl) h3 h4
    · cases b3 with
      | true=>simp at hx
      | false =>
        have hx5:x=3:=by simpa using hx
        subst hx5
        obtain ⟨p1,p2,p3,p4⟩:=o7_3
        change HGn Try.prog j F E w 100 _
        refine HGn.ld cw (fun z=>by rw [W6] at z; cases z) p1 (wanted_none p4) (by k_ne) (ld_run (.inr (.inl rfl)) p2 R.t6) ?_
        rw [p3]
        exact ih b0 b1 true b4 t' _ (by cases b0 <;> cases b1 <;> cases b4 <;> simp at hn ⊢ <;> omega) (R.put _ (by decide)) (put_ne (by decide) h13) (fun hb=>put_ne (by decide) (h0 hb)) (fun hb=>put_ne (by decide) (h1 hb)) (fun _=>put_self (T:=T) (by rw [hT]; decide)) (fun hb=>put_ne (by decide) (h4 hb))
    · cases b4 with
      | true=>simp at hx
      | false =>
        have hx5:x=4:=by simpa using hx
        subst hx5
        obtain ⟨p1,p2,p3,p4⟩:=o7_4
        change HGn Try.prog j F E w 100 _
        refine HGn.ld cd (fun z=>by rw [W7] at z; cases z) p1 (wanted_none p4) (by k_ne) (ld_run (.inr (.inr rfl)) p2 R.t7) ?_
        rw [p3]
        exact ih b0 b1 b3 true t' _ (by cases b0 <;> cases b1 <;> cases b3 <;> simp at hn ⊢ <;> omega) (R.put _ (by decide)) (put_ne (by decide) h13) (fun hb=>put_ne (by decide) (h0 hb)) (fun hb=>put_ne (by decide) (h1 hb)) (fun hb=>put_ne (by decide) (h3 hb)) (fun _=>put_self (T:=T) (by rw [hT]; decide))
end
theorem slotsw (f:Nat→Value) {l:List Value}:∀ j,j < 16→(List.toArray (f 0 :: f 1 :: f 2 :: f 3 :: f 4 :: f 5 :: f 6 :: f 7 :: f 8 :: f 9 :: f 10 :: f 11 :: f 12 :: f 13 :: f 14 :: f 15 :: l))[j]?=some (f j)
  | 0,_ | 1,_ | 2,_ | 3,_ | 4,_ | 5,_ | 6,_ | 7,_ | 8,_ | 9,_ | 10,_ | 11,_ | 12,_ | 13,_ | 14,_ | 15,_=>rfl
  | n+16,h=>absurd h (by omega)
theorem slotsv (f:Nat→Value) {l:List Value}:∀ j,j < 15→(List.toArray (f 0 :: f 1 :: f 2 :: f 3 :: f 4 :: f 5 :: f 6 :: f 7 :: f 8 :: f 9 :: f 10 :: f 11 :: f 12 :: f 13 :: f 14 :: l))[j]?=some (f j)
  | 0,_ | 1,_ | 2,_ | 3,_ | 4,_ | 5,_ | 6,_ | 7,_ | 8,_ | 9,_ | 10,_ | 11,_ | 12,_ | 13,_ | 14,_=>rfl
  | n+15,h=>absurd h (by omega)
theorem iwR5_wp {T:Array Value} {x:World} {gp:Value} {C:Nat→Nat} {i:Nat} {n:Int} {Q:Exit→Act→World→Prop} (R:RegW T gp C i) (h:x.heap[C 4]?=some (.cells #[.int .i64 n] 3)) (h0:0≤n) (h1:n < 3)
    (hQ:∀ T' x',T'.size=73→(∀ j,j < 16→T'[j]?=T[j]?)→x'=x.setCell ⟨C 4,0,none⟩ (.int .i64 (n+1))→Q .normal ⟨T',[]⟩ x'):iwR5.wp Try.prog Q ⟨T,[]⟩ x:=by
  obtain ⟨sz,t0,t1,t2,t3,t4,t5,t6,t7,t8,t9,t10,t12⟩:=R
  obtain ⟨f,rfl,fz⟩:=arrfv T sz
  have e0:=fz 0 _ t0
  have e1:=fz 1 _ t1
  have e2:=fz 2 _ t2
  have e3:=fz 3 _ t3
  have e4:=fz 4 _ t4
  have e5:=fz 5 _ t5
  have e6:=fz 6 _ t6
  have e7:=fz 7 _ t7
  have e8:=fz 8 _ t8
  have e9:=fz 9 _ t9
  have e10:=fz 10 _ t10
  have e12:=fz 12 _ t12
  have hj:∀ j,j < 16→(List.map f (List.range 73)).toArray[j]?=some (f j):=fun j hj=>arrf_get f (by omega)
  clear fz t0 t1 t2 t3 t4 t5 t6 t7 t8 t9 t10 t12 sz
  replace hj:=Lib.hid hj
  replace hQ:=Lib.hid hQ
  have c4:x.cell? ⟨C 4,0,none⟩=some (.int .i64 n):=obj_cell h rfl
  have z4:=obj_thaw h 0
  have hiw:IntKind.i64.wrap (n+1)=n+1:=by rw [IntKind.wrap_i64]; omega
  clear h0 h1
  replace h:=Lib.hid h
  simp only [List.range,List.range.loop,List.map_cons,List.map_nil,e0,e1,e2,e3,e4,e5,e6,e7,e8,e9,e10,e12]
  simp only [iwR5,iwIn,iwCd,iwT4,iwBl,iwL,iwB,Try.f41,Option.getD_some]
  go_wp2_with fail
  refine hQ.out _ _ (by simp) (fun j hj'=>?_) rfl
  rw [hj.out j hj',← e0,← e1,← e2,← e3,← e4,← e5,← e6,← e7,← e8,← e9,← e10,← e12]
  exact slotsw f j hj'
theorem iwR6_wp {T:Array Value} {x:World} {gp:Value} {C:Nat→Nat} {i:Nat}  {Q:Exit→Act→World→Prop} (R:RegW T gp C i)
    (hQ:∀ T' x',T'.size=73→(∀ j,j < 13→T'[j]?=T[j]?)→T'[13]?=some (.pointer (some ⟨x.heap.size,0,none⟩))→x'=x.alloc (.cells #[.slice none 0 0] 63)→Q .normal ⟨T',[]⟩ x'):iwR6.wp Try.prog Q ⟨T,[]⟩ x:=by
  obtain ⟨sz,t0,t1,t2,t3,t4,t5,t6,t7,t8,t9,t10,t12⟩:=R
  obtain ⟨f,rfl,fz⟩:=arrfv T sz
  have e0:=fz 0 _ t0
  have e1:=fz 1 _ t1
  have e2:=fz 2 _ t2
  have e3:=fz 3 _ t3
  have e4:=fz 4 _ t4
  have e5:=fz 5 _ t5
  have e6:=fz 6 _ t6
  have e7:=fz 7 _ t7
  have e8:=fz 8 _ t8
  have e9:=fz 9 _ t9
  have e10:=fz 10 _ t10
  have e12:=fz 12 _ t12
  have hj:∀ j,j < 16→(List.map f (List.range 73)).toArray[j]?=some (f j):=fun j hj=>arrf_get f (by omega)
  clear fz t0 t1 t2 t3 t4 t5 t6 t7 t8 t9 t10 t12 sz
  replace hj:=Lib.hid hj
  replace hQ:=Lib.hid hQ
  simp only [List.range,List.range.loop,List.map_cons,List.map_nil,e0,e1,e2,e3,e4,e5,e6,e7,e8,e9,e10,e12]
  simp only [iwR6,iwIn,iwCd,iwT4,iwBl,iwL,iwB,Try.f41,Option.getD_some]
  go_wp2_with fail
  refine hQ.out _ _ (by simp) (fun j hj'=>?_) (by simp) rfl
  rw [hj.out j (by omega),← e0,← e1,← e2,← e3,← e4,← e5,← e6,← e7,← e8,← e9,← e10,← e12]
  exact slots13 f j hj'
theorem iwR8_wp {T:Array Value} {x:World} {gp:Value} {C:Nat→Nat} {i:Nat} {cb:Nat} {mv ov g:Value} {Q:Exit→Act→World→Prop} (R:RegW T gp C i) (s13:T[13]?=some (.pointer (some ⟨cb,0,none⟩))) (s14:T[14]?=some g) (h1:x.cell? ⟨cb,0,none⟩=some mv) (h2:x.cell? ⟨C 8,0,none⟩=some ov) (hc:∀ y:World,y=x∨y=x.drew→Calls Try.prog 40 #[mv,ov] y fun e y'=>e=.returned (.bool true)∧∃ k,y'=y.drewN k)
    (hQ:∀ T' x',T'.size=73→(∀ j,j < 15→T'[j]?=T[j]?)→T'[15]?=some (.bool true)→x'.heap=x.heap→Q .normal ⟨T',[]⟩ x'):iwR8.wp Try.prog Q ⟨T,[]⟩ x:=by
  obtain ⟨sz,t0,t1,t2,t3,t4,t5,t6,t7,t8,t9,t10,t12⟩:=R
  obtain ⟨f,rfl,fz⟩:=arrfv T sz
  have e0:=fz 0 _ t0
  have e1:=fz 1 _ t1
  have e2:=fz 2 _ t2
  have e3:=fz 3 _ t3
  have e4:=fz 4 _ t4
  have e5:=fz 5 _ t5
  have e6:=fz 6 _ t6
  have e7:=fz 7 _ t7
  have e8:=fz 8 _ t8
  have e9:=fz 9 _ t9
  have e10:=fz 10 _ t10
  have e12:=fz 12 _ t12
  have e13:=fz 13 _ s13
  have hj:∀ j,j < 16→(List.map f (List.range 73)).toArray[j]?=some (f j):=fun j hj=>arrf_get f (by omega)
  clear fz t0 t1 t2 t3 t4 t5 t6 t7 t8 t9 t10 t12 sz s13
  replace hj:=Lib.hid hj
  replace hQ:=Lib.hid hQ
  replace hc:=Lib.hid hc
  simp only [List.range,List.range.loop,List.map_cons,List.map_nil,e0,e1,e2,e3,e4,e5,e6,e7,e8,e9,e10,e12,e13]
  simp only [iwR8,iwIn,iwCd,iwT4,iwBl,iwL,iwB,Try.f41,Option.getD_some]
  go_region_held3 (fun W=>W.cell? ⟨cb,0,none⟩=some mv∧W.cell? ⟨C 8,0,none⟩=some ov) (first | assumption | go_keep) ((with_reducible refine Calls.mono (hc.out _ (by first | exact .inl rfl | exact .inr rfl)) ?_; rintro _ _ ⟨rfl,n,rfl⟩))
  refine hQ.out _ _ (by simp) (fun j hj'=>?_) (by simp) (by first | rfl | simp)
  rw [hj.out j (by omega),← e0,← e1,← e2,← e3,← e4,← e5,← e6,← e7,← e8,← e9,← e10,← e12,← e13]
  exact slotsv f j hj'
theorem iwR9_wp {T:Array Value} {x:World} {gp:Value} {C:Nat→Nat} {i:Nat} {kk:Int} {Q:Exit→Act→World→Prop} (R:RegW T gp C i) (s14:T[14]?=some (.int .i64 kk)) (s15:T[15]?=some (.bool true)) (h:x.heap[C 9]?=some (.cells #[.bool true] 4)) (h10:x.cell? ⟨C 10,0,none⟩=some (.int .i64 kk))
    (hQ:∀ T' x',T'.size=73→(∀ j,j < 13→T'[j]?=T[j]?)→x'=x.setCell ⟨C 9,0,none⟩ (.bool true)→Q .normal ⟨T',[]⟩ x'):iwR9.wp Try.prog Q ⟨T,[]⟩ x:=by
  obtain ⟨sz,t0,t1,t2,t3,t4,t5,t6,t7,t8,t9,t10,t12⟩:=R
  obtain ⟨f,rfl,fz⟩:=arrfv T sz
  have e0:=fz 0 _ t0
  have e1:=fz 1 _ t1
  have e2:=fz 2 _ t2
  have e3:=fz 3 _ t3
  have e4:=fz 4 _ t4
  have e5:=fz 5 _ t5
  have e6:=fz 6 _ t6
  have e7:=fz 7 _ t7
  have e8:=fz 8 _ t8
  have e9:=fz 9 _ t9
  have e10:=fz 10 _ t10
  have e12:=fz 12 _ t12
  have e14:=fz 14 _ s14
  have e15:=fz 15 _ s15
  have hj:∀ j,j < 16→(List.map f (List.range 73)).toArray[j]?=some (f j):=fun j hj=>arrf_get f (by omega)
  clear fz t0 t1 t2 t3 t4 t5 t6 t7 t8 t9 t10 t12 sz s14 s15
  replace hj:=Lib.hid hj
  replace hQ:=Lib.hid hQ
  have c9:x.cell? ⟨C 9,0,none⟩=some (.bool true):=obj_cell h rfl
  have z9:=obj_thaw h 0
  replace h:=Lib.hid h
  simp only [List.range,List.range.loop,List.map_cons,List.map_nil,e0,e1,e2,e3,e4,e5,e6,e7,e8,e9,e10,e12,e14,e15]
  simp only [iwR9,iwIn,iwCd,iwT4,iwBl,iwL,iwB,Try.f41,Option.getD_some]
  go_wp2_with fail
  refine hQ.out _ _ (by simp) (fun j hj'=>?_) (by first | rfl | simp)
  rw [hj.out j (by omega),← e0,← e1,← e2,← e3,← e4,← e5,← e6,← e7,← e8,← e9,← e10,← e12,← e14,← e15]
  exact slots13 f j hj'
theorem o7_2:iwOps7[2]?=some (o7 2):=by kernel_rfl
theorem o7_5:iwOps7[5]?=some (o7 5):=by kernel_rfl
theorem o7_6:iwOps7[6]?=some (o7 6)∧(o7 6).op=.assign (.tmp 57)∧(o7 6).dst=some 14∧(o7 6).guard=none:=⟨by kernel_rfl,by kernel_rfl,by kernel_rfl,by kernel_rfl⟩
theorem getD_at {T:Array Value} {s:Nat} {v:Value} (h:T[s]?=some v):T.getD s undef=v:=by rw [Array.getD_eq_getD_getElem?,h]; rfl
section
variable {j:Nat} {F:Machine→Trace→Prop} {E:Env} {w:World} {gp tv pv v bp ov:Value} {C:Nat→Nat} {i:Nat} {k:List Item} {cs:List Frame}
theorem iw_r7 {T:Array Value} {ts:List (List Int)} {picks:List Int} {drain:Bool} {z:RA × Int} {ta pa:Option Addr} {ba bo cap cb pb po pcap:Nat} {LA:Nat→Option Addr} {LC:Nat→Nat} (R:RegW T gp C i) (h13:T[13]?=some (.pointer (some ⟨cb,0,none⟩)))
    (c5:w.cell? ⟨C 5,0,none⟩=some tv) (H5:E.H (C 5)=none) (c6:w.cell? ⟨C 6,0,none⟩=some pv) (H6:E.H (C 6)=none) (c7:w.cell? ⟨C 7,0,none⟩=some (.bool drain)) (H7:E.H (C 7)=none)
    (htv:tv=.slice ta ts.length cap) (hT:IntssL E w ta ba bo LA LC ts) (hlo:∀ i l,ts[i]?=some l→ba≠cb∧(l≠[]→∀ a,LA i=some a→a.block≠cb)) (hbb:w.heap[cb]?=some (.cells #[.slice none 0 0] 63)) (hbbH:E.H cb=none)
    (hpv:pv=.slice pa picks.length pcap) (hpa:picks≠[]→pa=some ⟨pb,po,none⟩) (hpb:picks≠[]→pb≠cb) (hP:∀ i p,picks[i]?=some p→w.cell? ⟨pb,po+i,none⟩=some (.int .i64 p)∧E.H pb=none)
    (hn:ts.length≤1000000000000) (hl:∀ l ∈ ts,l.length≤100000000000) (hnp:picks.length≤1000000000000000) (hp64:∀ p ∈ picks,-9223372036854775808≤p∧p≤9223372036854775807) (hz:(runG ts).Run picks drain (ra0 ts ts.length) z) (hrole:E.role j=.gone) (hmode:∀ b,E.mode b=0)
    (hc:∀ E' w' T' mv,Kept j none E w E' w'→StandsBut (fun b=>b=cb) E w E' w'→RegW T' gp C i→T'[13]?=some (.pointer (some ⟨cb,0,none⟩))→T'[14]?=some (.int .i64 (rK ts z))→w'.heap[cb]?=some (.cells #[mv] 63)→E'.H cb=none→TldV E' w' mv (rTl ts z)→HG Try.prog j F E' (G ((base 41).at ⟨T',[]⟩ k) cs) w') :
    HG Try.prog j F E (G ((base 41).at ⟨T,[]⟩ (.code iwR7 :: k)) cs) w:=by
  refine HG.withH fun hWH _=>?_
  have hWn:∀ b,E.H b=none→E.W b=false:=fun b hb=>by
    cases e:E.W b with
    | false=>rfl
    | true=>have:=hWH b e; rw [hb] at this; cases this
  rw [show iwR7=.region 7 iwOps7 true from by kernel_rfl]
  refine HG.draw (by kernel_rfl) (fun t w1 hA=>?_)
  have hS1:Stands E w E w1:=fun b o h1 h2=>⟨h1,by rw [hA.heap b (hWn b h1)]; exact h2⟩
  have hK1:Kept j none E w E w1:=Kept.of_at ⟨.refl j E,hA⟩
  obtain ⟨d5,_⟩:=hS1.cell c5 H5
  obtain ⟨d6,_⟩:=hS1.cell c6 H6
  obtain ⟨d7,_⟩:=hS1.cell c7 H7
  have hbl:=(Array.getElem?_eq_some_iff.1 hbb).1
  rw [o7_size,show Array.replicate 7 false=lst false false false false false false from rfl]
  refine r7_pre (n:=4) d5 (hWn _ H5) d6 (hWn _ H6) d7 (hWn _ H7) (fun m b3 b4 T1 t1 hm R1 g13 g52 g53 g55 g56=>?_) false false false false t T rfl R h13 (fun h=>by cases h) (fun h=>by cases h) (fun h=>by cases h) (fun h=>by cases h)
  have q52:=getD_at g52
  have q53:=getD_at g53
  have hsz:=R1.sz
  change HGn Try.prog j F E w1 300 _
  refine Idl.callE (fn:=Try.f39) (vs:=#[tv,.pointer (some ⟨cb,0,none⟩)]) (idl_hg Try.prog j F E w1) (o:=o7 2) o7_2 rfl (by k_ne) rfl Try.func39 rfl rfl (by simp [Act.eval,q52,q53]) ?_
  refine bodies_in (ba:=ba) (bo:=bo) (LA:=LA) (LN:=fun i=>(ts.getD i []).length) (LC:=LC) htv hT.ta hn (fun i hi=>(hT.stands hS1).row i _ (by simp [List.getD,List.getElem?_eq_getElem hi])) (fun E2 w2 v TB S2 M2=>?_)
  have hS2:Stands E w E2 w2:=hS1.trans fun b o h1 h2=>S2.st b o h1 h2
  have hK2:Kept j none E w E2 w2:=hK1.trans S2.kept
  obtain ⟨f6,f6H⟩:=hS2.cell c6 H6
  obtain ⟨f7,f7H⟩:=hS2.cell c7 H7
  rw [show (iwOps7[2]?).bind (·.dst)=some 54 by kernel_rfl]
  refine HG.withH fun hWH2 _=>?_
  have hWn2:∀ b,E2.H b=none→E2.W b=false:=fun b hb=>by
    cases e:E2.W b with
    | false=>rfl
    | true=>have:=hWH2 b e; rw [hb] at this; cases this
  refine r7_post (v:=v) (bp:=.pointer (some ⟨cb,0,none⟩)) f6 (hWn2 _ f6H) f7 (hWn2 _ f7H) (fun T2 t2 R2 k13 k54 k55 k56=>?_) m b3 b4 t1 _ hm (R1.put _ (by decide)) (put_ne (by decide) g13) (put_self (T:=T1) (by rw [hsz]; decide)) (fun hb=>put_ne (by decide) (g55 hb)) (fun hb=>put_ne (by decide) (g56 hb))
  have q54:=getD_at k54
  have q55:=getD_at k55
  have q56:=getD_at k56
  change HGn Try.prog j F E2 w2 300 _
  refine Idl.callE (fn:=Try.f29) (vs:=#[v,pv,.bool drain]) (idl_hg Try.prog j F E2 w2) (o:=o7 5) o7_5 rfl (by k_ne) rfl Try.func29 rfl rfl (by simp [Act.eval,q54,q55,q56]) ?_
  subst hpv
  obtain ⟨hb2H,hb2⟩:=hS2 cb _ hbbH hbb
  have hw1:w1.heap.size=w.heap.size:=hA.size
  refine run_bodies htv (hT.stands hS2) M2 (by omega) hlo hb2 hb2H hpa hpb (fun i p hi=>hS2.cell (hP i p hi).1 (hP i p hi).2) hl hnp hp64 hz (hK2.le.roleH.trans hrole) (fun b=>hK2.le.mode b (hmode b)) (fun E3 w3 mv hK3 hS3 r1 r2 r3=>?_)
  rw [show (iwOps7[5]?).bind (·.dst)=some 57 by kernel_rfl]
  have hsz2:=R2.sz
  refine HG.drawn ready_end (by simp) (fun x hx t3=>?_)
  have hx6:x=6:=by simpa using hx
  subst hx6
  obtain ⟨p1,p2,p3,p4⟩:=o7_6
  have e57:((⟨T2,[]⟩:Act).put (some 57) (.int .i64 (rK ts z))).eval (.tmp 57)=.int .i64 (rK ts z):=getD_at (put_self (T:=T2) (by rw [hsz2]; decide))
  change HGn Try.prog j F E3 w3 100 _
  refine Idl.value (v:=.int .i64 (rK ts z)) (idl_hg Try.prog j F E3 w3) p1 (wanted_none p4) (by k_ne) (fun w=>by unfold execOp; rw [p2]; show ((pure (Next.value (((⟨T2,[]⟩:Act).put (some 57) (.int .i64 (rK ts z))).eval (.tmp 57))):Sem Next)).run Try.prog w=_; rw [e57]; rfl) (fun w=>by unfold execOp; rw [p2]; simp [go_sem]) ?_
  rw [p3]
  refine Idl.step (idl_hg Try.prog j F E3 w3) _ _ _ rfl (fun _=>stepG_region_end) ?_
  refine hc E3 w3 _ mv (hK2.trans hK3) (fun b o h0 h1 h2=>?_) ((R2.put _ (by decide)).put _ (by decide)) (put_ne (by decide) (put_ne (by decide) k13)) (put_self (T:=T2.setIfInBounds 57 (.int .i64 (rK ts z))) (by rw [Array.size_setIfInBounds,hsz2]; decide)) r1 r2 r3
  obtain ⟨a1,a2⟩:=hS2 b o h1 h2
  exact hS3 b o h0 a1 a2
theorem HG.sstep (S:Nat→Prop) (hS:∀ b,S b→E.H b=none) {fr:Frame} {Fs:FuncId→Bool} (hC:Closed Try.prog Fs) {c:Code} (hq:quietCode Try.prog Fs c=true) {T:Array Value} (hk:fr.kind=.normal) {R:Array Value→World→World→Prop}
    (hwp:∀ x:World,x.heap.size=w.heap.size→(∀ b,E.H b=none→x.heap[b]?=w.heap[b]?)→c.wp Try.prog (fun e a' x'=>e=.normal∧a'.defers=[]∧(∀ b,b < x.heap.size→¬ S b→x'.heap[b]?=x.heap[b]?)∧R a'.tmps x x') ⟨T,[]⟩ x)
    (hc:∀ (E1:Env) (w1:World) (T':Array Value) (x x':World),Kept j none E w E1 w1→E1.H=E.H→x.heap.size=w.heap.size→(∀ b,E.H b=none→x.heap[b]?=w.heap[b]?)→(∀ b,E.H b=none→w1.heap[b]?=x'.heap[b]?)→StandsBut S E w E1 w1→R T' x x'→HG Try.prog j F E1 (G (fr.at ⟨T',[]⟩ k) cs) w1) :
    HG Try.prog j F E (G (fr.at ⟨T,[]⟩ (.code c :: k)) cs) w:=by
  refine HG.quietS (h:=j) S hS hC (Q:=fun a' x x'=>R a'.tmps x x') hq hk rfl hwp (fun E1 w1 a1 x x' hE hd hxs hx hs' hx' hK hB hSo hR=>?_)
  obtain ⟨T',df⟩:=a1
  have hd':df=[]:=hd
  subst hd'
  refine hc E1 w1 T' x x' hK hE.H' hxs hx hx' (fun b o h0 h1 h2=>⟨by rw [hE.H']; exact h1,?_⟩) hR
  have hl:=(Array.getElem?_eq_some_iff.1 h2).1
  rw [hx' b h1,hSo b (by omega) h0,hx b h1]
  exact h2
theorem StandsBut.cell {S:Nat→Prop} {E E':Env} {w w':World} (h:StandsBut S E w E' w') {a:Addr} {v:Value} (hc:w.cell? a=some v) (hH:E.H a.block=none) (hS:¬ S a.block):w'.cell? a=some v∧E'.H a.block=none:=by
  have hl:=World.block_lt_of_cell? w _ hc
  obtain ⟨s1,s2⟩:=h a.block _ hS hH (Array.getElem?_eq_getElem hl)
  exact ⟨(World.cell?_of_block (by rw [s2,Array.getElem?_eq_getElem hl])).trans hc,s1⟩
theorem StandsBut.trans {S:Nat→Prop} {E E' E2:Env} {w w' w2:World} (a:StandsBut S E w E' w') (b:StandsBut S E' w' E2 w2):StandsBut S E w E2 w2:=fun c o h0 h1 h2=>by
  obtain ⟨s1,s2⟩:=a c o h0 h1 h2
  exact b c o h0 s1 s2
theorem StandsBut.mono {S S':Nat→Prop} {E E':Env} {w w':World} (a:StandsBut S E w E' w') (h:∀ b,S b→S' b):StandsBut S' E w E' w':=fun c o h0 h1 h2=>a c o (fun z=>h0 (h c z)) h1 h2
theorem StandsBut.of {S:Nat→Prop} {E E':Env} {w w':World} (a:Stands E w E' w'):StandsBut S E w E' w':=fun c o _ h1 h2=>a c o h1 h2
end
theorem Stands.but {S:Nat→Prop} {E0 E E':Env} {w0 w w':World} (h:Stands E0 w0 E w) (hS:StandsBut S E w E' w') (hd:∀ b,b < w0.heap.size→¬ S b):Stands E0 w0 E' w':=fun b o h1 h2=>by
  obtain ⟨a1,a2⟩:=h b o h1 h2
  exact hS b o (hd b (Array.getElem?_eq_some_iff.1 h2).1) a1 a2
theorem MarkV.lt {E:Env} {w:World} {v:Value} {ms:List Mk} (h:MarkV E w v ms):∀ g,v.ownBlock=some g→g < w.heap.size:=fun g hg=>(h.row.lt g hg).2
section
variable {F:Machine→Trace→Prop} {E:Env} {w:World}
end
end Go.Proofs.Ytimlbbleblijnaa.Co
