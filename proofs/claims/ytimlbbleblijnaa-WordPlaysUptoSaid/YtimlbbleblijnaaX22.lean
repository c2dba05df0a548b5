/- Lemmas for the laws of this seat, laid together of PJf, PJg, PJh, PIb, PIc, PId. -/
import Derived.Test.YtimlbbleblijnaaX17
import Derived.Test.YtimlbbleblijnaaX19
import Derived.Test.YtimlbbleblijnaaX20
import Derived.Test.YtimlbbleblijnaaX21

open Go.ConcR.Gen (base_kind baseD_kind)
set_option linter.unusedVariables false
set_option linter.unusedSimpArgs false
set_option maxRecDepth 100000
set_option maxHeartbeats 4000000
namespace Go.Proofs.Ytimlbbleblijnaa.Co
open Go Go.Conc Go.RowKit
open Go.ConcN (sumTo upd sumTo_upd upd_ne upd_same sumTo_congr le_sumTo)
section
variable {j:Nat} {F:Machine→Trace→Prop} {E:Env} {w:World} {b₀:Frame} {a₀:Act} {ops₀:Array Oper} {i₀:Nat} {rest₀:List Nat} {k₀:List Item} {cl:List Frame}
theorem c124_go {wv gv nv : Value} (hmid : ∀ (a₁ : Act) (ops : Array Oper) (i' : Nat) (rest' : List Nat) (k' : List Item), a₁.defers = [] → (∀ (F' : Machine → Trace → Prop) (E2 : Env) (w2 : World) (v : Value), HG Try.prog j F' E2 (G (b₀.at (a₀.put ((ops₀[i₀]?).bind (·.dst)) v) (.inRegion ops₀ rest₀ :: k₀)) cl) w2 → HG Try.prog j F' E2 (G ((base 124).at (a₁.put ((ops[i']?).bind (·.dst)) v) (.inRegion ops rest' :: k')) (b₀.at a₀ (.inRegion ops₀ (i₀ :: rest₀) :: k₀) :: cl)) w2) →
   HGn Try.prog j F E w 200 (entry 70 Try.f70 #[wv,gv] ((base 124).at a₁ (.inRegion ops (i' :: rest') :: k') :: b₀.at a₀ (.inRegion ops₀ (i₀ :: rest₀) :: k₀) :: cl))) :
  HGn Try.prog j F E w 300 (entry 124 Try.f124 #[wv,gv,nv] (b₀.at a₀ (.inRegion ops₀ (i₀ :: rest₀) :: k₀) :: cl)):=by
 unfold entry
 replace hmid:=Lib.hid hmid
 simp only [Try.f124,Option.getD_some]
 walk_nrm
 refine Idl.q (idl_hg Try.prog j F E w) (Idl.rg (idl_hg Try.prog j F E w) [0] rfl ?_)
 refine Idl.v (idl_hg Try.prog j F E w) ?_
 walk_nrm
 refine Idl.re (idl_hg Try.prog j F E w) (Idl.q (idl_hg Try.prog j F E w) (Idl.rg (idl_hg Try.prog j F E w) [0,1,2,3] rfl ?_))
 iterate 2 (refine Idl.v (idl_hg Try.prog j F E w) ?_; walk_nrm)
 refine Idl.callE (fn:=Try.f70) (vs:=#[wv,gv]) (idl_hg Try.prog j F E w) rfl rfl (by k_ne) rfl Try.func70 rfl rfl (by simp [Act.eval]) ?_
 refine hmid.out _ _ _ _ _ rfl (fun F' E2 w2 v hh=>?_)
 replace hh:=Lib.hid hh
 change HGn Try.prog j F' E2 w2 100 _
 walk_nrm
 refine Idl.v (idl_hg Try.prog j F' E2 w2) ?_
 walk_nrm
 refine Idl.re (idl_hg Try.prog j F' E2 w2) (Idl.rt (idl_hg Try.prog j F' E2 w2) ?_)
 refine Idl.leave1 (n:=1) (idl_hg Try.prog j F' E2 w2) rfl rfl Try.func124 rfl ?_
 exact hh.out
theorem c125_go {wv gv nv : Value} (hmid : ∀ (a₁ : Act) (ops : Array Oper) (i' : Nat) (rest' : List Nat) (k' : List Item), a₁.defers = [] → (∀ (F' : Machine → Trace → Prop) (E2 : Env) (w2 : World) (v : Value), HG Try.prog j F' E2 (G (b₀.at (a₀.put ((ops₀[i₀]?).bind (·.dst)) (.int .i64 0)) (.inRegion ops₀ rest₀ :: k₀)) cl) w2 → HG Try.prog j F' E2 (G ((base 125).at (a₁.put ((ops[i']?).bind (·.dst)) v) (.inRegion ops rest' :: k')) (b₀.at a₀ (.inRegion ops₀ (i₀ :: rest₀) :: k₀) :: cl)) w2) →
   HGn Try.prog j F E w 200 (entry 71 Try.f71 #[wv,gv,nv] ((base 125).at a₁ (.inRegion ops (i' :: rest') :: k') :: b₀.at a₀ (.inRegion ops₀ (i₀ :: rest₀) :: k₀) :: cl))) :
  HGn Try.prog j F E w 300 (entry 125 Try.f125 #[wv,gv,nv] (b₀.at a₀ (.inRegion ops₀ (i₀ :: rest₀) :: k₀) :: cl)):=by
 unfold entry
 replace hmid:=Lib.hid hmid
 simp only [Try.f125,Option.getD_some]
 walk_nrm
 refine Idl.q (idl_hg Try.prog j F E w) (Idl.rg (idl_hg Try.prog j F E w) [0] rfl ?_)
 refine Idl.v (idl_hg Try.prog j F E w) ?_
 walk_nrm
 refine Idl.re (idl_hg Try.prog j F E w) (Idl.q (idl_hg Try.prog j F E w) (Idl.rg (idl_hg Try.prog j F E w) [0,1,2,3] rfl ?_))
 iterate 3 (refine Idl.v (idl_hg Try.prog j F E w) ?_; walk_nrm)
 refine Idl.callE (fn:=Try.f71) (vs:=#[wv,gv,nv]) (idl_hg Try.prog j F E w) rfl rfl (by k_ne) rfl Try.func71 rfl rfl (by simp [Act.eval]) ?_
 refine hmid.out _ _ _ _ _ rfl (fun F' E2 w2 v hh=>?_)
 replace hh:=Lib.hid hh
 change HGn Try.prog j F' E2 w2 100 _
 walk_nrm
 refine Idl.re (idl_hg Try.prog j F' E2 w2) (Idl.q (idl_hg Try.prog j F' E2 w2) (Idl.rg (idl_hg Try.prog j F' E2 w2) [0] rfl ?_))
 refine Idl.v (idl_hg Try.prog j F' E2 w2) ?_
 walk_nrm
 refine Idl.re (idl_hg Try.prog j F' E2 w2) (Idl.rt (idl_hg Try.prog j F' E2 w2) ?_)
 refine Idl.leave1 (n:=1) (idl_hg Try.prog j F' E2 w2) rfl rfl Try.func125 rfl ?_
 exact hh.out
end
noncomputable def vOps6:Array Oper:=match vR6 with | .region _ o _=>o | _=>#[]
theorem vR6_eq:vR6=.region 6 vOps6 true:=by kernel_rfl
noncomputable def o6c:Oper:=(vOps6[14]?).getD default
noncomputable def o6a:Oper:=(vOps6[15]?).getD default
theorem o6c_at:vOps6[14]?=some o6c:=by kernel_rfl
theorem o6a_at:vOps6[15]?=some o6a:=by kernel_rfl
theorem o6_last:lastT2 .any vOps6 14=true:=by kernel_rfl
section
variable {j gb wb n db ab nb bb mb i c fnn:Nat} {at' nn:Int} {F:Machine→Trace→Prop} {E:Env} {w:World} {p:PT} {Tr:Array Value} {cs:List Frame} {fn:Func}
theorem word_r6 (R:RegsV Tr gb p mb db ab nb i c) (t10:Tr[10]?=some (.pointer (some ⟨bb,0,none⟩))) (t11:Tr[11]?=some (fvV fnn))
  (ca:w.cell? ⟨ab,0,none⟩=some (.slice (some ⟨wb,0,none⟩) n n)) (Wa:E.W ab=false) (cn:w.cell? ⟨nb,0,none⟩=some (.int .i64 (n:Int))) (Wn:E.W nb=false)
  (c1:w.cell? ⟨bb,1,none⟩=some (.int .i64 at')) (c2:w.cell? ⟨bb,2,none⟩=some (.int .i64 nn)) (Wb:E.W bb=false) (hn1:1≤n) (hn2:n≤1048576)
  (hf:Try.prog.funcs[fnn]?=some fn) (hname:(fn.name == "runtime.NumGoroutine")=false) (hb:fn.body.isSome=true)
  (hmid:∀ (w1:World) (a₁:Act) (ops:Array Oper) (i':Nat) (rest':List Nat) (k':List Item),AtE j E w E w1→a₁.defers=[] →
   (∀ (F':Machine→Trace→Prop) (E2:Env) (w2:World) (r:Value),(∀ T',T'.size=56→(∀ q,q < 17→q≠13→T'[q]?=Tr[q]?)→T'[13]?=some r→HG Try.prog j F' E2 (G ((base 81).at ⟨T',[]⟩ hdV7) cs) w2)→HG Try.prog j F' E2 (G ((base 81).at (a₁.put ((ops[i']?).bind (·.dst)) r) (.inRegion ops rest' :: k')) cs) w2) →
   HGn Try.prog j F E w1 300 (entry fnn fn #[.pointer (some ⟨wb,pickIx at' n,none⟩),.pointer (some ⟨gb,0,none⟩),.int .i64 nn] ((base 81).at a₁ (.inRegion ops (i' :: rest') :: k') :: cs))) :
  HG Try.prog j F E (G ((base 81).at ⟨Tr,[]⟩ hdV6) cs) w:=by
 obtain ⟨f,hfF,fz⟩:=arrfv Tr R.sz
 have e0:=fz 0 _ R.t0
 have e3:=fz 3 _ R.t3
 have e4:=fz 4 _ R.t4
 have e10:=fz 10 _ t10
 have e11:=fz 11 _ t11
 have hrk:∀ q,q < 17→Tr[q]?=some (f q):=fun q hq=>by rw [hfF,arrf_get f (by omega)]
 have hmid':∀ (w1:World) (a₁:Act) (ops:Array Oper) (i':Nat) (rest':List Nat) (k':List Item),AtE j E w E w1→a₁.defers=[] →
   (∀ (F':Machine→Trace→Prop) (E2:Env) (w2:World) (r:Value),(∀ T',T'.size=56→(∀ q,q < 17→q≠13→T'[q]?=some (f q))→T'[13]?=some r→HG Try.prog j F' E2 (G ((base 81).at ⟨T',[]⟩ hdV7) cs) w2)→HG Try.prog j F' E2 (G ((base 81).at (a₁.put ((ops[i']?).bind (·.dst)) r) (.inRegion ops rest' :: k')) cs) w2) →
   HGn Try.prog j F E w1 300 (entry fnn fn #[.pointer (some ⟨wb,pickIx at' n,none⟩),.pointer (some ⟨gb,0,none⟩),.int .i64 nn] ((base 81).at a₁ (.inRegion ops (i' :: rest') :: k') :: cs)):=fun w1 a₁ ops i' rest' k' hA hd hp =>
  hmid w1 a₁ ops i' rest' k' hA hd (fun F' E2 w2 r hh=>hp F' E2 w2 r (fun T' a1 a2 a3=>hh T' a1 (fun q h1 h2=>by rw [a2 q h1 h2,hrk q h1]) a3))
 clear hmid R t10 t11 hrk fz
 subst hfF
 have hn0:n≠0:=by omega
 have b1:=Int.lt_tmod_of_pos at' (show (0:Int) < (n:Int) by omega)
 have b2:=Int.tmod_lt_of_pos at' (show (0:Int) < (n:Int) by omega)
 have hix:=pickIx_lt at' (show 0 < n by omega)
 have hi0:0≤at'.tmod (n:Int)+(n:Int):=by omega
 have hi1:=Int.tmod_nonneg (n:Int) hi0
 have hw1:IntKind.i64.wrap (at'.tmod (n:Int)+(n:Int))=at'.tmod (n:Int)+(n:Int):=by rw [IntKind.wrap_i64]; omega
 have hw2:(at'.tmod (n:Int)+(n:Int)).tmod (n:Int)=((pickIx at' n:Nat):Int):=by unfold pickIx; omega
 clear hi0 hi1 b1 b2
 generalize pickIx at' n=ix at hix hw2 hmid'
 have gi:(ix:Int) < (n:Int):=by omega
 have gi0:(0:Int)≤(ix:Int):=by omega
 obtain ⟨fv,hfv⟩:∃ fv,fv=fvV fnn:=⟨_,rfl⟩
 rw [← hfv] at e11
 replace hfv:=Lib.hid hfv
 replace hmid':=Lib.hid hmid'
 unfold hdV6
 rw [vR6_eq]
 simp only [List.range,List.range.loop,List.map_cons,List.map_nil,e0,e3,e4,e10,e11]
 have T:Terms (Aw E.W) E.D:=terms_aw _ _ _ _
 have hSR:∀ x y:World,(x.cell? ⟨ab,0,none⟩=some (.slice (some ⟨wb,0,none⟩) n n)∧x.cell? ⟨nb,0,none⟩=some (.int .i64 (n:Int))∧x.cell? ⟨bb,1,none⟩=some (.int .i64 at')∧x.cell? ⟨bb,2,none⟩=some (.int .i64 nn))→Aw E.W x y→(y.cell? ⟨ab,0,none⟩=some (.slice (some ⟨wb,0,none⟩) n n)∧y.cell? ⟨nb,0,none⟩=some (.int .i64 (n:Int))∧y.cell? ⟨bb,1,none⟩=some (.int .i64 at')∧y.cell? ⟨bb,2,none⟩=some (.int .i64 nn)):=fun x y ⟨s1,s2,s3,s4⟩ hA=>⟨(World.cell?_of_block (hA.heap _ Wa)).trans s1,(World.cell?_of_block (hA.heap _ Wn)).trans s2,(World.cell?_of_block (hA.heap _ Wb)).trans s3,(World.cell?_of_block (hA.heap _ Wb)).trans s4⟩
 obtain ⟨aF,haF⟩:∃ aF:Act,aF=⟨#[.pointer (some ⟨gb,0,none⟩),f 1,f 2,.pointer (some ⟨ab,0,none⟩),.pointer (some ⟨nb,0,none⟩),f 5,f 6,f 7,f 8,f 9,.pointer (some ⟨bb,0,none⟩),fv,f 12,f 13,f 14,f 15,f 16,f 17,f 18,f 19,f 20,f 21,f 22,f 23,f 24,f 25,f 26,f 27,f 28,fv,.slice (some ⟨wb,0,none⟩) n n,.pointer (some ⟨bb,1,none⟩),.int .i64 at',.int .i64 (n:Int),.int .i64 (at'.tmod n),.int .i64 (n:Int),.int .i64 (at'.tmod n+n),.int .i64 (n:Int),.int .i64 (ix:Int),.pointer (some ⟨wb,ix,none⟩),.pointer (some ⟨gb,0,none⟩),.pointer (some ⟨bb,2,none⟩),.int .i64 nn,f 43,f 44,f 45,f 46,f 47,f 48,f 49,f 50,f 51,f 52,f 53,f 54,f 55],[]⟩:=⟨_,rfl⟩
 refine HG.looksTo2 (S:=fun x=>x.cell? ⟨ab,0,none⟩=some (.slice (some ⟨wb,0,none⟩) n n)∧x.cell? ⟨nb,0,none⟩=some (.int .i64 (n:Int))∧x.cell? ⟨bb,1,none⟩=some (.int .i64 at')∧x.cell? ⟨bb,2,none⟩=some (.int .i64 nn)) (aF:=aF) (n:=14) (o:=o6c) (p:=o6a) (by kernel_rfl) (by rfl) o6c_at o6a_at o6_last (fun w₁ hA=>?_) (fun w' hA=>?_)
 ·have hS1:w₁.cell? ⟨ab,0,none⟩=some (.slice (some ⟨wb,0,none⟩) n n)∧w₁.cell? ⟨nb,0,none⟩=some (.int .i64 (n:Int))∧w₁.cell? ⟨bb,1,none⟩=some (.int .i64 at')∧w₁.cell? ⟨bb,2,none⟩=some (.int .i64 nn):=hSR w w₁ ⟨ca,cn,c1,c2⟩ hA
  have hQR:∀ (a:Act) (x y:World),(Exit.normal=Exit.normal∧a=aF∧Aw E.W w x)→Aw E.W x y→(Exit.normal=Exit.normal∧a=aF∧Aw E.W w y):=fun a x y ⟨q1,q2,q3⟩ hxy=>⟨q1,q2,Aw.trans _ _ _ q3 hxy⟩
  have hA1:=aw_draw hA (w₁.drawn+1)
  replace hA1:=Lib.hid hA1
  replace haF:=Lib.hid haF
  clear hA hmid' ca cn c1 c2
  rw [show nop2 vOps6 14 o6c o6a=(nop2 ((match (match vIn with | .seq _ (.seq _ (.seq _ (.seq x _)))=>x | _=>.skip) with | .region _ o _=>o | _=>#[])) 14 o6c o6a) from rfl]
  simp only [vIn,vL,vB,Try.f81,Option.getD_some,nop2,List.setIfInBounds_toArray,List.set_cons_zero,List.set_cons_succ]
  refine anyCH_take T hSR hQR (i:=0) (v:=fv) rfl (by kernel_rfl) (by kernel_rfl) (by kernel_rfl) (yields_pure (by rfl) (fun w=>by go_simp) (fun w=>by simp [go_sem])) hS1 ?_
  simp only [Act.put,List.setIfInBounds_toArray,List.set_cons_zero,List.set_cons_succ,List.getElem_toArray,List.getElem_cons_succ,List.getElem_cons_zero]
  refine anyCH_take T hSR hQR (i:=1) (v:=.slice (some ⟨wb,0,none⟩) n n) rfl (by kernel_rfl) (by kernel_rfl) (by kernel_rfl) (yields_ld (ad:=⟨ab,0,none⟩) (fun w hs=>hs.1) Wa (by rfl) (fun w hc=>⟨by go_simp,fun e he=>by (have he':=he; simp [go_sem,hc] at he'; exact he')⟩)) hS1 ?_
  simp only [Act.put,List.setIfInBounds_toArray,List.set_cons_zero,List.set_cons_succ,List.getElem_toArray,List.getElem_cons_succ,List.getElem_cons_zero]
  refine anyCH_take T hSR hQR (i:=2) (v:=.pointer (some ⟨bb,1,none⟩)) rfl (by kernel_rfl) (by kernel_rfl) (by kernel_rfl) (yields_pure (by rfl) (fun w=>by go_simp) (fun w=>by simp [go_sem])) hS1 ?_
  simp only [Act.put,List.setIfInBounds_toArray,List.set_cons_zero,List.set_cons_succ,List.getElem_toArray,List.getElem_cons_succ,List.getElem_cons_zero]
  refine anyCH_take T hSR hQR (i:=3) (v:=.int .i64 at') rfl (by kernel_rfl) (by kernel_rfl) (by kernel_rfl) (yields_ld (ad:=⟨bb,1,none⟩) (fun w hs=>hs.2.2.1) Wb (by rfl) (fun w hc=>⟨by go_simp,fun e he=>by (have he':=he; simp [go_sem,hc] at he'; exact he')⟩)) hS1 ?_
  simp only [Act.put,List.setIfInBounds_toArray,List.set_cons_zero,List.set_cons_succ,List.getElem_toArray,List.getElem_cons_succ,List.getElem_cons_zero]
  refine anyCH_take T hSR hQR (i:=4) (v:=.int .i64 (n:Int)) rfl (by kernel_rfl) (by kernel_rfl) (by kernel_rfl) (yields_ld (ad:=⟨nb,0,none⟩) (fun w hs=>hs.2.1) Wn (by rfl) (fun w hc=>⟨by go_simp,fun e he=>by (have he':=he; simp [go_sem,hc] at he'; exact he')⟩)) hS1 ?_
  simp only [Act.put,List.setIfInBounds_toArray,List.set_cons_zero,List.set_cons_succ,List.getElem_toArray,List.getElem_cons_succ,List.getElem_cons_zero]
  refine anyCH_take T hSR hQR (i:=5) (v:=.int .i64 (at'.tmod n)) rfl (by kernel_rfl) (by kernel_rfl) (by kernel_rfl) (yields_pure (by rfl) (fun w=>by simp [go_sem,hn0]) (fun w=>by simp [go_sem,hn0])) hS1 ?_
  simp only [Act.put,List.setIfInBounds_toArray,List.set_cons_zero,List.set_cons_succ,List.getElem_toArray,List.getElem_cons_succ,List.getElem_cons_zero]
  refine anyCH_take T hSR hQR (i:=6) (v:=.int .i64 (n:Int)) rfl (by kernel_rfl) (by kernel_rfl) (by kernel_rfl) (yields_ld (ad:=⟨nb,0,none⟩) (fun w hs=>hs.2.1) Wn (by rfl) (fun w hc=>⟨by go_simp,fun e he=>by (have he':=he; simp [go_sem,hc] at he'; exact he')⟩)) hS1 ?_
  simp only [Act.put,List.setIfInBounds_toArray,List.set_cons_zero,List.set_cons_succ,List.getElem_toArray,List.getElem_cons_succ,List.getElem_cons_zero]
  refine anyCH_take T hSR hQR (i:=7) (v:=.int .i64 (at'.tmod n+n)) rfl (by kernel_rfl) (by kernel_rfl) (by kernel_rfl) (yields_pure (by rfl) (fun w=>by simp [go_sem,hw1]) (fun w=>by simp [go_sem])) hS1 ?_
  simp only [Act.put,List.setIfInBounds_toArray,List.set_cons_zero,List.set_cons_succ,List.getElem_toArray,List.getElem_cons_succ,List.getElem_cons_zero]
  refine anyCH_take T hSR hQR (i:=8) (v:=.int .i64 (n:Int)) rfl (by kernel_rfl) (by kernel_rfl) (by kernel_rfl) (yields_ld (ad:=⟨nb,0,none⟩) (fun w hs=>hs.2.1) Wn (by rfl) (fun w hc=>⟨by go_simp,fun e he=>by (have he':=he; simp [go_sem,hc] at he'; exact he')⟩)) hS1 ?_
  simp only [Act.put,List.setIfInBounds_toArray,List.set_cons_zero,List.set_cons_succ,List.getElem_toArray,List.getElem_cons_succ,List.getElem_cons_zero]
  refine anyCH_take T hSR hQR (i:=9) (v:=.int .i64 (ix:Int)) rfl (by kernel_rfl) (by kernel_rfl) (by kernel_rfl) (yields_pure (by rfl) (fun w=>by simp [go_sem,hn0,hw2]) (fun w=>by simp [go_sem,hn0])) hS1 ?_
  simp only [Act.put,List.setIfInBounds_toArray,List.set_cons_zero,List.set_cons_succ,List.getElem_toArray,List.getElem_cons_succ,List.getElem_cons_zero]
  refine anyCH_take T hSR hQR (i:=10) (v:=.pointer (some ⟨wb,ix,none⟩)) rfl (by kernel_rfl) (by kernel_rfl) (by kernel_rfl) (yields_pure (by rfl) (fun w=>by go_simp) (fun w=>by simp [go_sem,gi,gi0,hix])) hS1 ?_
  simp only [Act.put,List.setIfInBounds_toArray,List.set_cons_zero,List.set_cons_succ,List.getElem_toArray,List.getElem_cons_succ,List.getElem_cons_zero]
  refine anyCH_take T hSR hQR (i:=11) (v:=.pointer (some ⟨gb,0,none⟩)) rfl (by kernel_rfl) (by kernel_rfl) (by kernel_rfl) (yields_pure (by rfl) (fun w=>by go_simp) (fun w=>by simp [go_sem])) hS1 ?_
  simp only [Act.put,List.setIfInBounds_toArray,List.set_cons_zero,List.set_cons_succ,List.getElem_toArray,List.getElem_cons_succ,List.getElem_cons_zero]
  refine anyCH_take T hSR hQR (i:=12) (v:=.pointer (some ⟨bb,2,none⟩)) rfl (by kernel_rfl) (by kernel_rfl) (by kernel_rfl) (yields_pure (by rfl) (fun w=>by go_simp) (fun w=>by simp [go_sem])) hS1 ?_
  simp only [Act.put,List.setIfInBounds_toArray,List.set_cons_zero,List.set_cons_succ,List.getElem_toArray,List.getElem_cons_succ,List.getElem_cons_zero]
  refine anyCH_take T hSR hQR (i:=13) (v:=.int .i64 nn) rfl (by kernel_rfl) (by kernel_rfl) (by kernel_rfl) (yields_ld (ad:=⟨bb,2,none⟩) (fun w hs=>hs.2.2.2) Wb (by rfl) (fun w hc=>⟨by go_simp,fun e he=>by (have he':=he; simp [go_sem,hc] at he'; exact he')⟩)) hS1 ?_
  simp only [Act.put,List.setIfInBounds_toArray,List.set_cons_zero,List.set_cons_succ,List.getElem_toArray,List.getElem_cons_succ,List.getElem_cons_zero]
  refine anyCH_take T hSR hQR (i:=14) (v:=undef) rfl (by kernel_rfl) (by kernel_rfl) (by kernel_rfl) (yields_pure (by kernel_rfl) (fun w=>by kernel_rfl) (fun w=>by kernel_rfl)) hS1 ?_
  refine anyCH_take T hSR hQR (i:=15) (v:=undef) rfl (by kernel_rfl) (by kernel_rfl) (by kernel_rfl) (yields_pure (by kernel_rfl) (fun w=>by kernel_rfl) (fun w=>by kernel_rfl)) hS1 ?_
  refine anyCH_done (by kernel_rfl) ⟨rfl,haF.out.symm,hA1.out⟩ _
 ·subst haF
  rw [show ([14,14+1]:List Nat)=[14,15] from rfl]
  change HGn Try.prog j F E w' 400 _
  refine Idl.callClo (f:=fnn) (fn:=fn) (caps:=#[]) (ats:=#[39,49,2]) (x:=.tmp 29) (as':=#[.tmp 39,.tmp 40,.tmp 42]) (vs:=#[.pointer (some ⟨wb,ix,none⟩),.pointer (some ⟨gb,0,none⟩),.int .i64 nn]) (idl_hg Try.prog j F E w') o6c_at (by kernel_rfl) (by k_ne) (by kernel_rfl) (by rw [hfv.out]; rfl) hf hname hb (by simp [Act.eval]) ?_
  refine hmid'.out w' _ _ _ _ _ ⟨.refl j E,hA⟩ rfl (fun F' E2 w2 r hh=>?_)
  replace hh:=Lib.hid hh
  clear hmid' hSR T ca cn c1 c2
  rw [show (vOps6[14]?).bind (·.dst)=some 43 by kernel_rfl]
  unfold hdV7 at hh
  change HGn Try.prog j F' E2 w2 100 _
  generalize hG7:vR7=L7 at hh ⊢
  generalize hG8:vR8=L8 at hh ⊢
  generalize hG9:vR9=L9 at hh ⊢
  generalize hGL:vL=LL at hh ⊢
  simp only [vOps6,vR6,vIn,vL,vB,Try.f81,Option.getD_some]
  walk_nrm
  refine Idl.v (idl_hg Try.prog j F' E2 w2) ?_
  walk_nrm
  refine Idl.re (idl_hg Try.prog j F' E2 w2) (Idl.q (idl_hg Try.prog j F' E2 w2) ?_)
  refine hh.out _ (by simp) (fun q hq h13=>?_) (by simp)
  match q,hq,h13 with
  | 13,_,h=>exact absurd rfl h
  | 0,_,_ | 1,_,_ | 2,_,_ | 3,_,_ | 4,_,_ | 5,_,_ | 6,_,_ | 7,_,_ | 8,_,_ | 9,_,_ | 10,_,_ | 11,_,_ | 12,_,_ | 14,_,_ | 15,_,_ | 16,_,_=>simp [e0,e3,e4,e10,e11]
  | q+17,hq,_=>exact absurd hq (by omega)
end
theorem doW_rng {v k n:Int} (hv:I64 v) (hn:I64 n):I64 (doW v k n).1∧I64 (doW v k n).2:=by
 unfold doW
 split
 ·exact ⟨hv,hv⟩
 split
 ·exact ⟨hn,show I64 0 by unfold I64; omega⟩
 split
 ·exact ⟨wrap_rng _,hv⟩
 ·exact ⟨hn,hv⟩
theorem name68:(Try.f68.name == "runtime.NumGoroutine")=false:=by kernel_rfl
theorem name69:(Try.f69.name == "runtime.NumGoroutine")=false:=by kernel_rfl
theorem name124:(Try.f124.name == "runtime.NumGoroutine")=false:=by kernel_rfl
theorem name125:(Try.f125.name == "runtime.NumGoroutine")=false:=by kernel_rfl
section
variable {rb mb wb n db ab nb mpb t i c:Nat} {th:Th} {K:Nat→Obj→Prop} {L:List PT} {p:PT}
variable {b₀:Frame} {a₀:Act} {ops₀:Array Oper} {i₀:Nat} {rest₀:List Nat} {k₀:List Item} {cl:List Frame}
theorem word_call {f' bb:Nat} {op:Op3} (W:WTok K L t p mb wb n db ab nb mpb) (hbound:sumTo L.length (opLen L)≤1000000000000) (LR:LiveRet th.gb th.box rb b₀ a₀ ops₀ i₀ rest₀ k₀ cl) (hop:p.ops[i]?=some op) (hC:isC op.1=true) (hci:c≤i)
  (hrec:∀ (h:Nat) (home:Goroutine→Prop) (k:Int) (F:Machine→Trace→Prop) (E:Env) (w:World) (s:WS) (T:Array Value),TKn h rb home k th E w→GA w rb th false false (((c+1:Nat):Int),0,0)→WordM mb wb n K L s E w→s.cnt t=c+1→RegsV T th.gb p mb db ab nb (i+1) (c+1) →
   Back (wordD mb wb n K L) h rb home th F E w s (standW L t (c+1) (aftI p.ops (i+1))) (roleOf (Srv (wordD mb wb n K L) rb th f') rb th (standW L t (c+1) (aftI p.ops (i+1))))→HG Try.prog th.j F E (G ((base 81).at ⟨T,[]⟩ hdV) (b₀.at a₀ (.inRegion ops₀ (i₀ :: rest₀) :: k₀) :: cl)) w)
  {h:Nat} {home:Goroutine→Prop} {k:Int} {F:Machine→Trace→Prop} {E:Env} {w:World} {s:WS} {T:Array Value} (TK:TKn h rb home k th E w) (g:GA w rb th false false ((c:Int),0,0)) (M:WordM mb wb n K L s E w) (R:RegsV T th.gb p mb db ab nb i c)
  (nb0:w.heap[bb]?=some (.cells #[.int .i64 op.1,.int .i64 op.2.1,.int .i64 op.2.2] 34)) (nbH:E.H bb=none) (t10:T[10]?=some (.pointer (some ⟨bb,0,none⟩))) (t11:T[11]?=some (lookV op.1))
  (hB:Back (wordD mb wb n K L) h rb home th F E w s (some ⟨t,i,c⟩) (.seat th.ct (Srv (wordD mb wb n K L) rb th (f'+1) ⟨t,i,c⟩))) :
  HG Try.prog th.j F E (G ((base 81).at ⟨T,[]⟩ hdV6) (b₀.at a₀ (.inRegion ops₀ (i₀ :: rest₀) :: k₀) :: cl)) w:=by
 refine HG.withH fun hWH _=>?_
 have hWn:∀ b,E.H b=none→E.W b=false:=fun b hb=>by
  cases e:E.W b with
  | false=>rfl
  | true=>have:=hWH b e; rw [hb] at this; cases this
 have hlt:i < p.ops.length:=(List.getElem?_eq_some_iff.1 hop).1
 have hpo:opsOf L t=p.ops:=opsOf_of W.P.pt
 obtain ⟨r1,r2,r3⟩:=W.rng i op hop
 obtain ⟨ca,Ha,_⟩:=M.konst _ _ W.ka
 obtain ⟨cn,Hn,_⟩:=M.konst _ _ W.kn
 have hix:=pickIx_lt op.2.1 (show 0 < n by have:=W.n1; omega)
 have hlk:lookV op.1=fvV (fnOf op.1):=by unfold lookV; rw [hC]; rfl
 rw [hlk] at t11
 have fin:∀ (a₁:Act) (ops:Array Oper) (i':Nat) (rest':List Nat) (k':List Item),
   (∀ (F':Machine→Trace→Prop) (E2:Env) (w2:World) (r:Value),(∀ T',T'.size=56→(∀ q,q < 17→q≠13→T'[q]?=T[q]?)→T'[13]?=some r→HG Try.prog th.j F' E2 (G ((base 81).at ⟨T',[]⟩ hdV7) (b₀.at a₀ (.inRegion ops₀ (i₀ :: rest₀) :: k₀) :: cl)) w2)→HG Try.prog th.j F' E2 (G ((base 81).at (a₁.put ((ops[i']?).bind (·.dst)) r) (.inRegion ops rest' :: k')) (b₀.at a₀ (.inRegion ops₀ (i₀ :: rest₀) :: k₀) :: cl)) w2) →
   ∀ (h':Nat) (home':Goroutine→Prop) (k1:Int) (F':Machine→Trace→Prop) (E':Env) (w':World) (s':WS),WordM mb wb n K L s' E' w'→s'.cnt t=c →
    (∀ s'' o,(wordD mb wb n K L).next ⟨t,i,c⟩ k1 s' (s'',o)→Back (wordD mb wb n K L) h' rb home' th F' E' w' s'' o (roleOf (Srv (wordD mb wb n K L) rb th f') rb th o)) →
    ∀ E2 w2,Kept th.j (some th.gb) E' w' E2 w2→TKn h' rb home' k1 th E2 w2→GA w2 rb th false false (IntKind.i64.wrap ((c:Int)+1),0,0)→WSet E' w' E2 w2 ⟨wb,pickIx op.2.1 n,none⟩ (doW (s'.vs (pickIx op.2.1 n)) op.1 op.2.2).1 →
    HG Try.prog th.j F' E2 (G ((base 81).at (a₁.put ((ops[i']?).bind (·.dst)) (.int .i64 (doW (s'.vs (pickIx op.2.1 n)) op.1 op.2.2).2)) (.inRegion ops rest' :: k')) (b₀.at a₀ (.inRegion ops₀ (i₀ :: rest₀) :: k₀) :: cl)) w2:=by
  intro a₁ ops i' rest' k' hp h' home' k1 F' E' w' s' M' hcn hB' E2 w2 hK2 T2 g2 hWS
  refine hp F' E2 w2 _ (fun T' s4 j4 t13=>?_)
  have M4:=M'.wset W.ne hix hWS (doW_rng (M'.rng _) r3).1
  have R4:RegsV T' th.gb p mb db ab nb i c:=R.up s4 (fun q hq=>by
   by_cases e:q=13
   ·exact .inr (by omega)
   ·exact .inl (j4 q hq e))
  refine word_mark W hbound T2 g2 M4 hcn hlt hci R4 t13 (fun E3 w3 T5 hk3 T3 g3 M5 R5=>?_)
  refine hrec h' home' k1 F' E3 w3 _ T5 T3 (by rw [← wrap_nat c (by have:=W.P.len; omega)]; exact g3) M5 (upd_same ..) R5 ?_
  refine ((hB' (doneW n s' t c k1 op) (standW L t (c+1) (aftI p.ops (i+1))) ⟨op,?_,hC,?_⟩).kept (hK2.trans hk3))
  ·rw [hpo]; exact hop
  ·rw [hpo]
 have mv:∀ w1,AtE th.j E w E w1→TKn h rb home k th E w1∧GA w1 rb th false false ((c:Int),0,0)∧WordM mb wb n K L s E w1∧Back (wordD mb wb n K L) h rb home th F E w1 s (some ⟨t,i,c⟩) (.seat th.ct (Srv (wordD mb wb n K L) rb th (f'+1) ⟨t,i,c⟩)):=fun w1 hA =>
  ⟨TK.kept (Kept.of_at hA) TK.gct,GA.at g TK.gW hA,Prot.at (D:=wordD mb wb n K L) M hWH hA,hB.kept (Kept.of_at hA)⟩
 have b1:w.cell? ⟨bb,1,none⟩=some (.int .i64 op.2.1):=obj_cell nb0 (o:=1) rfl
 have b2:w.cell? ⟨bb,2,none⟩=some (.int .i64 op.2.2):=obj_cell nb0 (o:=2) rfl
 rcases isC_cases hC with h1 | h1 | h1 | h1
 ·have e1:fnOf op.1=124:=by unfold fnOf; rw [if_pos h1]
  rw [e1] at t11
  refine word_r6 (fnn:=124) (fn:=Try.f124) R t10 t11 ca (hWn _ Ha) cn (hWn _ Hn) b1 b2 (hWn _ nbH) W.n1 W.n2 Try.func124 name124 (by rfl) (fun w1 a₁ ops i' rest' k' hA hd hp=>?_)
  obtain ⟨TK1,g1,M1,B1⟩:=mv w1 hA
  refine c124_go (fun a2 ops2 i2 rest2 k2 hd2 hp2=>?_)
  refine wload_go (D:=wordD mb wb n K L) (m:=f') (ℓ:=⟨t,i,c⟩) (s:=s) TK1 g1 M1 (OffAt.up (OffAt.up LR.offAt Try.func81 hd) Try.func124 hd2) B1 (fun h' home' k1 F' E' w' s' T' M' f'' B'=>?_)
  have M':WordM mb wb n K L s' E' w':=M'
  refine ⟨s'.vs (pickIx op.2.1 n),(M'.word hix).1,(M'.word hix).2,fun E2 w2 hK2 T2 g2 hWS=>?_⟩
  have ed:doW (s'.vs (pickIx op.2.1 n)) op.1 op.2.2=(s'.vs (pickIx op.2.1 n),s'.vs (pickIx op.2.1 n)):=by rw [h1]; simp [doW]
  refine hp2 F' E2 w2 _ ?_
  have:=fin a₁ ops i' rest' k' hp h' home' k1 F' E' w' s' M' f''.1 B' E2 w2 hK2 T2 g2 (by rw [ed]; exact hWS)
  rw [ed] at this
  exact this
 ·have e1:fnOf op.1=125:=by unfold fnOf; rw [if_neg (by omega),if_pos h1]
  rw [e1] at t11
  refine word_r6 (fnn:=125) (fn:=Try.f125) R t10 t11 ca (hWn _ Ha) cn (hWn _ Hn) b1 b2 (hWn _ nbH) W.n1 W.n2 Try.func125 name125 (by rfl) (fun w1 a₁ ops i' rest' k' hA hd hp=>?_)
  obtain ⟨TK1,g1,M1,B1⟩:=mv w1 hA
  refine c125_go (fun a2 ops2 i2 rest2 k2 hd2 hp2=>?_)
  refine wstore_go (D:=wordD mb wb n K L) (m:=f') (ℓ:=⟨t,i,c⟩) (s:=s) TK1 g1 M1 (OffAt.up (OffAt.up LR.offAt Try.func81 hd) Try.func125 hd2) B1 (fun h' home' k1 F' E' w' s' T' M' f'' B'=>?_)
  have M':WordM mb wb n K L s' E' w':=M'
  refine ⟨s'.vs (pickIx op.2.1 n),(M'.word hix).1,(M'.word hix).2,fun E2 w2 hK2 T2 g2 hWS=>?_⟩
  have ed:doW (s'.vs (pickIx op.2.1 n)) op.1 op.2.2=(op.2.2,0):=by rw [h1]; simp [doW]
  refine hp2 F' E2 w2 _ ?_
  have:=fin a₁ ops i' rest' k' hp h' home' k1 F' E' w' s' M' f''.1 B' E2 w2 hK2 T2 g2 (by rw [ed]; exact hWS)
  rw [ed] at this
  exact this
 ·have e1:fnOf op.1=68:=by unfold fnOf; rw [if_neg (by omega),if_neg (by omega),if_pos h1]
  rw [e1] at t11
  refine word_r6 (fnn:=68) (fn:=Try.f68) R t10 t11 ca (hWn _ Ha) cn (hWn _ Hn) b1 b2 (hWn _ nbH) W.n1 W.n2 Try.func68 name68 (by rfl) (fun w1 a₁ ops i' rest' k' hA hd hp=>?_)
  obtain ⟨TK1,g1,M1,B1⟩:=mv w1 hA
  refine wadd_go (D:=wordD mb wb n K L) (m:=f') (ℓ:=⟨t,i,c⟩) (s:=s) TK1 g1 M1 (OffAt.up LR.offAt Try.func81 hd) B1 (fun h' home' k1 F' E' w' s' T' M' f'' B'=>?_)
  have M':WordM mb wb n K L s' E' w':=M'
  refine ⟨s'.vs (pickIx op.2.1 n),(M'.word hix).1,(M'.word hix).2,fun E2 w2 hK2 T2 g2 hWS=>?_⟩
  have ed:doW (s'.vs (pickIx op.2.1 n)) op.1 op.2.2=(IntKind.i64.wrap (s'.vs (pickIx op.2.1 n)+op.2.2),s'.vs (pickIx op.2.1 n)):=by rw [h1]; simp [doW]
  rw [wrap_sub _ _ (M'.rng _)]
  have:=fin a₁ ops i' rest' k' hp h' home' k1 F' E' w' s' M' f''.1 B' E2 w2 hK2 T2 g2 (by rw [ed]; exact hWS)
  rw [ed] at this
  exact this
 ·have e1:fnOf op.1=69:=by unfold fnOf; rw [if_neg (by omega),if_neg (by omega),if_neg (by omega)]
  rw [e1] at t11
  refine word_r6 (fnn:=69) (fn:=Try.f69) R t10 t11 ca (hWn _ Ha) cn (hWn _ Hn) b1 b2 (hWn _ nbH) W.n1 W.n2 Try.func69 name69 (by rfl) (fun w1 a₁ ops i' rest' k' hA hd hp=>?_)
  obtain ⟨TK1,g1,M1,B1⟩:=mv w1 hA
  refine wswap_go (D:=wordD mb wb n K L) (m:=f') (ℓ:=⟨t,i,c⟩) (s:=s) TK1 g1 M1 (OffAt.up LR.offAt Try.func81 hd) B1 (fun h' home' k1 F' E' w' s' T' M' f'' B'=>?_)
  have M':WordM mb wb n K L s' E' w':=M'
  refine ⟨s'.vs (pickIx op.2.1 n),(M'.word hix).1,(M'.word hix).2,fun E2 w2 hK2 T2 g2 hWS=>?_⟩
  have ed:doW (s'.vs (pickIx op.2.1 n)) op.1 op.2.2=(op.2.2,s'.vs (pickIx op.2.1 n)):=by rw [h1]; simp [doW]
  have:=fin a₁ ops i' rest' k' hp h' home' k1 F' E' w' s' M' f''.1 B' E2 w2 hK2 T2 g2 (by rw [ed]; exact hWS)
  rw [ed] at this
  exact this
theorem word_loop (W:WTok K L t p mb wb n db ab nb mpb) (hbound:sumTo L.length (opLen L)≤1000000000000) (LR:LiveRet th.gb th.box rb b₀ a₀ ops₀ i₀ rest₀ k₀ cl) :
  ∀ (m i:Nat),m+i=p.ops.length→∀ (f c:Nat),m≤f→c≤i→∀ (h:Nat) (home:Goroutine→Prop) (k:Int) (F:Machine→Trace→Prop) (E:Env) (w:World) (s:WS) (T:Array Value),TKn h rb home k th E w→GA w rb th false false ((c:Int),0,0)→WordM mb wb n K L s E w→s.cnt t=c→RegsV T th.gb p mb db ab nb i c →
   Back (wordD mb wb n K L) h rb home th F E w s (standW L t c (aftI p.ops i)) (roleOf (Srv (wordD mb wb n K L) rb th f) rb th (standW L t c (aftI p.ops i)))→HG Try.prog th.j F E (G ((base 81).at ⟨T,[]⟩ hdV) (b₀.at a₀ (.inRegion ops₀ (i₀ :: rest₀) :: k₀) :: cl)) w
 | 0,i,hi,f,c,hf,hci,h,home,k,F,E,w,s,T,TK,g,M,hcn,R,hB=>by
   have hpo:opsOf L t=p.ops:=opsOf_of W.P.pt
   have e:standW L t c (aftI p.ops i)=none:=by
    rw [aftI_end (by omega)]
    unfold standW
    rw [if_neg (by rw [hpo]; omega)]
   rw [e] at hB
   refine word_exit R (by omega) ?_
   exact body_ret (D:=wordD mb wb n K L) LR TK g M hB
 | m+1,i,hi,f,c,hf,hci,h,home,k,F,E,w,s,T,TK,g,M,hcn,R,hB=>by
   have hpo:opsOf L t=p.ops:=opsOf_of W.P.pt
   have hlt:i < p.ops.length:=by omega
   have hlen:=W.P.len
   obtain ⟨op,hop⟩:∃ op,p.ops[i]?=some op:=⟨_,List.getElem?_eq_getElem hlt⟩
   refine word_head R hlt (fun T1 R1=>?_)
   refine word_op W M hop R1 (fun E1 w1 T2 bb S1 R2 nb0 nbH t10 t11 t12=>?_)
   have TK1:=TK.kept S1.kept.weaken TK.gct
   have g1:=GA.kept S1.kept g TK.gH TK.gW
   have M1:=M.still S1
   have B1:=hB.kept S1.kept.weaken
   cases hC:isC op.1 with
   | false =>
     rw [hC] at t12
     refine word_skip R2 (by omega) t12 (fun T3 R3=>?_)
     rw [aftI_skip hop hC] at B1
     exact word_loop W hbound LR m (i+1) (by omega) f c (by omega) (by omega) h home k F E1 w1 s T3 TK1 g1 M1 hcn R3 B1
   | true =>
     rw [hC] at t12
     obtain ⟨f',rfl⟩:∃ f',f=f'+1:=⟨f - 1,by omega⟩
     refine word_take R2 t12 (fun T3 s3 j3=>?_)
     have R3:RegsV T3 th.gb p mb db ab nb i c:=R2.up s3 (fun q hq=>.inl (j3 q hq))
     have e:standW L t c (aftI p.ops i)=some ⟨t,i,c⟩:=by
      rw [aftI_call hop hC]
      unfold standW
      rw [if_pos (by rw [hpo]; exact hlt)]
     rw [e] at B1
     exact word_call W hbound LR hop hC hci (fun h' home' k' F' E' w' s' T' a1 a2 a3 a4 a5 a6=>word_loop W hbound LR m (i+1) (by omega) f' (c+1) (by omega) (by omega) h' home' k' F' E' w' s' T' a1 a2 a3 a4 a5 a6) TK1 g1 M1 R3 nb0 nbH ((j3 10 (by decide)).trans t10) ((j3 11 (by decide)).trans t11) B1
end
noncomputable def xvR0:Code:=vR0
noncomputable def xvR1:Code:=vR1
section
variable {mb wb n db ab nb mpb t:Nat} {K:Nat→Obj→Prop} {L:List PT} {p:PT}
theorem word_entry {j:Nat} {F:Machine→Trace→Prop} {E:Env} {w:World} {gb lb tb nn cap:Nat} {aa:Option Addr} {cs:List Frame} (hl:w.cell? ⟨lb,0,none⟩=some (.slice aa nn cap)) (hW:E.W lb=false)
  (hc:∀ T',T'.size=56→T'[0]?=some (.pointer (some ⟨gb,0,none⟩))→T'[2]?=some (.pointer (some ⟨db,0,none⟩))→T'[3]?=some (.pointer (some ⟨ab,0,none⟩))→T'[4]?=some (.pointer (some ⟨nb,0,none⟩))→T'[5]?=some (.pointer (some ⟨mb,0,none⟩))→T'[6]?=some (.pointer (some ⟨tb,0,none⟩))→T'[8]?=some (.int .i64 0)→T'[14]?=some (.slice aa nn cap)→T'[15]?=some (.int .i64 (nn:Int))→T'[16]?=some (.int .i64 0)→HG Try.prog j F E (G ((base 81).at ⟨T',[]⟩ hdV) cs) w) :
  HGn Try.prog j F E w 100 (entry 81 Try.f81 #[.pointer (some ⟨gb,0,none⟩),.pointer (some ⟨lb,0,none⟩),.pointer (some ⟨db,0,none⟩),.pointer (some ⟨ab,0,none⟩),.pointer (some ⟨nb,0,none⟩),.pointer (some ⟨mb,0,none⟩),.pointer (some ⟨tb,0,none⟩)] cs):=by
 unfold entry
 rw [show Try.f81.body.getD .skip=.seq xvR0 (.seq xvR1 (.block 0 (.loop vL))) from vB_parts,show Try.f81.ntmps=56 from rfl]
 replace hc:=Lib.hid hc
 unfold hdV at hc
 generalize hGL:vL=LL at hc ⊢
 simp only [xvR0,xvR1,vR0,vR1,vB,Try.f81,Option.getD_some]
 walk_nrm
 refine Idl.q (idl_hg Try.prog j F E w) (Idl.rg (idl_hg Try.prog j F E w) [0] rfl ?_)
 refine Idl.v (idl_hg Try.prog j F E w) ?_
 walk_nrm
 refine Idl.re (idl_hg Try.prog j F E w) (Idl.q (idl_hg Try.prog j F E w) (Idl.rg (idl_hg Try.prog j F E w) [0,1,2] rfl ?_))
 refine HGn.ld hl (fun z=>by rw [hW] at z; cases z) rfl rfl (by first | decide | exact base_kind _ | exact baseD_kind _ | assumption) (fun w₁ hc₁=>⟨by go_simp,fun e he=>by (have he':=he; simp [go_sem,hc₁] at he'; exact he')⟩) ?_
 walk_nrm
 skip
 refine Idl.value (v:=.int .i64 (nn:Int)) (idl_hg Try.prog j F E w) rfl rfl (by k_ne) (fun w=>by simp [go_sem]) (fun w=>by simp [go_sem]) ?_
 walk_nrm
 refine Idl.v (idl_hg Try.prog j F E w) ?_
 walk_nrm
 refine Idl.re (idl_hg Try.prog j F E w) (Idl.bl (idl_hg Try.prog j F E w) (Idl.lp (idl_hg Try.prog j F E w) ?_))
 refine hc.out _ (by simp) (by simp) (by simp) (by simp) (by simp) (by simp) (by simp) (by simp) (by simp) (by simp) (by simp)
theorem word_born (W:WTok K L t p mb wb n db ab nb mpb) (hbound:sumTo L.length (opLen L)≤1000000000000):Born (wordD mb wb n K L) t p.ops.length (startW L t) 81 Try.f81 #[.pointer (some ⟨p.lb,0,none⟩),.pointer (some ⟨db,0,none⟩),.pointer (some ⟨ab,0,none⟩),.pointer (some ⟨nb,0,none⟩),.pointer (some ⟨mb,0,none⟩),.pointer (some ⟨p.tb,0,none⟩)]:=by
 intro h rb home th F E w s b₀ a₀ ops₀ i₀ rest₀ k₀ cl T g M hI LR hB
 have M:WordM mb wb n K L s E w:=M
 refine HG.withH fun hWH _=>?_
 have hWn:∀ b,E.H b=none→E.W b=false:=fun b hb=>by
  cases e:E.W b with
  | false=>rfl
  | true=>have:=hWH b e; rw [hb] at this; cases this
 have hpo:opsOf L t=p.ops:=opsOf_of W.P.pt
 obtain ⟨aa,hkl,haa⟩:=W.P.kl
 obtain ⟨k1,k2,_⟩:=M.konst _ _ hkl
 refine word_entry (tb:=p.tb) (gb:=th.gb) k1 (hWn _ k2) (fun T' a1 a2 a3 a4 a5 a6 a7 a8 a9 a10 a11=>?_)
 refine word_loop W hbound LR p.ops.length 0 (by omega) p.ops.length 0 (Nat.le_refl _) (Nat.le_refl _) h home 0 F E w s T' T g M (hI t (Nat.le_refl _)) ⟨a1,a2,a3,a4,a5,a6,a7,a8,?_,a10,a11⟩ ?_
 ·by_cases he:p.ops=[]
  ·exact .inr he
  ·rw [haa he] at a9
   exact .inl a9
 ·have:=hB s (standW L t 0 (aftI (opsOf L t) 0)) rfl
  rw [hpo] at this
  exact this
end
end Go.Proofs.Ytimlbbleblijnaa.Co

namespace Go.Proofs.Ytimlbbleblijnaa.Co
open Go Go.Conc Go.RowKit
structure BxG (B:Nat) (cv:Nat→Nat→Value) (LA:Nat→Option Addr) (LN LC:Nat→Nat) (LB TB:Nat→Nat) (v:Value) (n:Nat) (x:World):Prop where
 row:x.ownsRow B 52 1 v n ((List.range n).map fun i=>cv (LB i) (TB i))
 box:∀ i,i < n→x.cell? ⟨LB i,0,none⟩=some (.slice (LA i) (LN i) (LC i))∧x.cell? ⟨TB i,0,none⟩=some (.int .i64 (i:Int))∧B≤LB i∧B≤TB i∧v.ownBlock≠some (LB i)∧v.ownBlock≠some (TB i)
theorem bxg_succ (cv:Nat→Nat→Value) (LB TB:Nat→Nat) (i a b:Nat):(List.range (i+1)).map (fun j=>cv (if j=i then a else LB j) (if j=i then b else TB j))=(List.range i).map (fun j=>cv (LB j) (TB j)) ++ [cv a b]:=by
 rw [List.range_succ,List.map_append]
 congr 1
 ·refine List.map_congr_left fun j hj=>?_
  have:=List.mem_range.1 hj
  have hne:j≠i:=by omega
  simp [hne]
 ·simp
theorem bxg_next {B i gg cp S ty:Nat} {cv:Nat→Nat→Value} {LA:Nat→Option Addr} {LN LC LB TB:Nat→Nat} {v c:Value} {wr w3 w4:World} (hS:S=wr.heap.size) (bx:BxG B cv LA LN LC LB TB v i wr) (hB:B≤wr.heap.size)
  (hw3:w3=((wr.alloc (.cells #[.int .i64 (i:Int)] 3)).alloc (.cells #[.slice (LA i) (LN i) (LC i)] ty)).alloc (.cells #[c] 52)) (hcv:c=cv (S+1) S)
  (ho4:w4.ownsRow B 52 1 (.slice (some ⟨gg,0,none⟩) (i+1) cp) (i+1) ((List.range i).map (fun j=>cv (LB j) (TB j)) ++ [c])) (hgrow:w3.grownBy w4 v.ownBlock) (hat:v.ownBlock=some gg∨gg=w3.heap.size) :
  BxG B cv LA LN LC (fun j=>if j=i then S+1 else LB j) (fun j=>if j=i then S else TB j) (.slice (some ⟨gg,0,none⟩) (i+1) cp) (i+1) w4:=by
 obtain ⟨row,box⟩:=bx
 have s3:w3.heap.size=wr.heap.size+3:=by rw [hw3]; simp
 have b3:Below wr.heap.size wr w3:=by
  rw [hw3]
  exact (((Below.refl _ _).alloc (Nat.le_refl _) _).alloc (by simp) _).alloc (by simp; omega) _
 have kc:∀ (a:Addr) u,w3.cell? a=some u→v.ownBlock≠some a.block→w4.cell? a=some u:=fun a u h1 h2=>by
  have hl:=World.block_lt_of_cell? w3 _ h1
  rw [← h1]
  exact World.cell?_of_block (hgrow.block a.block hl (fun e=>h2 e.symm))
 have hg:∀ c,v.ownBlock≠some c→c < wr.heap.size+3→gg≠c:=fun c h1 h2 e=>by
  subst e
  rcases hat with z | z
  ·exact h1 z
  ·omega
 have hrl:∀ c,v.ownBlock=some c→c < wr.heap.size:=fun c hc=>(row.lt c hc).2
 refine ⟨?_,fun j hj=>?_⟩
 ·rw [bxg_succ,← hcv]
  exact ho4
 ·by_cases hji:j=i
  ·subst hji
   simp only [if_true]
   have n1:v.ownBlock≠some S:=fun e=>by have:=hrl _ e; omega
   have n2:v.ownBlock≠some (S+1):=fun e=>by have:=hrl _ e; omega
   refine ⟨kc _ _ ?_ n2,kc _ _ ?_ n1,by omega,by omega,fun e=>?_,fun e=>?_⟩
   ·rw [hw3,hS]
    refine obj_cell (c:=#[Value.slice (LA j) (LN j) (LC j)]) (e:=ty) (f:=(0,0)) ((alloc_old (by rw [alloc_size,alloc_size]; omega)).trans ?_) rfl
    have e5:=@alloc_new (wr.alloc (Obj.cells #[Value.int IntKind.i64 ↑j] 3)) (Obj.cells #[Value.slice (LA j) (LN j) (LC j)] ty)
    rw [alloc_size] at e5
    exact e5
   ·rw [hw3,hS]
    exact obj_cell ((alloc_old (by rw [alloc_size,alloc_size]; omega)).trans ((alloc_old (by rw [alloc_size]; omega)).trans alloc_new)) rfl
   ·exact hg (S+1) n2 (by omega) (by simpa [Value.ownBlock] using e)
   ·exact hg S n1 (by omega) (by simpa [Value.ownBlock] using e)
  ·simp only [if_neg hji]
   obtain ⟨q1,q2,q3,q4,q5,q6⟩:=box j (by omega)
   have l1:=World.block_lt_of_cell? wr _ q1
   have l2:=World.block_lt_of_cell? wr _ q2
   dsimp only at l1 l2
   refine ⟨kc _ _ ((b3.cell l1).trans q1) q5,kc _ _ ((b3.cell l2).trans q2) q6,q3,q4,fun e=>?_,fun e=>?_⟩
   ·exact hg _ q5 (by omega) (by simpa [Value.ownBlock] using e)
   ·exact hg _ q6 (by omega) (by simpa [Value.ownBlock] using e)
noncomputable def uB:Code:=Try.f45.body.getD .skip
noncomputable def uS0:Code:=match uB with | .seq x _=>x | _=>.skip
noncomputable def uT1:Code:=match uB with | .seq _ x=>x | _=>.skip
noncomputable def uS1:Code:=match uT1 with | .seq x _=>x | _=>.skip
noncomputable def uT3:Code:=match uT1 with | .seq _ x=>x | _=>.skip
noncomputable def uS3:Code:=match uT3 with | .seq x _=>x | _=>.skip
noncomputable def uT4:Code:=match uT3 with | .seq _ x=>x | _=>.skip
noncomputable def uS4:Code:=match uT4 with | .seq x _=>x | _=>.skip
noncomputable def uT5:Code:=match uT4 with | .seq _ x=>x | _=>.skip
noncomputable def uS5:Code:=match uT5 with | .seq x _=>x | _=>.skip
noncomputable def uT6:Code:=match uT5 with | .seq _ x=>x | _=>.skip
noncomputable def uS6:Code:=match uT6 with | .seq x _=>x | _=>.skip
noncomputable def uT7:Code:=match uT6 with | .seq _ x=>x | _=>.skip
noncomputable def uS7:Code:=match uT7 with | .seq x _=>x | _=>.skip
noncomputable def uT12:Code:=match uT7 with | .seq _ x=>x | _=>.skip
noncomputable def uS12:Code:=match uT12 with | .seq x _=>x | _=>.skip
noncomputable def uT13:Code:=match uT12 with | .seq _ x=>x | _=>.skip
noncomputable def uS13:Code:=match uT13 with | .seq x _=>x | _=>.skip
noncomputable def uT14:Code:=match uT13 with | .seq _ x=>x | _=>.skip
noncomputable def uS14:Code:=match uT14 with | .seq x _=>x | _=>.skip
noncomputable def uT19:Code:=match uT14 with | .seq _ x=>x | _=>.skip
noncomputable def uS19:Code:=match uT19 with | .seq x _=>x | _=>.skip
theorem u_parts:uB=.seq uS0 uT1∧uT1=.seq uS1 uT3∧uT3=.seq uS3 uT4∧uT4=.seq uS4 uT5∧uT5=.seq uS5 uT6∧uT6=.seq uS6 uT7∧uT7=.seq uS7 uT12∧uT12=.seq uS12 uT13∧uT13=.seq uS13 uT14∧uT14=.seq uS14 uT19∧uT19=.seq uS19 .ret:=⟨by kernel_rfl,by kernel_rfl,by kernel_rfl,by kernel_rfl,by kernel_rfl,by kernel_rfl,by kernel_rfl,by kernel_rfl,by kernel_rfl,by kernel_rfl,by kernel_rfl⟩
def wclo (db ab nb mb lb tb:Nat):Value:=.func (.func 81) #[] #[.pointer (some ⟨lb,0,none⟩),.pointer (some ⟨db,0,none⟩),.pointer (some ⟨ab,0,none⟩),.pointer (some ⟨nb,0,none⟩),.pointer (some ⟨mb,0,none⟩),.pointer (some ⟨tb,0,none⟩)]
theorem uS7_wp {T:Array Value} {x:World} {ba bo n cap mb db ab nb:Nat} {ta:Option Addr} {LA:Nat→Option Addr} {LN LC:Nat→Nat} {Q:Exit→Act→World→Prop} (hs:T.size=65)
  (h1:T[1]?=some (.slice ta n cap)) (h4:T[4]?=some (.pointer (some ⟨nb,0,none⟩))) (h10:T[10]?=some (.pointer (some ⟨ab,0,none⟩))) (h11:T[11]?=some (.pointer (some ⟨db,0,none⟩))) (h12:T[12]?=some (.pointer (some ⟨mb,0,none⟩))) (h13:T[13]?=some (.slice none 0 0))
  (hta:0 < n→ta=some ⟨ba,bo,none⟩) (hc:∀ i,i < n→x.cell? ⟨ba,bo+i,none⟩=some (.slice (LA i) (LN i) (LC i))) (hn:n≤1000000000000)
  (hQ:∀ T' x' v LB TB,T'.size=65→(∀ j,j < 13→T'[j]?=T[j]?)→T'[13]?=some v→BxG x.heap.size (wclo db ab nb mb) LA LN LC LB TB v n x'→Below x.heap.size x x'→Q .normal ⟨T',[]⟩ x') :
  uS7.wp Try.prog Q ⟨T,[]⟩ x:=by
 obtain ⟨i0,hinf,hz0,hz1,hz2⟩:=info52
 obtain ⟨B,hB⟩:∃ B,B=x.heap.size:=⟨_,rfl⟩
 rw [← hB] at hQ
 obtain ⟨f,hf,fz⟩:=arrfv T hs
 have e1:=fz 1 _ h1
 have e4:=fz 4 _ h4
 have e10:=fz 10 _ h10
 have e11:=fz 11 _ h11
 have e12:=fz 12 _ h12
 have e13:=fz 13 _ h13
 have hQ':∀ T' x' v LB TB,T'.size=65→(∀ j,j < 13→T'[j]?=some (f j))→T'[13]?=some v→BxG B (wclo db ab nb mb) LA LN LC LB TB v n x'→Below B x x'→Q .normal ⟨T',[]⟩ x':=fun T' x' v LB TB a1 a2 a3 a4 a5=>hQ T' x' v LB TB a1 (fun j hj=>by rw [a2 j hj,hf,arrf_get f (by omega)]) a3 a4 a5
 clear hQ fz h1 h4 h10 h11 h12 h13 hs
 subst hf
 replace hQ':=Lib.hid hQ'
 simp only [List.range,List.range.loop,List.map_cons,List.map_nil,e1,e4,e10,e11,e12,e13]
 simp only [uS7,uT7,uT6,uT5,uT4,uT3,uT1,uB,Try.f45,Option.getD_some]
 go_wp2
 go_loopw [13,34] (fun b v wr=>∃ (i:Nat) (LB TB:Nat→Nat),v=.int .i64 (i:Int)∧i≤n∧BxG B (wclo db ab nb mb) LA LN LC LB TB b i wr∧Below B x wr) (fun _ v _=>n+1 - natOfV v)
 case atStart=>exact ⟨0,fun _=>0,fun _=>0,rfl,by omega,⟨⟨by simp,.inl ⟨rfl,rfl⟩⟩,fun i hi=>absurd hi (by omega)⟩,.refl _ _⟩
 case round =>
  obtain ⟨i,LB,TB,rfl,hi,hbx,hb⟩:=hrel
  have hbs:=hb.size
  by_cases hlt:i < n
  ·obtain rfl:=hta (by omega)
   have g1:(i:Int) < (n:Int):=by omega
   have g0:(0:Int)≤(i:Int):=by omega
   have hcell:wr.cell? ⟨ba,bo+i,none⟩=some (.slice (LA i) (LN i) (LC i)):=(hb.cell (by rw [hB]; exact World.block_lt_of_cell? x _ (hc i hlt))).trans (hc i hlt)
   have wn:=World.new_ne wr _ hcell
   have hbl:=World.block_lt_of_cell? wr _ hcell
   have row:=hbx.row
   have hBs:B≤wr.heap.size:=by omega
   replace hbx:=Lib.hid hbx
   obtain ⟨S,hS⟩:∃ S,S=wr.heap.size:=⟨_,rfl⟩
   replace hS:=Lib.hid hS
   obtain ⟨w3,hw3⟩:∃ w3,w3=((wr.alloc (Obj.cells #[Value.int IntKind.i64 ↑i] 3)).alloc (Obj.cells #[Value.slice (LA i) (LN i) (LC i)] 32)).alloc (Obj.cells #[Value.func (Fn.func 81) #[] #[.pointer (some ⟨wr.heap.size+1,0,none⟩),.pointer (some ⟨db,0,none⟩),.pointer (some ⟨ab,0,none⟩),.pointer (some ⟨nb,0,none⟩),.pointer (some ⟨mb,0,none⟩),.pointer (some ⟨wr.heap.size,0,none⟩)]] 52):=⟨_,rfl⟩
   have row3:w3.ownsRow B 52 1 u13 i ((List.range i).map fun j=>wclo db ab nb mb (LB j) (TB j)):=by rw [hw3]; exact ((row.alloc _).alloc _).alloc _
   have s3:w3.heap.size=wr.heap.size+3:=by rw [hw3]; simp
   have hnews:∀ j u,[Value.func (Fn.func 81) #[] #[.pointer (some ⟨wr.heap.size+1,0,none⟩),.pointer (some ⟨db,0,none⟩),.pointer (some ⟨ab,0,none⟩),.pointer (some ⟨nb,0,none⟩),.pointer (some ⟨mb,0,none⟩),.pointer (some ⟨wr.heap.size,0,none⟩)]][j]?=some u→w3.cell? ((⟨wr.heap.size+1+1,0,none⟩:Addr).add j)=some u:=by
    rw [hw3]
    exact World.news_of_block (cs:=#[Value.func (Fn.func 81) #[] #[.pointer (some ⟨wr.heap.size+1,0,none⟩),.pointer (some ⟨db,0,none⟩),.pointer (some ⟨ab,0,none⟩),.pointer (some ⟨nb,0,none⟩),.pointer (some ⟨mb,0,none⟩),.pointer (some ⟨wr.heap.size,0,none⟩)]]) (by
     have e:((wr.alloc (Obj.cells #[Value.int IntKind.i64 ↑i] 3)).alloc (Obj.cells #[Value.slice (LA i) (LN i) (LC i)] 32)).heap.size=wr.heap.size+1+1:=by simp
     rw [← e]
     exact heap_alloc_new _ _)
   have b3:Below wr.heap.size wr w3:=by
    rw [hw3]
    exact (((Below.refl _ _).alloc (Nat.le_refl _) _).alloc (by simp) _).alloc (by simp; omega) _
   replace hw3:=Lib.hid hw3
   replace row:=Lib.hid row
   go_wp2_with (at_builtin; rw [← hw3.out]; refine wpList_append_lies _ rfl _ _ _ rfl B 52 i0 _ 1 8 Try.underlying53 hinf hz0 hz1 hz2 rfl (by decide) u13 i _ (by rfl) row3 ⟨wr.heap.size+1+1,0,none⟩ 1 1 [_] (by rfl) (by rfl) hnews (by intro u hu; simp at hu; subst hu; rfl) (by omega) (by unfold maxLen; omega) (by omega) (by omega) _ rfl ?_; intro gg cp w4 ho4 hgrow hat hlt4)
   have hnx:=bxg_next (ty:=32) (cv:=wclo db ab nb mb) hS.out hbx.out hBs hw3.out (by rw [hS.out]; rfl) ho4 hgrow hat
   have hb4:Below B x w4:=(hb.trans (b3.mono (by omega))).grown hgrow (by omega) (fun k hk=>(row3.lt k hk).1)
   replace hnx:=Lib.hid hnx
   clear ho4 hgrow hnews row3
   go_wp2
   exact ⟨⟨i+1,_,_,rfl,by omega,hnx.out,hb4⟩,by simp [natOfV]; omega⟩
  ·obtain rfl:i=n:=by omega
   have g1:¬ (i:Int) < (i:Int):=by omega
   replace hbx:=Lib.hid hbx
   go_wp2
   refine hQ'.out _ _ _ LB TB (by simp) (fun j hj=>?_) (by simp) hbx.out hb
   match j,hj with
   | 0,_ | 1,_ | 2,_ | 3,_ | 4,_ | 5,_ | 6,_ | 7,_ | 8,_ | 9,_ | 10,_ | 11,_ | 12,_=>simp [e1,e4,e10,e11,e12]
   | q+13,hq=>exact absurd hq (by omega)
end Go.Proofs.Ytimlbbleblijnaa.Co

namespace Go.Proofs.Ytimlbbleblijnaa.Co
open Go Go.Conc Go.RowKit
open Go.ConcN (sumTo upd sumTo_upd upd_ne upd_same sumTo_congr le_sumTo)
abbrev Tld:=Int × Int × Int × Int × Int
abbrev Tl3:=Int × Int × Int
def actT (c k:Int) (tl:Tl3):Tl3:=if c=2 then (0,0,0) else if c=3 then (tl.1,IntKind.i64.wrap (tl.2.1+1),tl.2.2) else if c=4 then (tl.1,tl.2.1,k) else tl
def actL (c:Int) (t:Nat) (k:Int) (tl:Tl3) (L:List Tld):List Tld:=if c=5 then L ++ [((t:Int),k,tl.1,tl.2.1,tl.2.2)] else L
structure RL where
 t:Nat
 i:Nat
 tl:Tl3
structure RSt where
 told:List Tld
 cnt:Nat→Nat
def actS (c:Int) (t:Nat) (k:Int) (tl:Tl3) (i:Nat) (s:RSt):RSt:=⟨actL c t k tl s.told,upd s.cnt t (i+1)⟩
inductive AdvR (ops:List Int) (t:Nat) (k:Int):Nat→Tl3→RSt→RSt × Option RL→Prop
 | stop {i tl s} (h:ops.length≤i):AdvR ops t k i tl s (s,none)
 | step {i tl s} (h:ops[i]?=some 1):AdvR ops t k i tl s (s,some ⟨t,i,tl⟩)
 | act {i tl s c z} (h:ops[i]?=some c) (hc:c≠1) (hz:AdvR ops t k (i+1) (actT c k tl) (actS c t k tl i s) z):AdvR ops t k i tl s z
theorem AdvR.who {ops:List Int} {t:Nat} {k:Int} {i:Nat} {tl:Tl3} {L:RSt} {z:RSt × Option RL} (h:AdvR ops t k i tl L z):∀ {s':RSt} {l':RL},z=(s',some l')→l'.t=t∧(L.cnt t=i→s'.cnt t=l'.i):=by
 induction h with
 | stop=>intro s' l' e; cases e
 | step=>intro s' l' e; cases e; exact ⟨rfl,id⟩
 | act _ _ _ ih=>exact fun e=>⟨(ih e).1,fun _=>(ih e).2 (upd_same ..)⟩
structure RT where
 la:Nat
 lo:Nat
 A:Option Addr
 cap:Nat
 ops:List Int
def opsR (L:List RT) (t:Nat):List Int:=((L[t]?).map (·.ops)).getD []
def tldV (m:Tld):List Value:=[.int .i64 m.1,.int .i64 m.2.1,.int .i64 m.2.2.1,.int .i64 m.2.2.2.1,.int .i64 m.2.2.2.2]
def tldsV (l:List Tld):List Value:=(l.map tldV).flatten
structure RunM (bb:Nat) (K:Nat→Obj→Prop) (L:List RT) (s:RSt) (E:Env) (w:World):Prop where
 bbH:E.H bb=none
 kobj:∀ b o,K b o→w.heap[b]?=some o∧E.H b=none∧b≠bb
 row:∃ mv,w.heap[bb]?=some (.cells #[mv] 63)∧w.ownsRow (bb+1) 117 5 mv s.told.length (tldsV s.told)∧∀ g,mv.ownBlock=some g→E.H g=none∧∀ b o,K b o→b≠g
 len:s.told.length≤sumTo L.length s.cnt
 cnt:∀ t,s.cnt t≤(opsR L t).length
theorem RunM.konst {bb:Nat} {K:Nat→Obj→Prop} {L:List RT} {s:RSt} {E:Env} {w:World} (m:RunM bb K L s E w) (a:Addr) (v:Value) (h:KC K a v):w.cell? a=some v∧E.H a.block=none∧a.block≠bb:=by
 obtain ⟨o,h1,h2⟩:=h
 obtain ⟨k1,k2,k3⟩:=m.kobj _ _ h1
 exact ⟨h2 w k1,k2,k3⟩
theorem RunM.move {bb:Nat} {K:Nat→Obj→Prop} {L:List RT} {s:RSt} {E E':Env} {w w':World} (m:RunM bb K L s E w) (hb:∀ b,b < w.heap.size→E.H b=none→E'.H b=none∧w'.heap[b]?=w.heap[b]?):RunM bb K L s E' w':=by
 obtain ⟨mv,r1,r2,r3⟩:=m.row
 have hl:=(Array.getElem?_eq_some_iff.1 r1).1
 refine ⟨(hb bb hl m.bbH).1,fun b o hk=>?_,⟨mv,by rw [(hb bb hl m.bbH).2]; exact r1,ownsRow_same r2 (fun g hg=>(hb g (r2.lt g hg).2 (r3 g hg).1).2),fun g hg=>⟨(hb g (r2.lt g hg).2 (r3 g hg).1).1,(r3 g hg).2⟩⟩,m.len,m.cnt⟩
 obtain ⟨k1,k2,k3⟩:=m.kobj b o hk
 have hl:=(Array.getElem?_eq_some_iff.1 k1).1
 exact ⟨(hb b hl k2).2.trans k1,(hb b hl k2).1,k3⟩
theorem RunM.still {bb j:Nat} {K:Nat→Obj→Prop} {L:List RT} {s:RSt} {E E':Env} {w w':World} (m:RunM bb K L s E w) (S:Still j E w E' w'):RunM bb K L s E' w' :=
 m.move fun b hb hn=>by
  obtain ⟨s1,s2⟩:=S.st b _ hn (Array.getElem?_eq_getElem hb)
  exact ⟨s1,by rw [s2,Array.getElem?_eq_getElem hb]⟩
theorem RunM.step {bb:Nat} {K:Nat→Obj→Prop} {L:List RT} {s:RSt} {E:Env} {w:World} (m:RunM bb K L s E w) {t i:Nat} (hi:s.cnt t=i) (hl:i < (opsR L t).length) (ht:t < L.length) {tl:List Tld} (e:tl=s.told):RunM bb K L ⟨tl,upd s.cnt t (i+1)⟩ E w:=by
 subst e
 refine ⟨m.bbH,m.kobj,m.row,?_,fun t'=>?_⟩
 ·have h1:=sumTo_upd s.cnt (i+1) (fun x=>x) (j:=L.length) (i:=t) ht
  have h2:=m.len
  have h3:sumTo L.length (fun a=>upd s.cnt t (i+1) a)=sumTo L.length (upd s.cnt t (i+1)):=rfl
  have h4:sumTo L.length (fun a=>s.cnt a)=sumTo L.length s.cnt:=rfl
  show s.told.length≤sumTo L.length (upd s.cnt t (i+1))
  omega
 ·show upd s.cnt t (i+1) t'≤_
  by_cases e:t'=t
  ·subst e
   rw [upd_same]; exact hl
  ·rw [upd_ne _ _ e]; exact m.cnt t'
noncomputable def dB:Code:=Try.f42.body.getD .skip
noncomputable def dH:Code:=match dB with | .seq _ (.block _ (.seq _ (.cond _ _ (.seq _ (.cond _ _ (.seq _ (.cond _ _ (.seq _ (.cond _ _ (.seq _ (.cond _ x _))))))))))) =>x | _=>.skip
section
variable {h rb bb:Nat} {home:Goroutine→Prop} {k:Int} {th:Th} {F:Machine→Trace→Prop} {E:Env} {w:World} {s:RSt} {K:Nat→Obj→Prop} {L:List RT} {tl:Tl3} {b₀:Frame} {a₀:Act} {ops₀:Array Oper} {i₀:Nat} {rest₀:List Nat} {k₀:List Item} {cl:List Frame} {tv:Int}
end
noncomputable def bB:Code:=Try.f78.body.getD .skip
noncomputable def bL:Code:=match bB with | .seq _ (.block _ (.loop c))=>c | _=>.skip
structure RegB (T:Array Value) (gp:Value) (tbx tb bbx i:Nat):Prop where
 sz:T.size=26
 t0:T[0]?=some gp
 t1:T[1]?=some (.pointer (some ⟨tbx,0,none⟩))
 t2:T[2]?=some (.pointer (some ⟨tb,0,none⟩))
 t3:T[3]?=some (.pointer (some ⟨bbx,0,none⟩))
 t5:T[5]?=some (.int .i64 (i:Int))
theorem RegB.up {T T':Array Value} {gp:Value} {tbx tb bbx i:Nat} (R:RegB T gp tbx tb bbx i) (hs:T'.size=26) (h:∀ j,j < 6→T'[j]?=T[j]?):RegB T' gp tbx tb bbx i :=
 ⟨hs,(h 0 (by decide)).trans R.t0,(h 1 (by decide)).trans R.t1,(h 2 (by decide)).trans R.t2,(h 3 (by decide)).trans R.t3,(h 5 (by decide)).trans R.t5⟩
section
variable {j:Nat} {F:Machine→Trace→Prop} {E:Env} {w:World} {T:Array Value} {gp:Value} {tbx tb bbx bb i t ba bo nn cp len cap la lo:Nat} {cs:List Frame} {c:Int}
end
end Go.Proofs.Ytimlbbleblijnaa.Co
