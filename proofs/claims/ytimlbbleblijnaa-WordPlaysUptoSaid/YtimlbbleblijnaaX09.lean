/- Lemmas for the laws of this seat, laid together of PGad, PGae, PGaf, PGag, PGah. -/
import Derived.Test.YtimlbbleblijnaaX08

open Go.ConcR.Gen (base_kind baseD_kind)
set_option linter.unusedVariables false
set_option linter.unusedSimpArgs false
set_option maxRecDepth 100000
set_option maxHeartbeats 4000000
namespace Go.Proofs.Ytimlbbleblijnaa.Co
open Go.Conc
open Go.ConcN (sumTo upd sumTo_upd upd_ne upd_same sumTo_congr le_sumTo)
theorem emptied_W {h b:Nat} {K:Env→World→Prop} (hKW:∀ E w,K E w→E.W b=true):∀ E w,Emptied h b K E w→E.W b=true:=fun E w ⟨E0,w0,k,e1,_⟩=>by
 have:E.W=E0.W:=e1.W'
 rw [this]; exact hKW _ _ k
open Go.Conc.Lib Go.ConcR.Gen in
set_option maxHeartbeats 8000000 in
theorem wait_round {P:Program} {L:WgLink} (H:WgLib P L) {h b:Nat} {K:Env→World→Prop} {F:Machine→Trace→Prop} (hKW:∀ E w,K E w→E.W b=true)
  {b₀:Frame} {a₀:Act} {ops₀:Array Oper} {i₀:Nat} {rest₀:List Nat} {k₀:List Item} {cs:List Frame}
  (hT:Holds P h 0 (Emptied h b K) F (G (b₀.at (a₀.put ((ops₀[i₀]?).bind (·.dst)) (.tuple #[])) (.inRegion ops₀ rest₀ :: k₀)) cs))
  (E:Env) (w0:World) (hW:E.W b=true) (hS:∀ a,E.S a→E.W a.block=false)
  (g:Goroutine) (w:World) (hA:AnchW L b E.W w0 (b₀.at a₀ (.inRegion ops₀ (i₀ :: rest₀) :: k₀)) cs g w) :
  GW P (h == 0) E.W E.D (AtW1 P (h == 0) E.W E.D b (FinW P h b K F E.W w0) (AnchW L b E.W w0 (b₀.at a₀ (.inRegion ops₀ (i₀ :: rest₀) :: k₀)) cs)) g w:=by
 lib_facts
 have hKe:∀ E w,Emptied h b K E w→E.W b=true:=emptied_W hKW
 have hB:Bears h (Emptied h b K):=Emptied.bears
 have hconv:∀ w st sm,GroupAt b w st sm→(∀ es,(convert L.tWgP L.tUP (.pointer (some (stZ b)))).events P w es=es)∧(convert L.tWgP L.tUP (.pointer (some (stZ b)))).run P w=.ok (.pointer (some (stZ b))) w:=fun w st sm hG =>
  ⟨fun es=>events_convert_to_unsafe (P:=P) H.underlying_tWgP H.underlying_tUP H.room_tWg hG.st es,run_convert_to_unsafe (P:=P) H.underlying_tWgP H.underlying_tUP H.room_tWg hG.st⟩
 obtain ⟨T,rfl,hT84,t0,hL,hAw⟩:=hA
 obtain ⟨v0,v1,v2,v3,v4,v5,v6,v7,v8,v9,v10,v11,v12,v13,v14,v15,v16,v17,v18,v19,v20,v21,v22,v23,v24,v25,v26,v27,v28,v29,v30,v31,v32,v33,v34,v35,v36,v37,v38,v39,v40,v41,v42,v43,v44,v45,v46,v47,v48,v49,v50,v51,v52,v53,v54,v55,v56,v57,v58,v59,v60,v61,v62,v63,v64,v65,v66,v67,v68,v69,v70,v71,v72,v73,v74,v75,v76,v77,v78,v79,v80,v81,v82,v83,rfl⟩:=array84 T hT84
 simp only [List.getElem?_toArray,List.getElem?_cons_zero,Option.some.injEq] at t0
 subst t0
 simp only [L7,body_wait,waitFn,Option.getD_some]
 change GWn P (h == 0) E.W E.D _ w 100 _
 refine Idl.step (idl_gw P (h == 0) E _ w) _ _ _ rfl (fun _=>stepG_block) ?_
 refine Idl.step (idl_gw P (h == 0) E _ w) _ _ _ rfl (fun _=>stepG_seq) ?_
 refine Idl.step (idl_gw P (h == 0) E _ w) _ _ _ rfl (fun _=>stepG_region) ?_
 simp only [List.size_toArray,List.length_cons,List.length_nil,Nat.reduceAdd,Nat.zero_add,List.range,List.range.loop]
 iterate 3 (refine Idl.v (idl_gw P (h == 0) E _ w) ?_; walk_nrm)
 refine Idl.call (idl_gw P (h == 0) E _ w) rfl rfl (by first | decide | exact base_kind _ | exact baseD_kind _ | assumption) rfl H.f_uLoad (nm_uLoad L) rfl ?_
 walk_nrmf uLoadFn
 refine Idl.step (idl_gw P (h == 0) E _ w) _ _ _ rfl (fun _=>stepG_seq) ?_
 refine Idl.step (idl_gw P (h == 0) E _ w) _ _ _ rfl (fun _=>stepG_region) ?_
 simp only [List.size_toArray,List.length_cons,List.length_nil,Nat.reduceAdd,Nat.zero_add,List.range,List.range.loop]
 refine Idl.v (idl_gw P (h == 0) E _ w) ?_
 walk_nrm
 refine Idl.step (idl_gw P (h == 0) E _ w) _ _ _ rfl (fun _=>stepG_region_end) ?_
 refine Idl.step (idl_gw P (h == 0) E _ w) _ _ _ rfl (fun _=>stepG_seq) ?_
 refine Idl.step (idl_gw P (h == 0) E _ w) _ _ _ rfl (fun _=>stepG_region) ?_
 simp only [List.size_toArray,List.length_cons,List.length_nil,Nat.reduceAdd,Nat.zero_add,List.range,List.range.loop]
 iterate 3 (refine Idl.v (idl_gw P (h == 0) E _ w) ?_; walk_nrm)
 refine GoesW.stop (fun w₁ h₁=>?_)
 have hL1:=aw_live hW h₁ hL
 have hA1:=hAw.trans _ _ _ h₁
 clear hL hAw h₁
 refine ⟨rfl,fun v hv hw=>?_⟩
 rcases Nat.eq_zero_or_pos v with rfl | hvp
 ·refine ⟨_,stepG_load_atomic (v:=0) rfl rfl (by k_ne) rfl H.f_loadU64 (x_loadU64_n L) (x_loadU64_b L) (x_loadU64_x L) .u64 (x_loadU64_f L) rfl (by simpa using hw.st),fun _=>GoesW.stop (fun w₂ h₂=>⟨hA1.trans _ _ _ h₂,?_⟩),fun h=>absurd rfl h⟩
  clear hw hL1 hA1
  walk_nrm
  change HoldN P h 1 (Emptied h b K) F 100 _
  refine Idl.v (idl_holdN hB 1) ?_
  walk_nrm
  refine Idl.step (idl_holdN hB 1) _ _ _ rfl (fun _=>stepG_region_end) ?_
  refine Idl.step (idl_holdN hB 1) _ _ _ rfl (fun _=>stepG_ret') ?_
  refine Idl.leave1 (idl_holdN hB 1) rfl rfl H.f_uLoad rfl ?_
  walk_nrm
  refine Idl.v (idl_holdN hB 1) ?_
  walk_nrm
  refine Idl.step (idl_holdN hB 1) _ _ _ rfl (fun _=>stepG_region_end) ?_
  refine Idl.step (idl_holdN hB 1) _ _ _ rfl (fun _=>stepG_seq) ?_
  refine Idl.step (idl_holdN hB 1) _ _ _ rfl (fun _=>stepG_region) ?_
  simp only [List.size_toArray,List.length_cons,List.length_nil,Nat.reduceAdd,Nat.zero_add,List.range,List.range.loop]
  iterate 4 (refine Idl.v (idl_holdN hB 1) ?_; walk_nrm)
  refine Idl.step (idl_holdN hB 1) _ _ _ rfl (fun _=>stepG_region_end) ?_
  refine Idl.step (idl_holdN hB 1) _ _ _ rfl (fun _=>stepG_seq) ?_
  refine Idl.step (idl_holdN hB 1) _ _ _ rfl (fun _=>stepG_region) ?_
  simp only [List.size_toArray,List.length_cons,List.length_nil,Nat.reduceAdd,Nat.zero_add,List.range,List.range.loop]
  iterate 4 (refine Idl.v (idl_holdN hB 1) ?_; walk_nrm)
  refine Idl.step (idl_holdN hB 1) _ _ _ rfl (fun _=>stepG_region_end) ?_
  refine Idl.step (idl_holdN hB 1) _ _ _ rfl (fun _=>stepG_seq) ?_
  refine Idl.step (idl_holdN hB 1) _ _ _ rfl (fun _=>stepG_seq) ?_
  refine Idl.step (idl_holdN hB 1) _ _ _ rfl (fun _=>stepG_region) ?_
  simp only [List.size_toArray,List.length_cons,List.length_nil,Nat.reduceAdd,Nat.zero_add,List.range,List.range.loop]
  iterate 2 (refine Idl.v (idl_holdN hB 1) ?_; walk_nrm)
  refine Idl.step (idl_holdN hB 1) _ _ _ rfl (fun _=>stepG_region_end) ?_
  refine Idl.cond (idl_holdN hB 1) true rfl ?_
  simp only [if_true,if_false,Bool.false_eq_true,↓reduceIte]
  refine Idl.step (idl_holdN hB 1) _ _ _ rfl (fun _=>stepG_seq) ?_
  refine Idl.cond (idl_holdN hB 1) true rfl ?_
  simp only [if_true,if_false,Bool.false_eq_true,↓reduceIte]
  refine Idl.step (idl_holdN hB 1) _ _ _ rfl (fun _=>stepG_seq) ?_
  refine Idl.step (idl_holdN hB 1) _ _ _ rfl (fun _=>stepG_region) ?_
  simp only [List.size_toArray,List.length_cons,List.length_nil,Nat.reduceAdd,Nat.zero_add,List.range,List.range.loop]
  refine holds_mark hB (d':=0) .enable (.inr ⟨rfl,rfl⟩) rfl (fun w=>stepG_mark0 .enable (by simp) rfl rfl (by k_ne) rfl H.f_enable (x_enable_n L) (x_enable_b L) (x_enable_x L) (x_enable_f L)) ?_
  walk_nrm
  change HoldN P h 0 (Emptied h b K) F 60 _
  refine Idl.step (idl_holdN hB 0) _ _ _ rfl (fun _=>stepG_region_end) ?_
  refine Idl.step (idl_holdN hB 0) _ _ _ rfl (fun _=>stepG_region) ?_
  simp only [List.size_toArray,List.length_cons,List.length_nil,Nat.reduceAdd,Nat.zero_add,List.range,List.range.loop]
  refine Idl.v (idl_holdN hB 0) ?_
  walk_nrm
  refine holds_live hB hKe (.pointer (some (stZ b))) rfl rfl (by k_ne) (fun w st sm hG=>?_) ?_
  ·obtain ⟨hce,hcv⟩:=hconv w st sm hG
   exact ⟨by go_simp,by simp [go_sem,hce]⟩
  walk_nrm
  refine holds_acq hB hKe rfl (fun w=>stepG_markAt .acquire (by simp) rfl rfl (by k_ne) rfl H.f_acquire (x_acquire_n L) (x_acquire_b L) (x_acquire_x L) (x_acquire_f L) (by simp [Act.eval])) ?_
  walk_nrm
  change HoldN P h 0 (Emptied h b K) F 60 _
  refine Idl.step (idl_holdN hB 0) _ _ _ rfl (fun _=>stepG_region_end) ?_
  refine Idl.step (idl_holdN hB 0) _ _ _ rfl (fun _=>stepG_seq) ?_
  refine Idl.step (idl_holdN hB 0) _ _ _ rfl (fun _=>stepG_seq) ?_
  refine Idl.step (idl_holdN hB 0) _ _ _ rfl (fun _=>stepG_region) ?_
  simp only [List.size_toArray,List.length_cons,List.length_nil,Nat.reduceAdd,Nat.zero_add,List.range,List.range.loop]
  iterate 8 (refine Idl.v (idl_holdN hB 0) ?_; walk_nrm)
  refine Idl.unwanted (idl_holdN hB 0) rfl rfl ?_
  walk_nrm
  refine Idl.unwanted (idl_holdN hB 0) rfl rfl ?_
  walk_nrm
  refine Idl.v (idl_holdN hB 0) ?_
  walk_nrm
  refine Idl.step (idl_holdN hB 0) _ _ _ rfl (fun _=>stepG_region_end) ?_
  refine Idl.cond (idl_holdN hB 0) false rfl ?_
  simp only [if_true,if_false,Bool.false_eq_true,↓reduceIte]
  refine Idl.step (idl_holdN hB 0) _ _ _ rfl (fun _=>stepG_skip) ?_
  refine Idl.step (idl_holdN hB 0) _ _ _ rfl (fun _=>stepG_ret') ?_
  refine Idl.leave0 (n:=1) (idl_holdN hB 0) rfl rfl H.f_wait rfl ?_
  exact hT
 ·obtain ⟨S,hSS⟩:∃ S:Int,(v:Int) * KK=S:=⟨_,rfl⟩
  have a1:S / 4294967296=(v:Int):=by rw [← hSS]; simp only [KK]; omega
  have b1:bits .and .u64 S 2147483648=0:=by rw [← hSS]; have:=Go.ConcN.st_flag v 0 (by omega) (by omega); simpa [KK] using this
  have b2:bits .and .u64 S 2147483647=0:=by rw [← hSS]; have:=Go.ConcN.st_waiters v 0 (by omega) (by omega); simpa [KK] using this
  have c1:IntKind.i32.wrap (v:Int)=(v:Int):=by rw [IntKind.wrap_i32]; omega
  have w1:IntKind.u64.wrap (S+1)=S+1:=by rw [IntKind.wrap_u64,← hSS]; simp only [KK]; omega
  have q3:decide ((v:Int) < 0)=false:=decide_eq_false (by omega)
  have q4:decide (0 < (v:Int))=true:=decide_eq_true (by omega)
  have q5:((v:Int) == 0)=false:=by simp; omega
  have q6:decide ((v:Int)=0)=false:=decide_eq_false (by omega)
  rw [hSS] at hw
  refine ⟨_,stepG_load_atomic (v:=S) rfl rfl (by k_ne) rfl H.f_loadU64 (x_loadU64_n L) (x_loadU64_b L) (x_loadU64_x L) .u64 (x_loadU64_f L) rfl hw.st,fun h0=>absurd h0 (by omega),fun _=>?_⟩
  clear hw
  replace hSS:=Lib.hid hSS
  walk_nrm
  change GWn P (h == 0) E.W E.D _ w₁ 100 _
  refine Idl.v (idl_gw P (h == 0) E _ w₁) ?_
  walk_nrm
  refine Idl.step (idl_gw P (h == 0) E _ w₁) _ _ _ rfl (fun _=>stepG_region_end) ?_
  refine Idl.step (idl_gw P (h == 0) E _ w₁) _ _ _ rfl (fun _=>stepG_ret') ?_
  refine Idl.leave1 (idl_gw P (h == 0) E _ w₁) rfl rfl H.f_uLoad rfl ?_
  walk_nrm
  refine Idl.v (idl_gw P (h == 0) E _ w₁) ?_
  walk_nrm
  refine Idl.step (idl_gw P (h == 0) E _ w₁) _ _ _ rfl (fun _=>stepG_region_end) ?_
  refine Idl.step (idl_gw P (h == 0) E _ w₁) _ _ _ rfl (fun _=>stepG_seq) ?_
  refine Idl.step (idl_gw P (h == 0) E _ w₁) _ _ _ rfl (fun _=>stepG_region) ?_
  simp only [List.size_toArray,List.length_cons,List.length_nil,Nat.reduceAdd,Nat.zero_add,List.range,List.range.loop]
  iterate 4 (refine Idl.v (idl_gw P (h == 0) E _ w₁) ?_; walk_nrm)
  refine Idl.step (idl_gw P (h == 0) E _ w₁) _ _ _ rfl (fun _=>stepG_region_end) ?_
  refine Idl.step (idl_gw P (h == 0) E _ w₁) _ _ _ rfl (fun _=>stepG_seq) ?_
  refine Idl.step (idl_gw P (h == 0) E _ w₁) _ _ _ rfl (fun _=>stepG_region) ?_
  simp only [List.size_toArray,List.length_cons,List.length_nil,Nat.reduceAdd,Nat.zero_add,List.range,List.range.loop]
  iterate 4 (refine Idl.v (idl_gw P (h == 0) E _ w₁) ?_; walk_nrm)
  refine Idl.step (idl_gw P (h == 0) E _ w₁) _ _ _ rfl (fun _=>stepG_region_end) ?_
  refine Idl.step (idl_gw P (h == 0) E _ w₁) _ _ _ rfl (fun _=>stepG_seq) ?_
  refine Idl.step (idl_gw P (h == 0) E _ w₁) _ _ _ rfl (fun _=>stepG_seq) ?_
  refine Idl.step (idl_gw P (h == 0) E _ w₁) _ _ _ rfl (fun _=>stepG_region) ?_
  simp only [List.size_toArray,List.length_cons,List.length_nil,Nat.reduceAdd,Nat.zero_add,List.range,List.range.loop]
  iterate 2 (refine Idl.v (idl_gw P (h == 0) E _ w₁) ?_; walk_nrm)
  refine Idl.step (idl_gw P (h == 0) E _ w₁) _ _ _ rfl (fun _=>stepG_region_end) ?_
  refine Idl.cond (idl_gw P (h == 0) E _ w₁) false rfl ?_
  simp only [if_true,if_false,Bool.false_eq_true,↓reduceIte]
  refine Idl.step (idl_gw P (h == 0) E _ w₁) _ _ _ rfl (fun _=>stepG_skip) ?_
  refine Idl.step (idl_gw P (h == 0) E _ w₁) _ _ _ rfl (fun _=>stepG_seq) ?_
  refine Idl.step (idl_gw P (h == 0) E _ w₁) _ _ _ rfl (fun _=>stepG_region) ?_
  simp only [List.size_toArray,List.length_cons,List.length_nil,Nat.reduceAdd,Nat.zero_add,List.range,List.range.loop]
  iterate 6 (refine Idl.v (idl_gw P (h == 0) E _ w₁) ?_; walk_nrm)
  refine Idl.call (idl_gw P (h == 0) E _ w₁) rfl rfl (by first | decide | exact base_kind _ | exact baseD_kind _ | assumption) rfl H.f_uCas (nm_uCas L) rfl ?_
  walk_nrmf uCasFn
  refine Idl.step (idl_gw P (h == 0) E _ w₁) _ _ _ rfl (fun _=>stepG_seq) ?_
  refine Idl.step (idl_gw P (h == 0) E _ w₁) _ _ _ rfl (fun _=>stepG_region) ?_
  simp only [List.size_toArray,List.length_cons,List.length_nil,Nat.reduceAdd,Nat.zero_add,List.range,List.range.loop]
  refine Idl.v (idl_gw P (h == 0) E _ w₁) ?_
  walk_nrm
  refine Idl.step (idl_gw P (h == 0) E _ w₁) _ _ _ rfl (fun _=>stepG_region_end) ?_
  refine Idl.step (idl_gw P (h == 0) E _ w₁) _ _ _ rfl (fun _=>stepG_seq) ?_
  refine Idl.step (idl_gw P (h == 0) E _ w₁) _ _ _ rfl (fun _=>stepG_region) ?_
  simp only [List.size_toArray,List.length_cons,List.length_nil,Nat.reduceAdd,Nat.zero_add,List.range,List.range.loop]
  iterate 5 (refine Idl.v (idl_gw P (h == 0) E _ w₁) ?_; walk_nrm)
  refine GoesW.stop (fun w₂ h₂=>?_)
  have hL2:=aw_live hW h₂ hL1
  have hA2:=hA1.trans _ _ _ h₂
  clear hL1 hA1 h₂
  refine ⟨rfl,fun v' hv' hw=>⟨fun e=>?_,fun e=>?_⟩⟩
  ·subst e
   rw [hSS.out] at hw ⊢
   refine ⟨_,(stepG_cas_hit (v:=S) (n:=S+1) rfl rfl (by k_ne) rfl H.f_casU64 (x_casU64_n L) (x_casU64_b L) (x_casU64_x L) .u64 (x_casU64_f L) rfl rfl rfl hw.st (hw.thaw 1)).trans (by rfl),?_⟩
   obtain ⟨w₃,hw3⟩:∃ w₃,w₃=w₂.setCell (stZ b) (.int .u64 (S+1)):=⟨_,rfl⟩
   have hAs:Aw E.W w₂ w₃:=by rw [hw3]; exact aw_set hw hW _ (.inl ⟨rfl,_,rfl⟩)
   have hL3:=aw_live hW hAs hL2
   have hA3:=hA2.trans _ _ _ hAs
   rw [← hw3]
   clear hw hL2 hA2 hAs hw3
   walk_nrm
   change GWn P (h == 0) E.W E.D _ w₃ 100 _
   refine Idl.v (idl_gw P (h == 0) E _ w₃) ?_
   walk_nrm
   refine Idl.step (idl_gw P (h == 0) E _ w₃) _ _ _ rfl (fun _=>stepG_region_end) ?_
   refine Idl.step (idl_gw P (h == 0) E _ w₃) _ _ _ rfl (fun _=>stepG_ret') ?_
   refine Idl.leave1 (idl_gw P (h == 0) E _ w₃) rfl rfl H.f_uCas rfl ?_
   walk_nrm
   refine Idl.step (idl_gw P (h == 0) E _ w₃) _ _ _ rfl (fun _=>stepG_region_end) ?_
   refine Idl.cond (idl_gw P (h == 0) E _ w₃) true rfl ?_
   simp only [if_true,if_false,Bool.false_eq_true,↓reduceIte]
   refine Idl.step (idl_gw P (h == 0) E _ w₃) _ _ _ rfl (fun _=>stepG_seq) ?_
   refine Idl.step (idl_gw P (h == 0) E _ w₃) _ _ _ rfl (fun _=>stepG_seq) ?_
   refine Idl.step (idl_gw P (h == 0) E _ w₃) _ _ _ rfl (fun _=>stepG_region) ?_
   simp only [List.size_toArray,List.length_cons,List.length_nil,Nat.reduceAdd,Nat.zero_add,List.range,List.range.loop]
   iterate 4 (refine Idl.v (idl_gw P (h == 0) E _ w₃) ?_; walk_nrm)
   refine Idl.step (idl_gw P (h == 0) E _ w₃) _ _ _ rfl (fun _=>stepG_region_end) ?_
   refine Idl.cond (idl_gw P (h == 0) E _ w₃) true rfl ?_
   simp only [if_true,if_false,Bool.false_eq_true,↓reduceIte]
   refine Idl.step (idl_gw P (h == 0) E _ w₃) _ _ _ rfl (fun _=>stepG_region) ?_
   simp only [List.size_toArray,List.length_cons,List.length_nil,Nat.reduceAdd,Nat.zero_add,List.range,List.range.loop]
   iterate 3 (refine Idl.v (idl_gw P (h == 0) E _ w₃) ?_; walk_nrm)
   refine gw_live (n:=50) hW hL3 (.pointer (some (smZ b))) rfl rfl (by k_ne) (fun w st sm hG=>?_) ?_
   ·have hcv:(convert L.tPU32 L.tUP (.pointer (some { block:=(stZ b).block,off:=(stZ b).off+1 }))).run P w=.ok (.pointer (some (smZ b))) w:=run_convert_to_unsafe (P:=P) (a:=smZ b) H.underlying_tPU32 H.underlying_tUP H.room_tU32 hG.sm
    have hce:∀ es,(convert L.tPU32 L.tUP (.pointer (some { block:=(stZ b).block,off:=(stZ b).off+1 }))).events P w es=es:=fun es=>events_convert_to_unsafe (P:=P) (a:=smZ b) H.underlying_tPU32 H.underlying_tUP H.room_tU32 hG.sm es
    exact ⟨by go_simp,by simp [go_sem,hce]⟩
   walk_nrm
   refine gw_said (n:=50) (b:=b) hL3 hW hS rfl (fun w=>stepG_markAt .write (by simp) rfl rfl (by k_ne) rfl H.f_raceWrite (x_raceWrite_n L) (x_raceWrite_b L) (x_raceWrite_x L) (x_raceWrite_f L) (by simp [Act.eval])) ?_
   walk_nrm
   refine Idl.step (idl_gw P (h == 0) E _ w₃) _ _ _ rfl (fun _=>stepG_region_end) ?_
   refine Idl.step (idl_gw P (h == 0) E _ w₃) _ _ _ rfl (fun _=>stepG_seq) ?_
   refine Idl.step (idl_gw P (h == 0) E _ w₃) _ _ _ rfl (fun _=>stepG_region) ?_
   simp only [List.size_toArray,List.length_cons,List.length_nil,Nat.reduceAdd,Nat.zero_add,List.range,List.range.loop]
   refine Idl.v (idl_gw P (h == 0) E _ w₃) ?_
   walk_nrm
   refine Idl.step (idl_gw P (h == 0) E _ w₃) _ _ _ rfl (fun _=>stepG_region_end) ?_
   refine Idl.step (idl_gw P (h == 0) E _ w₃) _ _ _ rfl (fun _=>stepG_seq) ?_
   refine Idl.step (idl_gw P (h == 0) E _ w₃) _ _ _ rfl (fun _=>stepG_seq) ?_
   refine Idl.step (idl_gw P (h == 0) E _ w₃) _ _ _ rfl (fun _=>stepG_region) ?_
   simp only [List.size_toArray,List.length_cons,List.length_nil,Nat.reduceAdd,Nat.zero_add,List.range,List.range.loop]
   iterate 4 (refine Idl.v (idl_gw P (h == 0) E _ w₃) ?_; walk_nrm)
   refine Idl.unwanted (idl_gw P (h == 0) E _ w₃) rfl rfl ?_
   walk_nrm
   refine Idl.v (idl_gw P (h == 0) E _ w₃) ?_
   walk_nrm
   refine Idl.step (idl_gw P (h == 0) E _ w₃) _ _ _ rfl (fun _=>stepG_region_end) ?_
   refine Idl.cond (idl_gw P (h == 0) E _ w₃) false rfl ?_
   simp only [if_true,if_false,Bool.false_eq_true,↓reduceIte]
   refine Idl.step (idl_gw P (h == 0) E _ w₃) _ _ _ rfl (fun _=>stepG_skip) ?_
   refine Idl.step (idl_gw P (h == 0) E _ w₃) _ _ _ rfl (fun _=>stepG_seq) ?_
   refine Idl.step (idl_gw P (h == 0) E _ w₃) _ _ _ rfl (fun _=>stepG_region) ?_
   simp only [List.size_toArray,List.length_cons,List.length_nil,Nat.reduceAdd,Nat.zero_add,List.range,List.range.loop]
   iterate 4 (refine Idl.v (idl_gw P (h == 0) E _ w₃) ?_; walk_nrm)
   refine GoesW.stop (fun w₄ h₄=>?_)
   have hL4:=aw_live hW h₄ hL3
   have hA4:=hA3.trans _ _ _ h₄
   clear hL3 hA3 h₄
   refine ⟨rfl,rfl,fun ⟨st,hw⟩=>stepG_semacquire_wait rfl rfl rfl H.f_semacquire (x_semacquire_n L) (x_semacquire_b L) (x_semacquire_x L) (x_semacquire_f L) (ad:=smZ b) (by simp [Act.eval,smZ,stZ]) hw.sm,fun hf=>?_⟩
   refine ⟨_,(stepG_semacquire (n:=1) rfl rfl (by k_ne) rfl H.f_semacquire (x_semacquire_n L) (x_semacquire_b L) (x_semacquire_x L) (x_semacquire_f L) (ad:=smZ b) (by simp [Act.eval,smZ,stZ]) hf.sm (by k_ne) (hf.thaw 2)).trans (by rfl),?_⟩
   obtain ⟨w₅,hw5⟩:∃ w₅,w₅=w₄.setCell (smZ b) (.int .u32 0):=⟨_,rfl⟩
   have hAs:Aw E.W w₄ w₅:=by rw [hw5]; exact aw_set hf hW _ (.inr ⟨rfl,_,rfl⟩)
   have hL5:=aw_live hW hAs hL4
   have hA5:=hA4.trans _ _ _ hAs
   rw [← hw5]
   clear hf hL4 hA4 hAs hw5
   walk_nrm
   change GWn P (h == 0) E.W E.D _ w₅ 100 _
   refine Idl.step (idl_gw P (h == 0) E _ w₅) _ _ _ rfl (fun _=>stepG_region_end) ?_
   refine Idl.step (idl_gw P (h == 0) E _ w₅) _ _ _ rfl (fun _=>stepG_seq) ?_
   refine Idl.step (idl_gw P (h == 0) E _ w₅) _ _ _ rfl (fun _=>stepG_region) ?_
   simp only [List.size_toArray,List.length_cons,List.length_nil,Nat.reduceAdd,Nat.zero_add,List.range,List.range.loop]
   iterate 3 (refine Idl.v (idl_gw P (h == 0) E _ w₅) ?_; walk_nrm)
   refine Idl.call (idl_gw P (h == 0) E _ w₅) rfl rfl (by first | decide | exact base_kind _ | exact baseD_kind _ | assumption) rfl H.f_uLoad (nm_uLoad L) rfl ?_
   walk_nrmf uLoadFn
   refine Idl.step (idl_gw P (h == 0) E _ w₅) _ _ _ rfl (fun _=>stepG_seq) ?_
   refine Idl.step (idl_gw P (h == 0) E _ w₅) _ _ _ rfl (fun _=>stepG_region) ?_
   simp only [List.size_toArray,List.length_cons,List.length_nil,Nat.reduceAdd,Nat.zero_add,List.range,List.range.loop]
   refine Idl.v (idl_gw P (h == 0) E _ w₅) ?_
   walk_nrm
   refine Idl.step (idl_gw P (h == 0) E _ w₅) _ _ _ rfl (fun _=>stepG_region_end) ?_
   refine Idl.step (idl_gw P (h == 0) E _ w₅) _ _ _ rfl (fun _=>stepG_seq) ?_
   refine Idl.step (idl_gw P (h == 0) E _ w₅) _ _ _ rfl (fun _=>stepG_region) ?_
   simp only [List.size_toArray,List.length_cons,List.length_nil,Nat.reduceAdd,Nat.zero_add,List.range,List.range.loop]
   iterate 3 (refine Idl.v (idl_gw P (h == 0) E _ w₅) ?_; walk_nrm)
   refine GoesW.stop (fun w₆ h₆=>?_)
   have hA6:=hA5.trans _ _ _ h₆
   clear hL5 hA5 h₆
   refine ⟨rfl,fun hw=>⟨_,stepG_load_atomic (v:=0) rfl rfl (by k_ne) rfl H.f_loadU64 (x_loadU64_n L) (x_loadU64_b L) (x_loadU64_x L) .u64 (x_loadU64_f L) rfl hw.st,GoesW.stop (fun w₇ h₇=>⟨hA6.trans _ _ _ h₇,?_⟩)⟩⟩
   clear hw
   walk_nrm
   change HoldN P h 1 (Emptied h b K) F 100 _
   refine Idl.v (idl_holdN hB 1) ?_
   walk_nrm
   refine Idl.step (idl_holdN hB 1) _ _ _ rfl (fun _=>stepG_region_end) ?_
   refine Idl.step (idl_holdN hB 1) _ _ _ rfl (fun _=>stepG_ret') ?_
   refine Idl.leave1 (idl_holdN hB 1) rfl rfl H.f_uLoad rfl ?_
   walk_nrm
   iterate 2 (refine Idl.v (idl_holdN hB 1) ?_; walk_nrm)
   refine Idl.step (idl_holdN hB 1) _ _ _ rfl (fun _=>stepG_region_end) ?_
   refine Idl.step (idl_holdN hB 1) _ _ _ rfl (fun _=>stepG_seq) ?_
   refine Idl.cond (idl_holdN hB 1) true rfl ?_
   simp only [if_true,if_false,Bool.false_eq_true,↓reduceIte]
   refine Idl.step (idl_holdN hB 1) _ _ _ rfl (fun _=>stepG_seq) ?_
   refine Idl.step (idl_holdN hB 1) _ _ _ rfl (fun _=>stepG_region) ?_
   simp only [List.size_toArray,List.length_cons,List.length_nil,Nat.reduceAdd,Nat.zero_add,List.range,List.range.loop]
   refine holds_mark hB (d':=0) .enable (.inr ⟨rfl,rfl⟩) rfl (fun w=>stepG_mark0 .enable (by simp) rfl rfl (by k_ne) rfl H.f_enable (x_enable_n L) (x_enable_b L) (x_enable_x L) (x_enable_f L)) ?_
   walk_nrm
   change HoldN P h 0 (Emptied h b K) F 60 _
   refine Idl.step (idl_holdN hB 0) _ _ _ rfl (fun _=>stepG_region_end) ?_
   refine Idl.step (idl_holdN hB 0) _ _ _ rfl (fun _=>stepG_region) ?_
   simp only [List.size_toArray,List.length_cons,List.length_nil,Nat.reduceAdd,Nat.zero_add,List.range,List.range.loop]
   refine Idl.v (idl_holdN hB 0) ?_
   walk_nrm
   refine holds_live hB hKe (.pointer (some (stZ b))) rfl rfl (by k_ne) (fun w st sm hG=>?_) ?_
   ·obtain ⟨hce,hcv⟩:=hconv w st sm hG
    exact ⟨by go_simp,by simp [go_sem,hce]⟩
   walk_nrm
   refine holds_acq hB hKe rfl (fun w=>stepG_markAt .acquire (by simp) rfl rfl (by k_ne) rfl H.f_acquire (x_acquire_n L) (x_acquire_b L) (x_acquire_x L) (x_acquire_f L) (by simp [Act.eval])) ?_
   walk_nrm
   change HoldN P h 0 (Emptied h b K) F 60 _
   refine Idl.step (idl_holdN hB 0) _ _ _ rfl (fun _=>stepG_region_end) ?_
   refine Idl.step (idl_holdN hB 0) _ _ _ rfl (fun _=>stepG_seq) ?_
   refine Idl.step (idl_holdN hB 0) _ _ _ rfl (fun _=>stepG_seq) ?_
   refine Idl.step (idl_holdN hB 0) _ _ _ rfl (fun _=>stepG_region) ?_
   simp only [List.size_toArray,List.length_cons,List.length_nil,Nat.reduceAdd,Nat.zero_add,List.range,List.range.loop]
   refine Idl.v (idl_holdN hB 0) ?_
   walk_nrm
   refine Idl.step (idl_holdN hB 0) _ _ _ rfl (fun _=>stepG_region_end) ?_
   refine Idl.cond (idl_holdN hB 0) false rfl ?_
   simp only [if_true,if_false,Bool.false_eq_true,↓reduceIte]
   refine Idl.step (idl_holdN hB 0) _ _ _ rfl (fun _=>stepG_skip) ?_
   refine Idl.step (idl_holdN hB 0) _ _ _ rfl (fun _=>stepG_ret') ?_
   refine Idl.leave0 (n:=1) (idl_holdN hB 0) rfl rfl H.f_wait rfl ?_
   exact hT
  ·refine ⟨_,stepG_cas_miss (v:=(v':Int) * KK) (old:=S) (n:=S+1) rfl rfl (by k_ne) rfl H.f_casU64 (x_casU64_n L) (x_casU64_b L) (x_casU64_x L) .u64 (x_casU64_f L) rfl rfl rfl hw.st (hw.thaw 1) (by rw [← hSS.out]; simp only [KK]; omega),?_⟩
   clear hw
   walk_nrm
   change GWn P (h == 0) E.W E.D _ w₂ 100 _
   refine Idl.v (idl_gw P (h == 0) E _ w₂) ?_
   walk_nrm
   refine Idl.step (idl_gw P (h == 0) E _ w₂) _ _ _ rfl (fun _=>stepG_region_end) ?_
   refine Idl.step (idl_gw P (h == 0) E _ w₂) _ _ _ rfl (fun _=>stepG_ret') ?_
   refine Idl.leave1 (idl_gw P (h == 0) E _ w₂) rfl rfl H.f_uCas rfl ?_
   walk_nrm
   refine Idl.step (idl_gw P (h == 0) E _ w₂) _ _ _ rfl (fun _=>stepG_region_end) ?_
   refine Idl.cond (idl_gw P (h == 0) E _ w₂) false rfl ?_
   simp only [if_true,if_false,Bool.false_eq_true,↓reduceIte]
   refine Idl.step (idl_gw P (h == 0) E _ w₂) _ _ _ rfl (fun _=>stepG_skip) ?_
   refine Idl.step (idl_gw P (h == 0) E _ w₂) _ _ _ rfl (fun _=>stepG_inBlock) ?_
   refine Idl.step (idl_gw P (h == 0) E _ w₂) _ _ _ rfl (fun _=>stepG_inLoop) ?_
   exact GoesW.stop (fun w₃ h₃=>⟨_,rfl,by simp,by simp,aw_live hW h₃ hL2,hA2.trans _ _ _ h₃⟩)
end Go.Proofs.Ytimlbbleblijnaa.Co

namespace Go.Proofs.Ytimlbbleblijnaa.Co
open Go.Conc
open Go.ConcN (sumTo upd sumTo_upd upd_ne upd_same sumTo_congr le_sumTo)
theorem cnt_zero {E:Env} {b:Nat} {n:Nat} (h:cnt E n b=0):∀ x,x < n→E.wg x≠some b:=by
 induction n with
 | zero=>intro x hx; omega
 | succ n ih =>
   intro x hx
   have h':cnt E n b+(if E.wg n=some b then 1 else 0)=0:=h
   by_cases e:x=n
   ·subst e
    intro hw
    rw [if_pos hw] at h'
    omega
   ·exact ih (by omega) x (by omega)
open Go.Conc.Lib Go.ConcR.Gen in
theorem wait_holds {P:Program} {L:WgLink} (H:WgLib P L) {h b:Nat} {K:Env→World→Prop} {F:Machine→Trace→Prop} (hK:Bears h K)
  (hKs:∀ E w,K E w→E.W b=true∧E.ex b=0∧E.mode b=0∧E.wg h≠some b∧∀ x,x≠h→(E.role x).sits=true→E.wg x≠some b)
  {b₀:Frame} {a₀:Act} {ops₀:Array Oper} {i₀:Nat} {rest₀:List Nat} {k₀:List Item} {cs:List Frame}
  (hT:Holds P h 0 (Emptied h b K) F (G (b₀.at (a₀.put ((ops₀[i₀]?).bind (·.dst)) (.tuple #[])) (.inRegion ops₀ rest₀ :: k₀)) cs)) :
  HoldN P h 0 K F 400 (G ((base L.wait).at ⟨#[.pointer (some (stZ b))] ++ Array.replicate 83 undef,[]⟩ [.code ((waitFn L).body.getD .skip)]) (b₀.at a₀ (.inRegion ops₀ (i₀ :: rest₀) :: k₀) :: cs)):=by
 lib_facts
 simp only [waitFn,Option.getD_some]
 walk_nrm
 refine Idl.step (idl_holdN hK 0) _ _ _ rfl (fun _=>stepG_seq) ?_
 refine Idl.cond (idl_holdN hK 0) true rfl ?_
 simp only [if_true,if_false,Bool.false_eq_true,↓reduceIte]
 refine Idl.step (idl_holdN hK 0) _ _ _ rfl (fun _=>stepG_region) ?_
 simp only [List.size_toArray,List.length_cons,List.length_nil,Nat.reduceAdd,Nat.zero_add,List.range,List.range.loop]
 refine holds_mark hK (d':=1) .disable (.inl ⟨rfl,rfl⟩) rfl (fun w=>stepG_mark0 .disable (by simp) rfl rfl (by k_ne) rfl H.f_disable (x_disable_n L) (x_disable_b L) (x_disable_x L) (x_disable_f L)) ?_
 walk_nrm
 change HoldN P h 1 K F 300 _
 refine Idl.step (idl_holdN hK 1) _ _ _ rfl (fun _=>stepG_region_end) ?_
 refine Idl.step (idl_holdN hK 1) _ _ _ rfl (fun _=>stepG_block) ?_
 refine Idl.step (idl_holdN hK 1) _ _ _ rfl (fun _=>stepG_loop) ?_
 intro E w gs T q sl k C ha
 obtain ⟨k1,k2,k3,k4,k5⟩:=hKs E w k
 have hEnd:=Co.wait (P:=P) (E:=E) (h:=h) (dh:=1) (b:=b) (wait_round H (fun E w k=>(hKs E w k).1) hT E w k1 C.S_dis) (cnt E gs.size b) (sl:=sl) (.refl h E) ⟨k1,k2,k3,k4,fun x hx _ hs=>k5 x hx hs⟩ (Nat.le_refl _) C ha
  (GoesW.stop (fun w₁ h₁=>⟨_,rfl,by simp,by simp,aw_live k1 h₁ ⟨_,_,C.groups b k1⟩,h₁⟩))
 obtain ⟨N,gs',a',w',sl',T',E',q',e1,e2,e3,⟨e4,e5⟩,e6,e7,e8⟩:=hEnd
 obtain ⟨N2,m2,T2,f1,f2⟩:=e5 E' w' gs' T' q' sl' ⟨E,w,k,e6,e4,fun x=>by
  by_cases hx:x < gs.size
  ·exact cnt_zero e8 x hx
  ·rw [(e7.fresh x (by omega)).2.1]
   simp⟩ e7 e3
 exact ⟨N+N2,m2,T2,runNT_cat e1 f1,f2⟩
end Go.Proofs.Ytimlbbleblijnaa.Co

namespace Go.Proofs.Ytimlbbleblijnaa.Co
open Go.Conc
open Go.ConcN (sumTo upd sumTo_upd upd_ne upd_same sumTo_congr le_sumTo)
def AtE (h:Nat) (E:Env) (w:World) (E':Env) (w':World):Prop:=E.Eq h E'∧Aw E.W w w'
theorem AtE.refl (h:Nat) (E:Env) (w:World):AtE h E w E w:=⟨.refl h E,Aw.refl _ _⟩
theorem AtE.trans {h:Nat} {E E1 E2:Env} {w w1 w2:World} (a:AtE h E w E1 w1) (b:AtE h E1 w1 E2 w2):AtE h E w E2 w2:=⟨a.1.trans b.1,a.2.trans _ _ _ (by rw [← a.1.W']; exact b.2)⟩
def HG (P:Program) (h:Nat) (F:Machine→Trace→Prop) (E:Env) (g:Goroutine) (w:World):Prop:=Holds P h 0 (AtE h E w) F g
def HGn (P:Program) (h:Nat) (F:Machine→Trace→Prop) (E:Env) (w:World) (_n:Nat) (g:Goroutine):Prop:=HG P h F E g w
section
variable {P:Program} {h:Nat} {F:Machine→Trace→Prop} {E:Env} {g:Goroutine} {w:World}
theorem HG.at (hg:HG P h F E g w) {E1:Env} {w1:World} (a:AtE h E w E1 w1):HG P h F E1 g w1:=fun E' w' gs T q sl k C ha=>hg E' w' gs T q sl (a.trans k) C ha
theorem HG.clo (P:Program) (h:Nat) (F:Machine→Trace→Prop) (E:Env):Clo P (h == 0) E.W E.D (HG P h F E):=by
 refine ⟨fun g w hg E' w₁ gs T q sl ⟨hE,hA⟩ C ha=>?_,fun g w w₁ hA hg=>hg.at ⟨.refl h E,hA⟩⟩
 have hG:GoesW P (h == 0) (Aw E'.W) E'.D (HG P h F E) g w₁:=by rw [hE.W',hE.D]; exact hg.rely Aw.trans hA
 obtain ⟨N,gs',a',w',sl',T',E'',q',h1,h2,h3,h4,h5,h6⟩:=C.walkR (sl:=sl) hG ha
 obtain ⟨N2,m2,T2,k1,k2⟩:=(h4 w' (Aw.refl _ _)) E'' w' gs' T' q' sl' ⟨hE.trans h5,Aw.refl _ _⟩ h6 h3
 exact ⟨N+N2,m2,T2,runNT_cat h1 k1,k2⟩
theorem idl_hg (P:Program) (h:Nat) (F:Machine→Trace→Prop) (E:Env) (w:World):Idl P (h == 0) (HGn P h F E w):=⟨fun n g g' hs hst hg=>(idl_clo (HG.clo P h F E) (fun _=>dg_nil _) w).step n g g' hs hst hg⟩
theorem HG.open (hg:∀ E1 w1,AtE h E w E1 w1→(∃ gs T q,Co P E1 h 0 T gs w1 q∧gs[h]?=some g)→HG P h F E1 g w1):HG P h F E g w :=
 fun E' w' gs T q sl k C ha=>hg E' w' k ⟨gs,T,q,C,ha⟩ E' w' gs T q sl (.refl h E' w') C ha
theorem Holds.of_hg {K:Env→World→Prop} (hg:∀ E w,K E w→HG P h F E g w):Holds P h 0 K F g:=fun E w gs T q sl k C ha=>hg E w k E w gs T q sl (.refl h E w) C ha
theorem AtE.bears:Bears h (AtE h E w):=fun E1 E2 w1 w2 hE hA a=>a.trans ⟨hE,hA⟩
theorem HG.here (hf:∀ E1 w1 gs T q sl,AtE h E w E1 w1→Co P E1 h 0 T gs w1 q→gs[h]?=some g→F (crowd gs w1 sl) T):HG P h F E g w:=fun E' w' gs T q sl k C ha=>⟨0,_,T,rfl,hf E' w' gs T q sl k C ha⟩
theorem AtE.seat {E1:Env} {w1:World} (a:AtE h E w E1 w1) {j c:Nat} {home:Goroutine→Prop} (hj:E.role j=.seat c home):E1.role j=.seat c home:=(a.1.seat j c home).1 hj
theorem Co.seat_lt {dh:Nat} {T:Trace} {gs:Array Goroutine} {q:Nat→Nat} (C:Co P E h dh T gs w q) {j c:Nat} {home:Goroutine→Prop} (hj:E.role j=.seat c home):j < gs.size:=by
 refine Nat.lt_of_not_le fun hle=>?_
 rw [(C.fresh j hle).1] at hj
 cases hj
theorem HG.give_seat {a a₂:Goroutine} {j c c' n' k':Nat} {home home':Goroutine→Prop} {v z':Value} {es:Array Event} (hjh:j≠h) (hj:E.role j=.seat c home) (hrun:a.status=.running)
  (hsend:∀ w',Aw E.W w w'→stepG P (h == 0) a w'=.comm a₂ #[scase c v z'] true .send w' es) (hes:∀ e ∈ es,EvG E.S E.W w.heap.size e)
  (hs:Sits P (h == 0) (E.St h) c' home' n' (Go.Conc.served a₂ undef)) (hc':w.heap[c']?=some (.chan 0 #[] false k' k' false)) (hH':E.H c'=some 0) (hno:∀ x home'',x≠h→E.role x≠.seat c' home'')
  (hnext:∀ E1 w1 k g₂,AtE h E w E1 w1→w1.heap[c]?=some (.chan 0 #[] false k k false)→home g₂→HG P j F (E1.setRole h (.seat c' home')) (Go.Conc.served g₂ v) (w1.setChan c 0 #[] false (k+1) (k+1) false)):HG P h F E a w:=by
 intro E' w' gs T q sl ⟨hE,hA⟩ C ha
 have hjE:E'.role j=.seat c home:=(hE.seat j c home).1 hj
 have hcn:E'.W c'=false:=by
  cases e:E'.W c' with
  | false=>rfl
  | true =>
    have:=C.fit.sub c' e
    rw [hE.H',hH'] at this
    simp at this
 obtain ⟨N,m1,T1,hr,gs',g₂,w₁,k,sl',q',E1,rfl,h2,h3,h4,h5,h6,h7,h8⟩:=C.give (sl:=sl) (r':=.seat c' home') (n':=n') hjh (C.seat_lt hjE) hjE ha hrun (fun w2 h2=>hsend w2 (hA.trans _ _ _ (by rw [← hE.W']; exact h2))) (fun e he=>by rw [hE.S,hE.W',hA.size]; exact hes e he)
  (fun T' hd=>by
   show Idle P (E'.setRole h (.seat c' home')) T' h n' (Go.Conc.served a₂ undef)
   unfold Idle
   rw [show (E'.setRole h (.seat c' home')).role h=.seat c' home' from upd_same ..]
   show Sits P (h == 0) (E'.St h) c' home' n' _
   rw [hE.St']; exact hs)
  (fun c2 home2 e=>by
   cases e
   exact ⟨⟨k',by rw [hA.heap c' (by rw [← hE.W']; exact hcn)]; exact hc'⟩,by rw [hE.H']; exact hH',fun x home'' hx _ e=>hno x home'' hx ((hE.seat x c' home'').2 e)⟩)
  (fun b f e=>by cases e)
 have hA1:AtE h E w E1 w₁:=⟨hE.trans h7,hA.trans _ _ _ (by rw [← hE.W']; exact h5)⟩
 obtain ⟨N2,m2,T2,e1,e2⟩:=hnext E1 w₁ k g₂ hA1 h6 h4 _ _ gs' T1 q' sl' (.refl _ _ _) h8 h3
 exact ⟨N+N2,m2,T2,runNT_cat hr e1,e2⟩
theorem HG.give_end {a a₂:Goroutine} {j c b n':Nat} {home:Goroutine→Prop} {v z':Value} {es:Array Event} (hjh:j≠h) (hj:E.role j=.seat c home) (hrun:a.status=.running)
  (hsend:∀ w',Aw E.W w w'→stepG P (h == 0) a w'=.comm a₂ #[scase c v z'] true .send w' es) (hes:∀ e ∈ es,EvG E.S E.W w.heap.size e)
  (h0:0 < h) (hb:E.wg h=some b) (hs:Ends P b n' 0 (Go.Conc.served a₂ undef))
  (hnext:∀ E1 w1 k g₂,AtE h E w E1 w1→w1.heap[c]?=some (.chan 0 #[] false k k false)→home g₂→HG P j F (E1.setRole h (.ender b)) (Go.Conc.served g₂ v) (w1.setChan c 0 #[] false (k+1) (k+1) false)):HG P h F E a w:=by
 intro E' w' gs T q sl ⟨hE,hA⟩ C ha
 have hjE:E'.role j=.seat c home:=(hE.seat j c home).1 hj
 obtain ⟨N,m1,T1,hr,gs',g₂,w₁,k,sl',q',E1,rfl,h2,h3,h4,h5,h6,h7,h8⟩:=C.give (sl:=sl) (r':=.ender b) (n':=n') hjh (C.seat_lt hjE) hjE ha hrun (fun w2 h2=>hsend w2 (hA.trans _ _ _ (by rw [← hE.W']; exact h2))) (fun e he=>by rw [hE.S,hE.W',hA.size]; exact hes e he)
  (fun T' hd=>by
   show Idle P (E'.setRole h (.ender b)) T' h n' (Go.Conc.served a₂ undef)
   unfold Idle
   rw [show (E'.setRole h (.ender b)).role h=.ender b from upd_same ..]
   exact ⟨h0,by rw [hd]; exact hs,by show E'.wg h=some b; rw [hE.wgH]; exact hb⟩)
  (fun c2 home2 e=>by cases e) (fun b f e=>by cases e)
 have hA1:AtE h E w E1 w₁:=⟨hE.trans h7,hA.trans _ _ _ (by rw [← hE.W']; exact h5)⟩
 obtain ⟨N2,m2,T2,e1,e2⟩:=hnext E1 w₁ k g₂ hA1 h6 h4 _ _ gs' T1 q' sl' (.refl _ _ _) h8 h3
 exact ⟨N+N2,m2,T2,runNT_cat hr e1,e2⟩
theorem HG.hire {a a' child:Goroutine} {es:Array Event} {c' n' k' b:Nat} {home':Goroutine→Prop} {S:Addr→Option Value} (hrun:a.status=.running) (hgo:∀ w',Aw E.W w w'→stepG P (h == 0) a w'=.spawn a' child w' es)
  (hes:∀ e ∈ es,EvG E.S E.W w.heap.size e) (hWb:E.W b=true) (hex:1≤E.ex b) (hmode:E.mode b=0)
  (hs:Sits P (h == 0) (E.St h) c' home' n' a') (hc':w.heap[c']?=some (.chan 0 #[] false k' k' false)) (hH':E.H c'=some 0) (hno:∀ x home'',x≠h→E.role x≠.seat c' home'')
  (hS:∀ a v,S a=some v→w.cell? a=some v∧E.W a.block=false∧∃ n,E.H a.block=some n∧n≤a.off)
  (hnext:∀ E1 w1 j,AtE h E w E1 w1→j≠h→0 < j→E1.role j=.gone→E1.wg j=none→(∀ a,E1.St j a=none)→HG P j F (E1.hireE h (.seat c' home') j b S) child w1):HG P h F E a w:=by
 intro E' w' gs T q sl ⟨hE,hA⟩ C ha
 have hcn:E'.W c'=false:=by
  cases e:E'.W c' with
  | false=>rfl
  | true =>
    have:=C.fit.sub c' e
    rw [hE.H',hH'] at this
    simp at this
 obtain ⟨N,gs',w1,sl',T',q',E1,h1,h2,h3,h4,h5,h6⟩:=C.hire (sl:=sl) (r':=.seat c' home') (n':=n') (S:=S) (b:=b) ha hrun (fun w2 h2=>hgo w2 (hA.trans _ _ _ (by rw [← hE.W']; exact h2))) (fun e he=>by rw [hE.S,hE.W',hA.size]; exact hes e he) (by rw [hE.W']; exact hWb) (by rw [hE.ex]; exact hex) (hE.mode b hmode)
  (fun T' hd=>by
   unfold Idle
   rw [show (E'.hireE h (.seat c' home') gs.size b S).role h=.seat c' home' from upd_same ..]
   show Sits P (h == 0) (upd E'.St gs.size S h) c' home' n' _
   rw [upd_ne _ _ (by have:=C.lt; omega),hE.St']; exact hs)
  (fun c2 home2 e=>by
   cases e
   exact ⟨⟨k',by rw [hA.heap c' (by rw [← hE.W']; exact hcn)]; exact hc'⟩,by rw [hE.H']; exact hH',fun x home'' hx _ e=>hno x home'' hx ((hE.seat x c' home'').2 e)⟩)
  (fun b f e=>by cases e)
  (fun a v e=>by
   obtain ⟨e1,e2,e3⟩:=hS a v e
   refine ⟨?_,by rw [hE.W']; exact e2,by rw [hE.H']; exact e3⟩
   unfold World.cell?
   rw [hA.heap _ e2]
   exact e1)
 obtain ⟨f1,f2,f3⟩:=C.fresh gs.size (Nat.le_refl _)
 have hA1:AtE h E w E1 w1:=⟨hE.trans h5,hA.trans _ _ _ (by rw [← hE.W']; exact h4)⟩
 have hlt:=C.lt
 obtain ⟨N2,m2,T2,e1,e2⟩:=hnext E1 w1 gs.size hA1 (by omega) (by omega) (h5.gone _ f1) (by
   cases e:E1.wg gs.size with
   | none=>rfl
   | some b'=>have:=h5.wg _ b' e; rw [f2] at this; cases this) (by rw [h5.St']; exact f3) _ _ gs' T' q' sl' (.refl _ _ _) h6 h3
 exact ⟨N+N2,m2,T2,runNT_cat h1 e1,e2⟩
end
theorem cells_of {w:World} {a:Addr} {v:Value} (h:w.cell? a=some v):a.spot=none∧∃ c e f,w.heap[a.block]?=some (.cells c e f)∧c[a.off]?=some v:=by
 unfold World.cell? at h
 cases ho:w.heap[a.block]? with
 | none=>rw [ho] at h; cases h
 | some o =>
   rw [ho] at h
   cases o with
   | cells c e f =>
     cases hs:a.spot with
     | none=>simp [hs] at h; exact ⟨rfl,c,e,f,rfl,h⟩
     | some x=>simp [hs] at h
   | _=>cases h
theorem heap_set {w:World} {a:Addr} {v:Value} {c:Array Value} {e:TypeId} {f:Nat × Nat} (hs:a.spot=none) (h:w.heap[a.block]?=some (.cells c e f)):(w.setCell a v).heap[a.block]?=some (.cells (c.setIfInBounds a.off v) e f):=by
 simp [World.setCell,Array.getElem?_modify,h,hs]
theorem heap_set_chan {w:World} {a:Addr} {v:Value} {b:Nat} {cap s r:Nat} {bf:Array Value} {cl tm:Bool} (h:w.heap[b]?=some (.chan cap bf cl s r tm)):(w.setCell a v).heap[b]?=some (.chan cap bf cl s r tm):=by
 by_cases e:a.block=b
 ·subst e; simp [World.setCell,Array.getElem?_modify,h]
 ·rw [heap_setCell_ne e]; exact h
theorem fit_set {H:Nat→Option Nat} {W:Nat→Bool} {w:World} {a:Addr} {v v':Value} (hf:Fit H W w) (hc:w.cell? a=some v) (hp:W a.block=true→a.off=0):Fit H W (w.setCell a v'):=by
 obtain ⟨hs,c,e,f,h1,h2⟩:=cells_of hc
 have hsz:(w.setCell a v').heap.size=w.heap.size:=by simp [World.setCell]
 refine ⟨fun b o ho=>?_,fun b hb=>hf.bound b (by rw [← hsz]; exact hb),fun b n o hD ho=>?_,fun b hb=>?_,hf.sub⟩
 ·rw [vw_get] at ho
  by_cases eb:a.block=b
  ·subst eb
   rw [heap_set hs h1] at ho
   simp only [Option.map_some,Option.some.injEq] at ho
   subst ho
   unfold hideAt
   cases H a.block <;> rfl
  ·rw [heap_setCell_ne eb] at ho
   exact hf.fair b o (by rw [vw_get]; exact ho)
 ·by_cases eb:a.block=b
  ·subst eb
   rw [heap_set hs h1] at ho
   simp only [Option.some.injEq] at ho
   subst ho
   exact .inl ⟨_,_,_,rfl⟩
  ·rw [heap_setCell_ne eb] at ho
   exact hf.hides b n o hD ho
 ·obtain ⟨x,st,sm,e',hx⟩:=hf.ok b hb
  by_cases eb:a.block=b
  ·subst eb
   rw [h1] at hx
   unfold runObj at hx
   simp only [Option.some.injEq,Obj.cells.injEq] at hx
   obtain ⟨rfl,rfl,rfl⟩:=hx
   refine ⟨v',st,sm,e,?_⟩
   rw [heap_set hs h1,hp hb]
   rfl
  ·exact ⟨x,st,sm,e',by rw [heap_setCell_ne eb]; exact hx⟩
theorem aw_cell {W:Nat→Bool} {w w1:World} {a:Addr} {v:Value} (hA:Aw W w w1) (hc:w.cell? a=some v) (hp:W a.block=true→a.off=0∧Live a.block w):w1.cell? a=some v:=by
 cases hW:W a.block with
 | false =>
   unfold World.cell? at hc ⊢
   rw [hA.heap _ hW]; exact hc
 | true =>
   obtain ⟨h0,st,sm,x,e,hx⟩:=hp hW
   obtain ⟨st',sm',h1⟩:=hA.run _ hW _ _ _ _ hx
   unfold World.cell? at hc ⊢
   rw [hx] at hc
   rw [h1]
   unfold runObj at hc ⊢
   rw [h0] at hc ⊢
   cases hs:a.spot with
   | none=>simp [hs] at hc ⊢; exact hc
   | some y=>simp [hs] at hc
theorem aw_frozen {W:Nat→Bool} {w w1:World} {a:Addr} (hA:Aw W w w1) (hW:W a.block=false):w1.frozen? a=w.frozen? a:=by
 unfold World.frozen?
 rw [hA.heap _ hW]
theorem aw_setCell {W:Nat→Bool} {w w1:World} {a:Addr} {v v':Value} (hA:Aw W w w1) (hc:w.cell? a=some v) (hp:W a.block=true→a.off=0∧Live a.block w):Aw W (w.setCell a v') (w1.setCell a v'):=by
 refine ⟨hA.tape,hA.os,hA.output,by simp [World.setCell,hA.size],fun b hb=>?_,fun b hb x st sm e hx=>?_⟩
 ·simp only [World.setCell,Array.getElem?_modify,hA.heap b hb]
 ·by_cases eb:a.block=b
  ·subst eb
   obtain ⟨h0,st0,sm0,x0,e0,hx0⟩:=hp hb
   obtain ⟨hs,c,e',f,h1,h2⟩:=cells_of hc
   obtain ⟨st',sm',h3⟩:=hA.run _ hb _ _ _ _ hx0
   have k1:=heap_set (v:=v') hs (w:=w) (a:=a) (by rw [hx0]; rfl)
   have k2:=heap_set (v:=v') hs (w:=w1) (a:=a) (by rw [h3]; rfl)
   rw [h0] at k1 k2
   rw [k1] at hx
   rw [k2]
   unfold runObj at hx ⊢
   simp at hx
   obtain ⟨⟨rfl,rfl,rfl⟩,rfl⟩:=hx
   exact ⟨st',sm',by simp⟩
  ·rw [heap_setCell_ne eb] at hx ⊢
   exact hA.run b hb x st sm e hx
theorem evG_plain {S:Addr→Prop} {W:Nat→Bool} {B:Nat} {a:Addr} {wr:Bool} (hl:a.block < B) (hp:W a.block=true→a.off=0) (hS:wr=true→¬ S a):EvG S W B ⟨.cell a,wr,false⟩:=by
 refine ⟨fun t ht=>?_,by simp,by simp,hl⟩
 have ht':t=⟨.cell a,wr,.plain⟩:=by simp [MemAct.ofEvent,MemAct.touch?] at ht; exact ht.symm
 subst ht'
 refine ⟨fun a' e hs=>?_,fun ⟨a',e,h1,h2⟩=>?_⟩
 ·cases e
  cases wr with
  | false=>rfl
  | true=>exact absurd hs (hS rfl)
 ·cases e
  rw [hp h1] at h2
  omega
section
variable {P:Program} {h:Nat} {F:Machine→Trace→Prop} {E:Env} {w:World} {n:Nat} {fr:Frame} {a:Act} {k:List Item} {cs:List Frame} {ops:Array Oper} {i:Nat} {rest:List Nat} {o:Oper}
theorem HGn.ld {ad:Addr} {v:Value} (hc:w.cell? ad=some v) (hp:E.W ad.block=true→ad.off=0∧Live ad.block w) (ho:ops[i]?=some o) (hw:Region.wanted o (yielded ops a.tmps)=true) (hk:fr.kind≠.early)
  (hr:∀ w₁,w₁.cell? ad=some v→(execOp a.eval o).run P w₁=.ok (.value v) w₁∧∀ e ∈ (execOp a.eval o).events P w₁ #[],e=⟨.cell ad,false,false⟩) (hg:HGn P h F E w n (G (fr.at (a.put o.dst v) (.inRegion ops rest :: k)) cs)) :
  HGn P h F E w (n+1) (G (fr.at a (.inRegion ops (i :: rest) :: k)) cs) :=
 (HG.clo P h F E).value ho hw hk (fun w₁ h1=>by
  have hc1:=aw_cell h1 hc hp
  obtain ⟨e1,e2⟩:=hr w₁ hc1
  refine ⟨e1,Nat.le_refl _,fun _ _=>rfl,fun _ _=>rfl,fun _ _ x _ _ _ e=>⟨x,e⟩,fun h=>h,fun e he=>?_,⟨rfl,rfl⟩⟩
  rw [e2 e (mem_listed he)]
  exact evG_plain (lt_of_cell hc1) (fun z=>(hp z).1) (fun z=>by cases z)) hg
theorem HGn.st {ad:Addr} {v v':Value} (hc:w.cell? ad=some v) (hp:E.W ad.block=true→ad.off=0∧Live ad.block w) (hz:w.frozen? ad=false) (hS:∀ i,E.St i ad=none) (hrole:E.role h=.gone) (ho:ops[i]?=some o) (hw:Region.wanted o (yielded ops a.tmps)=true) (hk:fr.kind≠.early) (hd:o.dst=none)
  (hr:∀ w₁,w₁.cell? ad=some v→w₁.frozen? ad=false→(execOp a.eval o).run P w₁=.ok .skip (w₁.setCell ad v')∧∀ e ∈ (execOp a.eval o).events P w₁ #[],e=⟨.cell ad,true,false⟩) (hg:HGn P h F E (w.setCell ad v') n (G (fr.at a (.inRegion ops rest :: k)) cs)) :
  HGn P h F E w (n+1) (G (fr.at a (.inRegion ops (i :: rest) :: k)) cs):=by
 refine HG.open fun E1 w1 hA ⟨gs,T,q,C,_⟩=>?_
 have hAw:=hA.2
 have hc1:=aw_cell hAw hc hp
 have hW1:E1.W=E.W:=hA.1.W'
 have hp1:E1.W ad.block=true→ad.off=0∧Live ad.block w1:=fun z=>by
  have z':E.W ad.block=true:=by rw [← hW1]; exact z
  obtain ⟨z1,z2⟩:=hp z'
  exact ⟨z1,aw_live z' hAw z2⟩
 have hz1:w1.frozen? ad=false:=by
  cases hW:E.W ad.block with
  | false=>rw [aw_frozen hAw hW]; exact hz
  | true =>
    obtain ⟨_,st,sm,x,e,hx⟩:=hp1 (by rw [hW1]; exact hW)
    simp [World.frozen?,hx,runObj]
 refine (HG.clo P h F E1).own rfl fun w₂ h2=>?_
 have hc2:=aw_cell h2 hc1 hp1
 have hz2:w₂.frozen? ad=false:=by
  cases hW:E1.W ad.block with
  | false=>rw [aw_frozen h2 hW]; exact hz1
  | true =>
    obtain ⟨st,sm,x,e,hx⟩:=aw_live hW h2 (hp1 hW).2
    simp [World.frozen?,hx,runObj]
 obtain ⟨e1,e2⟩:=hr w₂ hc2 hz2
 obtain ⟨hs,c,e,f,k1,k2⟩:=cells_of hc2
 obtain ⟨_,c1,e1',f1,k3,k4⟩:=cells_of hc1
 have hS1:∀ i,E1.St i ad=none:=fun i=>by rw [hA.1.St']; exact hS i
 refine ⟨G (fr.at a (.inRegion ops rest :: k)) cs,w₂.setCell ad v',listed P fr.fn a o w₂,by rw [stepG_none ho hw hk e1,hd]; rfl,⟨Nat.le_of_eq (by simp [World.setCell]),fun a' ⟨i,hi⟩=>?_,fun c' ⟨i,home,hi⟩=>?_,fun b hb x st sm e' hx=>?_,fun hf=>fit_set hf hc2 (fun z=>(hp1 z).1),fun ev he=>?_,⟨rfl,rfl⟩⟩,?_⟩
 ·refine World.cell?_setCell_other (h:=fun z=>?_) ..
  rw [← z,hS1 i] at hi
  cases hi
 ·have hih:i≠h:=fun z=>by
   subst z
   have:=hA.1.roleH
   rw [hi,hrole] at this
   cases this
  obtain ⟨k',hk'⟩:=C.chans i c' home hih (C.seat_lt hi) hi
  refine heap_setCell_ne fun z=>?_
  rw [← z,k3] at hk'
  cases hk'
 ·by_cases eb:ad.block=b
  ·subst eb
   have:=heap_set (v:=v') hs k1
   rw [hx] at k1
   unfold runObj at k1 hx
   simp only [Option.some.injEq,Obj.cells.injEq] at k1
   obtain ⟨rfl,rfl,rfl⟩:=k1
   refine ⟨v',?_⟩
   rw [this,(hp1 hb).1]
   rfl
  ·exact ⟨x,by rw [heap_setCell_ne eb]; exact hx⟩
 ·rw [e2 ev (mem_listed he)]
  refine evG_plain (by simp only [World.setCell,Array.size_modify]; exact lt_of_cell hc2) (fun z=>(hp1 z).1) (fun _ ⟨i,hi⟩=>?_)
  rw [hS1 i] at hi
  cases hi
 ·have hA2:Aw E.W (w.setCell ad v') (w₂.setCell ad v'):=aw_setCell (hAw.trans _ _ _ (by rw [← hW1]; exact h2)) hc hp
  exact (show HG P h F E _ _ from hg).at ⟨hA.1,hA2⟩
theorem HG.clear {g:Goroutine} (hg:HG P h F (E.setRole h .gone) g w):HG P h F E g w:=fun E' w' gs T q sl ⟨hE,hA⟩ C ha=>by
 refine hg (E'.setRole h .gone) w' gs T q sl ⟨?_,hA⟩ (C.setH .gone (fun c home e=>by cases e)) ha
 have key:∀ (X:Env) x,x≠h→(X.setRole h .gone).role x=X.role x:=fun X x hx=>upd_ne _ _ hx
 have self:∀ (X:Env),(X.setRole h .gone).role h=.gone:=fun X=>upd_same ..
 refine ⟨⟨fun x c home=>?_,fun x=>?_,?_,hE.St,hE.W,hE.H,hE.wg,hE.wgH,fun x hx=>?_,hE.ex,hE.mode,hE.modeUp,hE.io⟩,hE.W',hE.St',hE.H'⟩
 ·by_cases e:x=h
  ·subst e; rw [self,self]
  ·rw [key _ _ e,key _ _ e]; exact hE.seat x c home
 ·by_cases e:x=h
  ·subst e; rw [self,self]; exact id
  ·rw [key _ _ e,key _ _ e]; exact hE.gone x
 ·rw [self,self]
 ·by_cases e:x=h
  ·subst e; rw [self] at hx; cases hx
  ·rw [key _ _ e] at hx; exact hE.wgS x hx
end
end Go.Proofs.Ytimlbbleblijnaa.Co

namespace Go.Proofs.Ytimlbbleblijnaa.Co
open Go.Conc
section
variable {P:Program} {main:Bool} {b:Frame} {a:Act} {k:List Item} {cs:List Frame} {w:World} {ops:Array Oper} {i:Nat} {rest:List Nat} {o:Oper} {todo:List Item} {ds:List Deferred} {f:FuncId} {fn:Func} {args:Array Value}
theorem stepG_panic {v:Value} {w':World} (ho:ops[i]?=some o) (hw:Region.wanted o (yielded ops a.tmps)=true) (hk:b.kind≠.early) (hm:b.mode=.run) (hr:(execOp a.eval o).run P w=.halt (.panic v) w') :
  stepG P main (G (b.at a (.inRegion ops (i :: rest) :: k)) cs) w=.go (G { b.at a (.inRegion ops (i :: rest) :: k) with mode:=.panicking [{ v,recovered:=false }] } cs) w' (listed P b.fn a o w):=by
 have hk':(b.kind == CallKind.early)=false:=by simpa using hk
 rw [stepG_oper ho hw]
 simp [stepG.apply,hr,G,Frame.at,hk',GStep.after,listed,Frame.raise]
theorem stepG_unwind_none {ch:List PanicEntry} {c:Frame} (hd:a.defers=[]) (hf:P.funcs[b.fn]?=some fn) (hc:c.mode=.run) :
  stepG P main (G { b.at a todo with mode:=.panicking ch } (c :: cs)) w=.go (G { c with mode:=.panicking ch } cs) w #[]:=by
 simp [G,stepG,unwind,Frame.at,hd,Frame.catches,hf,Frame.raise,hc]
theorem stepG_defer_clo {x:Operand} {caps:Array Value} (ho:ops[i]?=some o) (hw:Region.wanted o (yielded ops a.tmps)=true) (hk:b.kind≠.early)
  (hop:o.op=.defer { callee:=.value x,args:=#[],argTypes:=#[] }) (hx:a.eval x=.func (.func f) #[] caps) :
  stepG P main (G (b.at a (.inRegion ops (i :: rest) :: k)) cs) w=.go (G (b.at (Act.put ⟨a.tmps,{ target:=.fn (.func f) caps,args:=#[] } :: a.defers⟩ o.dst undef) (.inRegion ops rest :: k)) cs) w #[]:=by
 have hr:(execOp a.eval o).run P w=.ok (.defer { target:=.fn (.func f) caps,args:=#[] }) w:=by
  unfold execOp
  simp [hop,resolve,Deferred.ofValue,hx]
 have he:(execOp a.eval o).events P w #[]=#[]:=by
  unfold execOp
  simp [hop,resolve,Deferred.ofValue,hx]
 have hfin:(b.at ⟨a.tmps,{ target:=.fn (.func f) caps,args:=#[] } :: a.defers⟩ (.inRegion ops (i :: rest) :: k)).finish undef=b.at (Act.put ⟨a.tmps,{ target:=.fn (.func f) caps,args:=#[] } :: a.defers⟩ o.dst undef) (.inRegion ops rest :: k):=by rw [Frame.finish_at,ho]; rfl
 have hk':(b.kind == CallKind.early)=false:=by simpa using hk
 rw [stepG_oper ho hw,← hfin]
 simp [stepG.apply,hr,he,G,Frame.at,hk',GStep.after,seen_none]
theorem stepG_unwind_clo {caps:Array Value} {c:Code} {md:FrameMode} (hmd:md≠.run) (hd:a.defers={ target:=.fn (.func f) caps,args:=args } :: ds) (hf:P.funcs[f]?=some fn) (hname:(fn.name == "runtime.NumGoroutine")=false) (hb:fn.body=some c) :
  stepG P main (G { b.at a todo with mode:=md } cs) w =
   .go (G ((baseD f).at { tmps:=(args ++ caps) ++ Array.replicate (fn.ntmps - (args ++ caps).size) undef,defers:=[] } [.code c]) ({ b.at ⟨a.tmps,ds⟩ todo with mode:=md } :: cs)) w #[]:=by
 have h1:¬ fn.name = "runtime.NumGoroutine" := by simpa using hname
 rw [← enter_atD (args ++ caps) hf hb]
 cases md with
 | run=>exact absurd rfl hmd
 | returning=>simp [G,stepG,unwind,callDeferred,Frame.at,hd,invoke,callFunc,hf,h1,hb,GStep.after,seen_none]
 | panicking ch=>simp [G,stepG,unwind,callDeferred,Frame.at,hd,invoke,callFunc,hf,h1,hb,GStep.after,seen_none]
theorem stepG_recover {c:Frame} {v:Value} {older:List PanicEntry} {ats:Array TypeId} (ho:ops[i]?=some o) (hw:Region.wanted o (yielded ops a.tmps)=true) (hop:o.op=.call { callee:=.builtin .recover,args:=#[],argTypes:=ats }) (hk:b.kind=.deferred) (hr:b.roundOf=none) (hc:c.mode=.panicking ({ v,recovered:=false } :: older)) :
  stepG P main (G (b.at a (.inRegion ops (i :: rest) :: k)) (c :: cs)) w=.go (G (b.at (a.put o.dst v) (.inRegion ops rest :: k)) ({ c with mode:=.panicking ({ v,recovered:=true } :: older) } :: cs)) w #[]:=by
 have h1:(execOp a.eval o).run P w=.ok .recover w:=by
  unfold execOp
  simp [hop,resolve,invoke,builtin]
 have h2:(execOp a.eval o).events P w #[]=#[]:=by
  unfold execOp
  simp [hop,resolve,invoke,builtin]
 have hk':(b.kind == CallKind.early)=false:=by rw [hk]; rfl
 have hfin:(b.at a (.inRegion ops (i :: rest) :: k)).finish v=b.at (a.put o.dst v) (.inRegion ops rest :: k):=by rw [Frame.finish_at,ho]; rfl
 rw [stepG_oper ho hw,← hfin]
 simp [stepG.apply,h1,h2,G,Frame.at,hk',GStep.after,seen_none,tryRecover,hr,hk,hc]
theorem stepG_recover_none {c:Frame} {ats:Array TypeId} (ho:ops[i]?=some o) (hw:Region.wanted o (yielded ops a.tmps)=true) (hop:o.op=.call { callee:=.builtin .recover,args:=#[],argTypes:=ats }) (hk:b.kind=.deferred) (hr:b.roundOf=none) (hc:c.mode=.returning) :
  stepG P main (G (b.at a (.inRegion ops (i :: rest) :: k)) (c :: cs)) w=.go (G (b.at (a.put o.dst .nilIface) (.inRegion ops rest :: k)) (c :: cs)) w #[]:=by
 have h1:(execOp a.eval o).run P w=.ok .recover w:=by
  unfold execOp
  simp [hop,resolve,invoke,builtin]
 have h2:(execOp a.eval o).events P w #[]=#[]:=by
  unfold execOp
  simp [hop,resolve,invoke,builtin]
 have hk':(b.kind == CallKind.early)=false:=by rw [hk]; rfl
 have hfin:(b.at a (.inRegion ops (i :: rest) :: k)).finish .nilIface=b.at (a.put o.dst .nilIface) (.inRegion ops rest :: k):=by rw [Frame.finish_at,ho]; rfl
 rw [stepG_oper ho hw,← hfin]
 simp [stepG.apply,h1,h2,G,Frame.at,hk',GStep.after,seen_none,tryRecover,hr,hk,hc]
theorem stepG_leave_recovered {c:Frame} {v x:Value} (hn:b.kind=.deferred) (hd:a.defers=[]) (hf:P.funcs[b.fn]?=some fn)
  (hr:(results fn a.tmps).run P w=.ok v w) (he:(results fn a.tmps).events P w #[]=#[]) (hc:c.mode=.panicking [{ v:=x,recovered:=true }]) :
  stepG P main (G { b.at a todo with mode:=.returning } (c :: cs)) w=.go (G { c with mode:=.returning } cs) w #[]:=by
 simp [G,stepG,unwind,doReturn,Frame.at,hn,hd,hf,hr,he,hc,seen,GStep.after]
theorem stepG_call_clo {x:Operand} {xs:Array Operand} {caps:Array Value} {ats:Array TypeId} {c:Code} (ho:ops[i]?=some o) (hw:Region.wanted o (yielded ops a.tmps)=true) (hk:b.kind≠.early) (hop:o.op=.call { callee:=.value x,args:=xs,argTypes:=ats }) (hx:a.eval x=.func (.func f) #[] caps)
  (hf:P.funcs[f]?=some fn) (hname:(fn.name == "runtime.NumGoroutine")=false) (hb:fn.body=some c) :
  stepG P main (G (b.at a (.inRegion ops (i :: rest) :: k)) cs) w =
   .go (G ((base f).at { tmps:=(xs.map a.eval ++ caps) ++ Array.replicate (fn.ntmps - (xs.map a.eval ++ caps).size) undef,defers:=[] } [.code c]) (b.at a (.inRegion ops (i :: rest) :: k) :: cs)) w #[]:=by
 have h1:¬ fn.name = "runtime.NumGoroutine" := by simpa using hname
 have hr:(execOp a.eval o).run P w=.ok (.enter f (xs.map a.eval ++ caps)) w:=by
  unfold execOp
  simp [hop,resolve,Deferred.ofValue,invoke,callFunc,hf,h1,hb,hx]
 have he:(execOp a.eval o).events P w #[]=#[]:=by
  unfold execOp
  simp [hop,resolve,Deferred.ofValue,invoke,callFunc,hf,h1,hb,hx]
 rw [stepG_enter ho hw hk hr,enter_at _ hf hb]
 have:listed P b.fn a o w=#[]:=by unfold listed; rw [he]; exact seen_none P _
 rw [this]
theorem stepG_send {x y:Operand} {c:Nat} {v:Value} (ho:ops[i]?=some o) (hw:Region.wanted o (yielded ops a.tmps)=true) (hk:b.kind≠.early) (hop:o.op=.send x y) (hx:a.eval x=.chan (some c)) (hy:a.eval y=v) :
  stepG P main (G (b.at a (.inRegion ops (i :: rest) :: k)) cs) w=.comm (G (b.at a (.inRegion ops (i :: rest) :: k)) cs) #[scase c v (.tuple #[])] true .send w #[]:=by
 rw [stepG_comm (cases:=#[scase c v (.tuple #[])]) (blocking:=true) (shape:=.send) (w':=w) ho hw hk (by simp [execOp,hop,hx,hy,scase]),show listed P b.fn a o w=#[] by unfold listed; rw [show (execOp a.eval o).events P w #[]=#[] by simp [execOp,hop]]; exact seen_none P _]
end
section
variable {P:Program} {main:Bool} {A:Nat→Goroutine→Prop} {n:Nat} {b:Frame} {a:Act} {k:List Item} {cs:List Frame} {ops:Array Oper} {i:Nat} {rest:List Nat} {o:Oper}
theorem Idl.panic (I:Idl P main A) {v:Value} (ho:ops[i]?=some o) (hw:Region.wanted o (yielded ops a.tmps)=true) (hk:b.kind≠.early) (hm:b.mode=.run) (hr:∀ w,(execOp a.eval o).run P w=.halt (.panic v) w) (he:∀ w,(execOp a.eval o).events P w #[]=#[])
  (hg:A n (G { b.at a (.inRegion ops (i :: rest) :: k) with mode:=.panicking [{ v,recovered:=false }] } cs)):A (n+1) (G (b.at a (.inRegion ops (i :: rest) :: k)) cs) :=
 I.step _ _ _ rfl (fun w=>by rw [stepG_panic ho hw hk hm (hr w)]; unfold listed; rw [he w,seen_none]) hg
theorem Idl.unwindNone (I:Idl P main A) {fn:Func} {todo:List Item} {ch:List PanicEntry} {c:Frame} (hd:a.defers=[]) (hf:P.funcs[b.fn]?=some fn) (hc:c.mode=.run) (hg:A n (G { c with mode:=.panicking ch } cs)):A (n+1) (G { b.at a todo with mode:=.panicking ch } (c :: cs)) :=
 I.step _ _ _ rfl (fun w=>stepG_unwind_none hd hf hc) hg
def entry (f:FuncId) (fn:Func) (args:Array Value) (cs:List Frame):Goroutine:=G ((base f).at ⟨args ++ Array.replicate (fn.ntmps - args.size) undef,[]⟩ [.code (fn.body.getD .skip)]) cs
def entryD (f:FuncId) (fn:Func) (args:Array Value) (cs:List Frame):Goroutine:=G ((baseD f).at ⟨args ++ Array.replicate (fn.ntmps - args.size) undef,[]⟩ [.code (fn.body.getD .skip)]) cs
theorem Idl.callE (I:Idl P main A) {f:FuncId} {fn:Func} {args:Array Operand} {vs:Array Value} {ats:Array TypeId} (ho:ops[i]?=some o) (hw:Region.wanted o (yielded ops a.tmps)=true) (hk:b.kind≠.early)
  (hop:o.op=.call { callee:=.value (.func f),args,argTypes:=ats }) (hf:P.funcs[f]?=some fn) (hname:(fn.name == "runtime.NumGoroutine")=false) (hb:fn.body.isSome=true) (hv:args.map a.eval=vs)
  (hg:A n (entry f fn vs (b.at a (.inRegion ops (i :: rest) :: k) :: cs))):A (n+1) (G (b.at a (.inRegion ops (i :: rest) :: k)) cs):=by
 subst hv
 cases hb':fn.body with
 | none=>rw [hb'] at hb; cases hb
 | some c =>
   refine I.call ho hw hk hop hf hname hb' ?_
   unfold entry at hg
   rw [hb'] at hg
   exact hg
end
end Go.Proofs.Ytimlbbleblijnaa.Co
