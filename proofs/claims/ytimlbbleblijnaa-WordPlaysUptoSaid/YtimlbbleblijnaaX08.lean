/- Lemmas for the laws of this seat, laid together of PGx, PGy, PGz, PGaa, PGab, PGac. -/
import Derived.Test.YtimlbbleblijnaaX07
import Derived.Test.YtimlbbleblijnaaChecked

open Go.ConcR.Gen (base_kind baseD_kind)
set_option linter.unusedVariables false
set_option linter.unusedSimpArgs false
set_option maxRecDepth 100000
set_option maxHeartbeats 4000000
namespace Go.Proofs.Ytimlbbleblijnaa.Co
open Go.Conc
open Go.ConcN (sumTo upd sumTo_upd upd_ne upd_same sumTo_congr le_sumTo)
theorem wrap_inc (v:Nat) (hv:v < 1000):IntKind.u64.wrap ((v:Int) * KK+4294967296)=((v:Int)+1) * KK:=by
 rw [IntKind.wrap_u64]
 unfold KK
 omega
open Go.Conc.Lib Go.ConcR.Gen in
theorem addPos_holds {P:Program} {L:WgLink} (H:WgLib P L) {h b:Nat} {K:Env→World→Prop} {F:Machine→Trace→Prop} (hK:Bears h K) (hW:∀ E w,K E w→E.W b=true∧E.mode b=0∧∀ n,cnt E n b+E.ex b < 1000)
  {b₀:Frame} {a₀:Act} {ops₀:Array Oper} {i₀:Nat} {rest₀:List Nat} {k₀:List Item} {cs:List Frame}
  (hT:Holds P h 0 (Upped h b K) F (G (b₀.at (a₀.put ((ops₀[i₀]?).bind (·.dst)) (.tuple #[])) (.inRegion ops₀ rest₀ :: k₀)) cs)) :
  HoldN P h 0 K F 400 (G ((base L.add).at ⟨#[.pointer (some (stZ b)),.int .i64 1] ++ Array.replicate 115 undef,[]⟩ [.code ((addFn L).body.getD .skip)]) (b₀.at a₀ (.inRegion ops₀ (i₀ :: rest₀) :: k₀) :: cs)):=by
 lib_facts
 have hW1:∀ E w,K E w→E.W b=true:=fun E w k=>(hW E w k).1
 have hW2:∀ E w,Upped h b K E w→E.W b=true:=fun E w ⟨E0,w0,k,e1,_⟩=>by
  have:E.W=E0.W:=e1.W'
  rw [this]; exact hW1 _ _ k
 have hK2:Bears h (Upped h b K):=Upped.bears
 simp only [addFn,Option.getD_some]
 walk_nrm
 refine Idl.step (idl_holdN hK 0) _ _ _ rfl (fun _=>stepG_seq) ?_
 refine Idl.cond (idl_holdN hK 0) true rfl ?_
 simp only [if_true,if_false,Bool.false_eq_true,↓reduceIte]
 refine Idl.step (idl_holdN hK 0) _ _ _ rfl (fun _=>stepG_seq) ?_
 refine Idl.step (idl_holdN hK 0) _ _ _ rfl (fun _=>stepG_seq) ?_
 refine Idl.step (idl_holdN hK 0) _ _ _ rfl (fun _=>stepG_region) ?_
 simp only [List.size_toArray,List.length_cons,List.length_nil,Nat.reduceAdd,Nat.zero_add,List.range,List.range.loop]
 iterate 2 (refine Idl.v (idl_holdN hK 0) ?_; walk_nrm)
 refine Idl.step (idl_holdN hK 0) _ _ _ rfl (fun _=>stepG_region_end) ?_
 refine Idl.cond (idl_holdN hK 0) false rfl ?_
 simp only [if_true,if_false,Bool.false_eq_true,↓reduceIte]
 refine Idl.step (idl_holdN hK 0) _ _ _ rfl (fun _=>stepG_skip) ?_
 refine Idl.step (idl_holdN hK 0) _ _ _ rfl (fun _=>stepG_seq) ?_
 refine Idl.step (idl_holdN hK 0) _ _ _ rfl (fun _=>stepG_region) ?_
 simp only [List.size_toArray,List.length_cons,List.length_nil,Nat.reduceAdd,Nat.zero_add,List.range,List.range.loop]
 refine holds_mark hK (d':=1) .disable (.inl ⟨rfl,rfl⟩) rfl (fun w=>stepG_mark0 .disable (by simp) rfl rfl (by k_ne) rfl H.f_disable (x_disable_n L) (x_disable_b L) (x_disable_x L) (x_disable_f L)) ?_
 walk_nrm
 change HoldN P h 1 K F 300 _
 refine Idl.step (idl_holdN hK 1) _ _ _ rfl (fun _=>stepG_region_end) ?_
 refine Idl.step (idl_holdN hK 1) _ _ _ rfl (fun _=>stepG_region) ?_
 simp only [List.size_toArray,List.length_cons,List.length_nil,Nat.reduceAdd,Nat.zero_add,List.range,List.range.loop]
 refine Idl.step (idl_holdN hK 1) _ _ _ rfl (fun _=>(stepG_defer rfl rfl (by k_ne) rfl)) ?_
 walk_nrm
 refine Idl.step (idl_holdN hK 1) _ _ _ rfl (fun _=>stepG_region_end) ?_
 refine Idl.step (idl_holdN hK 1) _ _ _ rfl (fun _=>stepG_seq) ?_
 refine Idl.step (idl_holdN hK 1) _ _ _ rfl (fun _=>stepG_region) ?_
 simp only [List.size_toArray,List.length_cons,List.length_nil,Nat.reduceAdd,Nat.zero_add,List.range,List.range.loop]
 refine Idl.v (idl_holdN hK 1) ?_
 walk_nrm
 refine Idl.step (idl_holdN hK 1) _ _ _ rfl (fun _=>stepG_region_end) ?_
 refine Idl.step (idl_holdN hK 1) _ _ _ rfl (fun _=>stepG_seq) ?_
 refine Idl.step (idl_holdN hK 1) _ _ _ rfl (fun _=>stepG_seq) ?_
 refine Idl.step (idl_holdN hK 1) _ _ _ rfl (fun _=>stepG_region) ?_
 simp only [List.size_toArray,List.length_cons,List.length_nil,Nat.reduceAdd,Nat.zero_add,List.range,List.range.loop]
 refine Idl.step (idl_holdN hK 1) _ _ _ rfl (fun _=>(stepG_entry_pure (.bool false) rfl rfl (by k_ne) rfl H.f_inBubble (x_inBubble_n L) (x_inBubble_b L) (x_inBubble_x L) (x_inBubble_f L))) ?_
 walk_nrm
 refine Idl.step (idl_holdN hK 1) _ _ _ rfl (fun _=>stepG_region_end) ?_
 refine Idl.cond (idl_holdN hK 1) false rfl ?_
 simp only [if_true,if_false,Bool.false_eq_true,↓reduceIte]
 refine Idl.step (idl_holdN hK 1) _ _ _ rfl (fun _=>stepG_skip) ?_
 refine Idl.step (idl_holdN hK 1) _ _ _ rfl (fun _=>stepG_seq) ?_
 refine Idl.step (idl_holdN hK 1) _ _ _ rfl (fun _=>stepG_region) ?_
 simp only [List.size_toArray,List.length_cons,List.length_nil,Nat.reduceAdd,Nat.zero_add,List.range,List.range.loop]
 iterate 6 (refine Idl.v (idl_holdN hK 1) ?_; walk_nrm)
 refine Idl.call (idl_holdN hK 1) rfl rfl (by first | decide | exact base_kind _ | exact baseD_kind _ | assumption) rfl H.f_uAdd (nm_uAdd L) rfl ?_
 walk_nrmf uAddFn
 refine Idl.step (idl_holdN hK 1) _ _ _ rfl (fun _=>stepG_seq) ?_
 refine Idl.step (idl_holdN hK 1) _ _ _ rfl (fun _=>stepG_region) ?_
 simp only [List.size_toArray,List.length_cons,List.length_nil,Nat.reduceAdd,Nat.zero_add,List.range,List.range.loop]
 refine Idl.v (idl_holdN hK 1) ?_
 walk_nrm
 refine Idl.step (idl_holdN hK 1) _ _ _ rfl (fun _=>stepG_region_end) ?_
 refine Idl.step (idl_holdN hK 1) _ _ _ rfl (fun _=>stepG_seq) ?_
 refine Idl.step (idl_holdN hK 1) _ _ _ rfl (fun _=>stepG_region) ?_
 simp only [List.size_toArray,List.length_cons,List.length_nil,Nat.reduceAdd,Nat.zero_add,List.range,List.range.loop]
 iterate 4 (refine Idl.v (idl_holdN hK 1) ?_; walk_nrm)
 refine holds_add hK hW rfl _ (fun w v hv hG=>(stepG_add_atomic rfl rfl (by k_ne) rfl H.f_addU64 (x_addU64_n L) (x_addU64_b L) (x_addU64_x L) .u64 (x_addU64_f L) rfl rfl hG.st (hG.thaw 1)).trans (by rw [wrap_inc v hv]; rfl)) (fun v hv=>?_)
 walk_nrm
 have hK':((v:Int)+1) * KK=((v:Int)+1) * 4294967296:=rfl
 rw [hK']
 obtain ⟨S,hS⟩:∃ S,S=((v:Int)+1) * 4294967296:=⟨_,rfl⟩
 rw [← hS]
 have hS1:Go.bits BinOp.and IntKind.u64 S 2147483648=0:=by
  have:=Go.ConcN.st_flag (v+1) 0 (by omega) (by omega)
  rw [show ((v+1:Nat):Int) * 4294967296+((0:Nat):Int)=S by rw [hS]; push_cast; omega] at this
  exact this
 have hS2:Go.bits BinOp.and IntKind.u64 S 2147483647=0:=by
  have:=Go.ConcN.st_waiters (v+1) 0 (by omega) (by omega)
  rw [show ((v+1:Nat):Int) * 4294967296+((0:Nat):Int)=S by rw [hS]; push_cast; omega] at this
  exact this
 clear hK'
 replace hS:=Lib.hid hS
 change HoldN P h 1 (Upped h b K) F 250 _
 refine Idl.v (idl_holdN hK2 1) ?_
 walk_nrm
 refine Idl.step (idl_holdN hK2 1) _ _ _ rfl (fun _=>stepG_region_end) ?_
 refine Idl.step (idl_holdN hK2 1) _ _ _ rfl (fun _=>stepG_ret') ?_
 refine Idl.leave1 (idl_holdN hK2 1) rfl rfl H.f_uAdd rfl ?_
 walk_nrm
 refine Idl.v (idl_holdN hK2 1) ?_
 walk_nrm
 refine Idl.step (idl_holdN hK2 1) _ _ _ rfl (fun _=>stepG_region_end) ?_
 refine Idl.step (idl_holdN hK2 1) _ _ _ rfl (fun _=>stepG_seq) ?_
 refine Idl.step (idl_holdN hK2 1) _ _ _ rfl (fun _=>stepG_seq) ?_
 refine Idl.step (idl_holdN hK2 1) _ _ _ rfl (fun _=>stepG_region) ?_
 simp only [List.size_toArray,List.length_cons,List.length_nil,Nat.reduceAdd,Nat.zero_add,List.range,List.range.loop]
 iterate 4 (refine Idl.v (idl_holdN hK2 1) ?_; walk_nrm)
 refine Idl.unwanted (idl_holdN hK2 1) rfl rfl ?_
 walk_nrm
 refine Idl.unwanted (idl_holdN hK2 1) rfl rfl ?_
 walk_nrm
 refine Idl.v (idl_holdN hK2 1) ?_
 walk_nrm
 refine Idl.step (idl_holdN hK2 1) _ _ _ rfl (fun _=>stepG_region_end) ?_
 refine Idl.cond (idl_holdN hK2 1) false rfl ?_
 simp only [if_true,if_false,Bool.false_eq_true,↓reduceIte]
 refine Idl.step (idl_holdN hK2 1) _ _ _ rfl (fun _=>stepG_skip) ?_
 refine Idl.step (idl_holdN hK2 1) _ _ _ rfl (fun _=>stepG_seq) ?_
 refine Idl.step (idl_holdN hK2 1) _ _ _ rfl (fun _=>stepG_region) ?_
 simp only [List.size_toArray,List.length_cons,List.length_nil,Nat.reduceAdd,Nat.zero_add,List.range,List.range.loop]
 iterate 4 (refine Idl.v (idl_holdN hK2 1) ?_; walk_nrm)
 refine Idl.step (idl_holdN hK2 1) _ _ _ rfl (fun _=>stepG_region_end) ?_
 refine Idl.step (idl_holdN hK2 1) _ _ _ rfl (fun _=>stepG_seq) ?_
 refine Idl.step (idl_holdN hK2 1) _ _ _ rfl (fun _=>stepG_region) ?_
 simp only [List.size_toArray,List.length_cons,List.length_nil,Nat.reduceAdd,Nat.zero_add,List.range,List.range.loop]
 iterate 4 (refine Idl.v (idl_holdN hK2 1) ?_; walk_nrm)
 refine Idl.step (idl_holdN hK2 1) _ _ _ rfl (fun _=>stepG_region_end) ?_
 refine Idl.step (idl_holdN hK2 1) _ _ _ rfl (fun _=>stepG_seq) ?_
 refine Idl.step (idl_holdN hK2 1) _ _ _ rfl (fun _=>stepG_seq) ?_
 refine Idl.step (idl_holdN hK2 1) _ _ _ rfl (fun _=>stepG_region) ?_
 simp only [List.size_toArray,List.length_cons,List.length_nil,Nat.reduceAdd,Nat.zero_add,List.range,List.range.loop]
 iterate 10 (refine Idl.v (idl_holdN hK2 1) ?_; walk_nrm)
 refine Idl.step (idl_holdN hK2 1) _ _ _ rfl (fun _=>stepG_region_end) ?_
 obtain ⟨V,hV⟩:∃ V:Int,V=(v:Int)+1:=⟨_,rfl⟩
 have e1:(S / 4294967296+2147483648) % 4294967296 - 2147483648=V:=by have:=hS.out; omega
 simp only [e1]
 have d1:decide (V < 0)=false:=decide_eq_false (by omega)
 have d2:decide (0 < V)=true:=decide_eq_true (by omega)
 have d3:0 < V:=by omega
 rcases Classical.em (V=1) with h1 | h1
 ·subst h1
  clear hV e1 d1 d2 d3
  refine Idl.cond (idl_holdN hK2 1) true rfl ?_
  simp only [if_true,if_false,Bool.false_eq_true,↓reduceIte]
  refine Idl.step (idl_holdN hK2 1) _ _ _ rfl (fun _=>stepG_region) ?_
  simp only [List.size_toArray,List.length_cons,List.length_nil,Nat.reduceAdd,Nat.zero_add,List.range,List.range.loop]
  iterate 3 (refine Idl.v (idl_holdN hK2 1) ?_; walk_nrm)
  refine holds_live hK2 hW2 (.pointer (some (smZ b))) rfl rfl (by k_ne) (fun w st sm hG=>?_) ?_
  ·have hcv:(convert L.tPU32 L.tUP (.pointer (some { block:=(stZ b).block,off:=(stZ b).off+1 }))).run P w=.ok (.pointer (some (smZ b))) w:=run_convert_to_unsafe (P:=P) (a:=smZ b) H.underlying_tPU32 H.underlying_tUP H.room_tU32 hG.sm
   have hce:∀ es,(convert L.tPU32 L.tUP (.pointer (some { block:=(stZ b).block,off:=(stZ b).off+1 }))).events P w es=es:=fun es=>events_convert_to_unsafe (P:=P) (a:=smZ b) H.underlying_tPU32 H.underlying_tUP H.room_tU32 hG.sm es
   exact ⟨by go_simp,by simp [go_sem,hce]⟩
  walk_nrm
  refine holds_said (b:=b) hK2 hW2 rfl (fun w=>stepG_markAt .read (by simp) rfl rfl (by k_ne) rfl H.f_raceRead (x_raceRead_n L) (x_raceRead_b L) (x_raceRead_x L) (x_raceRead_f L) (by simp [Act.eval])) ?_
  walk_nrm
  change HoldN P h 1 (Upped h b K) F 190 _
  refine Idl.step (idl_holdN hK2 1) _ _ _ rfl (fun _=>stepG_region_end) ?_
  refine Idl.step (idl_holdN hK2 1) _ _ _ rfl (fun _=>stepG_seq) ?_
  refine Idl.step (idl_holdN hK2 1) _ _ _ rfl (fun _=>stepG_seq) ?_
  refine Idl.step (idl_holdN hK2 1) _ _ _ rfl (fun _=>stepG_region) ?_
  simp only [List.size_toArray,List.length_cons,List.length_nil,Nat.reduceAdd,Nat.zero_add,List.range,List.range.loop]
  iterate 2 (refine Idl.v (idl_holdN hK2 1) ?_; walk_nrm)
  refine Idl.step (idl_holdN hK2 1) _ _ _ rfl (fun _=>stepG_region_end) ?_
  refine Idl.cond (idl_holdN hK2 1) false rfl ?_
  simp only [if_true,if_false,Bool.false_eq_true,↓reduceIte]
  refine Idl.step (idl_holdN hK2 1) _ _ _ rfl (fun _=>stepG_skip) ?_
  refine Idl.step (idl_holdN hK2 1) _ _ _ rfl (fun _=>stepG_seq) ?_
  refine Idl.step (idl_holdN hK2 1) _ _ _ rfl (fun _=>stepG_seq) ?_
  refine Idl.step (idl_holdN hK2 1) _ _ _ rfl (fun _=>stepG_region) ?_
  simp only [List.size_toArray,List.length_cons,List.length_nil,Nat.reduceAdd,Nat.zero_add,List.range,List.range.loop]
  iterate 3 (refine Idl.v (idl_holdN hK2 1) ?_; walk_nrm)
  refine Idl.unwanted (idl_holdN hK2 1) rfl rfl ?_
  walk_nrm
  refine Idl.unwanted (idl_holdN hK2 1) rfl rfl ?_
  walk_nrm
  iterate 2 (refine Idl.v (idl_holdN hK2 1) ?_; walk_nrm)
  refine Idl.unwanted (idl_holdN hK2 1) rfl rfl ?_
  walk_nrm
  refine Idl.unwanted (idl_holdN hK2 1) rfl rfl ?_
  walk_nrm
  refine Idl.unwanted (idl_holdN hK2 1) rfl rfl ?_
  walk_nrm
  refine Idl.unwanted (idl_holdN hK2 1) rfl rfl ?_
  walk_nrm
  refine Idl.v (idl_holdN hK2 1) ?_
  walk_nrm
  refine Idl.step (idl_holdN hK2 1) _ _ _ rfl (fun _=>stepG_region_end) ?_
  refine Idl.cond (idl_holdN hK2 1) false rfl ?_
  simp only [if_true,if_false,Bool.false_eq_true,↓reduceIte]
  refine Idl.step (idl_holdN hK2 1) _ _ _ rfl (fun _=>stepG_skip) ?_
  refine Idl.step (idl_holdN hK2 1) _ _ _ rfl (fun _=>stepG_seq) ?_
  refine Idl.step (idl_holdN hK2 1) _ _ _ rfl (fun _=>stepG_seq) ?_
  refine Idl.step (idl_holdN hK2 1) _ _ _ rfl (fun _=>stepG_region) ?_
  simp only [List.size_toArray,List.length_cons,List.length_nil,Nat.reduceAdd,Nat.zero_add,List.range,List.range.loop]
  iterate 3 (refine Idl.v (idl_holdN hK2 1) ?_; walk_nrm)
  refine Idl.unwanted (idl_holdN hK2 1) rfl rfl ?_
  walk_nrm
  refine Idl.unwanted (idl_holdN hK2 1) rfl rfl ?_
  walk_nrm
  refine Idl.v (idl_holdN hK2 1) ?_
  walk_nrm
  refine Idl.step (idl_holdN hK2 1) _ _ _ rfl (fun _=>stepG_region_end) ?_
  refine Idl.cond (idl_holdN hK2 1) true rfl ?_
  simp only [if_true,if_false,Bool.false_eq_true,↓reduceIte]
  refine Idl.step (idl_holdN hK2 1) _ _ _ rfl (fun _=>stepG_ret') ?_
  refine holds_unwind_mark hK2 (d':=0) .enable (.inr ⟨rfl,rfl⟩) (by simp) rfl H.f_enable (x_enable_n L) (x_enable_b L) (x_enable_x L) (x_enable_f L) ?_
  change HoldN P h 0 (Upped h b K) F (1+1) _
  refine Idl.leave0 (idl_holdN hK2 0) rfl rfl H.f_add rfl ?_
  exact hT
 ·have d4:decide (V=1)=false:=decide_eq_false h1
  have d5:(V == 1)=false:=by simpa using h1
  clear hV e1
  skip
  simp only [d5]
  refine Idl.cond (idl_holdN hK2 1) false rfl ?_
  simp only [if_true,if_false,Bool.false_eq_true,↓reduceIte]
  refine Idl.step (idl_holdN hK2 1) _ _ _ rfl (fun _=>stepG_skip) ?_
  refine Idl.step (idl_holdN hK2 1) _ _ _ rfl (fun _=>stepG_seq) ?_
  refine Idl.step (idl_holdN hK2 1) _ _ _ rfl (fun _=>stepG_seq) ?_
  refine Idl.step (idl_holdN hK2 1) _ _ _ rfl (fun _=>stepG_region) ?_
  simp only [List.size_toArray,List.length_cons,List.length_nil,Nat.reduceAdd,Nat.zero_add,List.range,List.range.loop]
  iterate 2 (refine Idl.v (idl_holdN hK2 1) ?_; walk_nrm)
  refine Idl.step (idl_holdN hK2 1) _ _ _ rfl (fun _=>stepG_region_end) ?_
  refine Idl.cond (idl_holdN hK2 1) false rfl ?_
  simp only [if_true,if_false,Bool.false_eq_true,↓reduceIte]
  refine Idl.step (idl_holdN hK2 1) _ _ _ rfl (fun _=>stepG_skip) ?_
  refine Idl.step (idl_holdN hK2 1) _ _ _ rfl (fun _=>stepG_seq) ?_
  refine Idl.step (idl_holdN hK2 1) _ _ _ rfl (fun _=>stepG_seq) ?_
  refine Idl.step (idl_holdN hK2 1) _ _ _ rfl (fun _=>stepG_region) ?_
  simp only [List.size_toArray,List.length_cons,List.length_nil,Nat.reduceAdd,Nat.zero_add,List.range,List.range.loop]
  iterate 3 (refine Idl.v (idl_holdN hK2 1) ?_; walk_nrm)
  refine Idl.unwanted (idl_holdN hK2 1) rfl rfl ?_
  walk_nrm
  refine Idl.unwanted (idl_holdN hK2 1) rfl rfl ?_
  walk_nrm
  iterate 2 (refine Idl.v (idl_holdN hK2 1) ?_; walk_nrm)
  refine Idl.unwanted (idl_holdN hK2 1) rfl rfl ?_
  walk_nrm
  refine Idl.unwanted (idl_holdN hK2 1) rfl rfl ?_
  walk_nrm
  refine Idl.unwanted (idl_holdN hK2 1) rfl rfl ?_
  walk_nrm
  refine Idl.unwanted (idl_holdN hK2 1) rfl rfl ?_
  walk_nrm
  refine Idl.v (idl_holdN hK2 1) ?_
  walk_nrm
  refine Idl.step (idl_holdN hK2 1) _ _ _ rfl (fun _=>stepG_region_end) ?_
  refine Idl.cond (idl_holdN hK2 1) false rfl ?_
  simp only [if_true,if_false,Bool.false_eq_true,↓reduceIte]
  refine Idl.step (idl_holdN hK2 1) _ _ _ rfl (fun _=>stepG_skip) ?_
  refine Idl.step (idl_holdN hK2 1) _ _ _ rfl (fun _=>stepG_seq) ?_
  refine Idl.step (idl_holdN hK2 1) _ _ _ rfl (fun _=>stepG_seq) ?_
  refine Idl.step (idl_holdN hK2 1) _ _ _ rfl (fun _=>stepG_region) ?_
  simp only [List.size_toArray,List.length_cons,List.length_nil,Nat.reduceAdd,Nat.zero_add,List.range,List.range.loop]
  iterate 3 (refine Idl.v (idl_holdN hK2 1) ?_; walk_nrm)
  refine Idl.unwanted (idl_holdN hK2 1) rfl rfl ?_
  walk_nrm
  refine Idl.unwanted (idl_holdN hK2 1) rfl rfl ?_
  walk_nrm
  refine Idl.v (idl_holdN hK2 1) ?_
  walk_nrm
  refine Idl.step (idl_holdN hK2 1) _ _ _ rfl (fun _=>stepG_region_end) ?_
  refine Idl.cond (idl_holdN hK2 1) true rfl ?_
  simp only [if_true,if_false,Bool.false_eq_true,↓reduceIte]
  refine Idl.step (idl_holdN hK2 1) _ _ _ rfl (fun _=>stepG_ret') ?_
  refine holds_unwind_mark hK2 (d':=0) .enable (.inr ⟨rfl,rfl⟩) (by simp) rfl H.f_enable (x_enable_n L) (x_enable_b L) (x_enable_x L) (x_enable_f L) ?_
  change HoldN P h 0 (Upped h b K) F (1+1) _
  refine Idl.leave0 (idl_holdN hK2 0) rfl rfl H.f_add rfl ?_
  exact hT
end Go.Proofs.Ytimlbbleblijnaa.Co

namespace Go.Proofs.Ytimlbbleblijnaa.Co
open Go Go.Conc
abbrev wgLink:Go.Conc.Lib.WgLink:={ add:=72,done:=117,wait:=76,relMerge:=104,disable:=105,enable:=106,inBubble:=107,associate:=108,fatal:=109,uOr:=110,uAdd:=111,raceRead:=112,uLoad:=113,uStore:=114,disassociate:=115,semrelease:=116,acquire:=119,isAssociated:=120,uCas:=121,raceWrite:=122,semacquire:=123,orU64:=143,addU64:=144,loadU64:=145,storeU64:=146,casU64:=147,tWgP:=152,tUP:=154,tAssoc:=155,tWg:=102,tAU:=99,tU64:=97,tUint:=159,tU32:=100,tPU32:=160,tPAU:=187,tPU64:=189,tNoCopy:=96,tANoCopy:=41,tAlign64:=42 }
theorem wgLib:Go.Conc.Lib.WgLib Try.prog wgLink:=by
 constructor <;> first | kernel_rfl | (intro w; kernel_rfl)
end Go.Proofs.Ytimlbbleblijnaa.Co

namespace Go.Proofs.Ytimlbbleblijnaa.Co
open Go.Conc
open Go.Conc.Lib Go.ConcR.Gen in
theorem done_ends {P:Program} {L:WgLink} (H:WgLib P L) {b:Nat} {cs:List Frame} {qt:Nat}
  (hT:QuitsD P qt 0 (G { (baseD L.done).at ⟨#[.pointer (some (stZ b)),undef,.pointer (some (stZ b)),.tuple #[]],[]⟩ [] with mode:=.returning } cs)) :
  Ends P b (qt+340) 0 (G ((baseD L.done).at ⟨#[.pointer (some (stZ b))] ++ Array.replicate 3 undef,[]⟩ [.code ((doneFn L).body.getD .skip)]) cs):=by
 lib_facts
 simp only [doneFn,Option.getD_some]
 walk_nrm
 refine Idl.step (idl_ends P b 0) _ _ _ rfl (fun _=>stepG_region) ?_
 simp only [List.size_toArray,List.length_cons,List.length_nil,Nat.reduceAdd,Nat.zero_add,List.range,List.range.loop]
 refine Idl.v (idl_ends P b 0) ?_
 walk_nrm
 refine Idl.call (idl_ends P b 0) rfl rfl (by exact Go.ConcR.Gen.baseD_kind _) rfl H.f_add (by kernel_rfl) rfl ?_
 have e:∀ {n m:Nat} {g:Goroutine},n=m→Ends P b n 0 g→Ends P b m 0 g:=fun e h=>e ▸ h
 refine e (n:=(qt+37)+300) (by omega) ?_
 have ea:Array.map (⟨#[Value.pointer (some (stZ b)),undef,Value.pointer (some (stZ b)),undef],[]⟩:Act).eval #[Operand.tmp 2,Operand.const (Value.int IntKind.i64 (-1))] ++ Array.replicate ((addFn L).ntmps - (Array.map (⟨#[Value.pointer (some (stZ b)),undef,Value.pointer (some (stZ b)),undef],[]⟩:Act).eval #[Operand.tmp 2,Operand.const (Value.int IntKind.i64 (-1))]).size) undef=#[.pointer (some (stZ b)),.int .i64 (-1)] ++ Array.replicate 115 undef:=by kernel_rfl
 rw [ea]
 have key:=@addNeg_ends P L H b
 simp only [addFn,Option.getD_some] at key
 refine key ?_
 walk_nrm
 refine Idl.step (idl_quits P 0) _ _ _ rfl (fun _=>stepG_region_end) ?_
 refine Idl.step (idl_quits P 0) _ _ _ rfl (fun _=>stepG_end) ?_
 exact quitsD_up hT (by omega)
end Go.Proofs.Ytimlbbleblijnaa.Co

namespace Go.Proofs.Ytimlbbleblijnaa.Co
open Go.Conc
theorem clo_gw (P:Program) (main:Bool) (W:Nat→Bool) (D:World→World→Array Event→Prop) (S:Goroutine→World→Prop):Clo P main W D (GW P main W D S):=by
 refine ⟨fun g w hg=>?_,fun g w w₁ hA hg=>hg.rely Aw.trans hA⟩
 refine GoesW.bind (Aw.refl _) hg fun g' w' h=>?_
 exact h w' (Aw.refl _ _)
def GWn (P:Program) (main:Bool) (W:Nat→Bool) (D:World→World→Array Event→Prop) (S:Goroutine→World→Prop) (w:World) (_n:Nat) (g:Goroutine):Prop:=GW P main W D S g w
theorem idl_gw (P:Program) (main:Bool) (E:Env) (S:Goroutine→World→Prop) (w:World):Idl P main (GWn P main E.W E.D S w) :=
 ⟨fun n g g' hs hst hg=>(idl_clo (clo_gw P main E.W E.D S) (fun _=>dg_nil _) w).step n g g' hs hst hg⟩
end Go.Proofs.Ytimlbbleblijnaa.Co

namespace Go.Proofs.Ytimlbbleblijnaa.Co
open Go.Conc
open Go.ConcN (sumTo upd sumTo_upd upd_ne upd_same sumTo_congr le_sumTo)
def Live (b:Nat) (w:World):Prop:=∃ st sm,GroupAt b w st sm
section
variable {P:Program} {main:Bool} {E:Env} {S:Goroutine→World→Prop} {w:World} {n:Nat} {b:Nat}
theorem aw_live {W:Nat→Bool} {w w1:World} {b:Nat} (hW:W b=true) (hA:Aw W w w1) (h:Live b w):Live b w1:=by
 obtain ⟨st,sm,x,e,hh⟩:=h
 obtain ⟨st',sm',h1⟩:=hA.run b hW _ _ _ _ hh
 exact ⟨st',sm',_,_,h1⟩
theorem gw_live (hW:E.W b=true) (hL:Live b w) {fr:Frame} {a:Act} {k:List Item} {cs:List Frame} {ops:Array Oper} {i:Nat} {rest:List Nat} {o:Oper} (v:Value) (ho:ops[i]?=some o) (hw:Region.wanted o (yielded ops a.tmps)=true) (hk:fr.kind≠.early)
  (hr:∀ w st sm,GroupAt b w st sm→(execOp a.eval o).run P w=.ok (.value v) w∧(execOp a.eval o).events P w #[]=#[]) (hg:GWn P main E.W E.D S w n (G (fr.at (a.put o.dst v) (.inRegion ops rest :: k)) cs)):GWn P main E.W E.D S w (n+1) (G (fr.at a (.inRegion ops (i :: rest) :: k)) cs) :=
 (clo_gw P main E.W E.D S).own rfl fun w₁ h1=>by
  obtain ⟨st,sm,hG⟩:=aw_live hW h1 hL
  obtain ⟨e1,e2⟩:=hr w₁ st sm hG
  exact ⟨_,w₁,#[],by rw [stepG_value ho hw hk e1]; unfold listed; rw [e2,seen_none],dg_nil _,(clo_gw P main E.W E.D S).rely _ _ _ h1 hg⟩
theorem gw_said (hb:Live b w) (hW:E.W b=true) (hS:∀ a,E.S a→E.W a.block=false) {g g':Goroutine} (hs:g.status=.running) (hst:∀ w,stepG P main g w=.go g' w #[mkE (.write (smZ b))]) (hg:GWn P main E.W E.D S w n g'):GWn P main E.W E.D S w (n+1) g :=
 (clo_gw P main E.W E.D S).own hs fun w₁ h1=>by
  obtain ⟨st,sm,hG⟩:=aw_live hW h1 hb
  refine ⟨_,w₁,_,hst w₁,⟨Nat.le_refl _,fun _ _=>rfl,fun _ _=>rfl,fun _ _ x _ _ _ e=>⟨x,e⟩,fun h=>h,fun e he=>?_,⟨rfl,rfl⟩⟩,(clo_gw P main E.W E.D S).rely _ _ _ h1 hg⟩
  obtain rfl:e=mkE (.write (smZ b)):=by simpa using he
  refine ⟨fun t ht=>?_,by simp [mkE],by simp [mkE],hG.lt⟩
  have ht':t=⟨.cell (smZ b),true,.said⟩:=by simp [mkE,MemAct.ofEvent,MemAct.touch?] at ht; exact ht.symm
  subst ht'
  refine ⟨fun a e hs=>?_,fun _=>by simp⟩
  cases e
  have:=hS _ hs
  rw [show (smZ b).block=b from rfl,hW] at this
  cases this
end
def Emptied (h b:Nat) (K:Env→World→Prop) (E:Env) (w:World):Prop:=∃ E0 w0,K E0 w0∧E0.Eq h E∧Aw E0.W w0 w∧∀ x,E.wg x≠some b
theorem Emptied.bears {h b:Nat} {K:Env→World→Prop}:Bears h (Emptied h b K):=fun E E1 w w1 hE hA ⟨E0,w0,k,e1,e2,e3⟩ =>
 ⟨E0,w0,k,e1.trans hE,e2.trans _ _ _ (by have:E.W=E0.W:=e1.W'; rw [← this]; exact hA),fun x hx=>e3 x (hE.wg x b hx)⟩
theorem holds_acq {P:Program} {h d:Nat} {K:Env→World→Prop} {F:Machine→Trace→Prop} {g g':Goroutine} (hK:Bears h K) {b:Nat} (hW:∀ E w,K E w→E.W b=true) (hs:g.status=.running) (hst:∀ w,stepG P (h == 0) g w=.go g' w #[mkE (.acquire (stZ b))]) (hg:Holds P h d K F g'):Holds P h d K F g :=
 Holds.own hK hs (fun E w gs T q sl k C ha=>by
  have hG:=C.groups b (hW E w k)
  obtain ⟨C',ha'⟩:=C.own (a':=g') (w':=w) (es:=#[mkE (.acquire (stZ b))]) ha ⟨Nat.le_refl _,fun _ _=>rfl,fun _ _=>rfl,fun _ _ x _ _ _ e=>⟨x,e⟩,fun h=>h,fun e he=>by
   obtain rfl:e=mkE (.acquire (stZ b)):=by simpa using he
   refine ⟨fun t ht=>?_,by simp [mkE],by simp [mkE],?_⟩
   ·simp [mkE,MemAct.ofEvent,MemAct.touch?] at ht
   ·show (stZ b).block < w.heap.size
    exact hG.lt,⟨rfl,rfl⟩⟩
  exact ⟨_,_,_,_,E,q,runT_crowd_go ha (hst w),k,C',ha'⟩) hg
def AnchW (L:Go.Conc.Lib.WgLink) (b:Nat) (W:Nat→Bool) (w0:World) (c:Frame) (cs:List Frame) (g:Goroutine) (w:World):Prop :=
 ∃ T:Array Value,g=G ((Go.Conc.base L.wait).at ⟨T,[]⟩ [.code (Go.ConcR.Gen.L7 L),.inLoop (Go.ConcR.Gen.L7 L),.inBlock 0]) (c :: cs)∧T.size=84∧T[0]?=some (.pointer (some (stZ b)))∧Live b w∧Aw W w0 w
def FinW (P:Program) (h b:Nat) (K:Env→World→Prop) (F:Machine→Trace→Prop) (W:Nat→Bool) (w0:World) (g:Goroutine) (w:World):Prop:=Aw W w0 w∧Holds P h 1 (Emptied h b K) F g
end Go.Proofs.Ytimlbbleblijnaa.Co
