/- Lemmas for the laws of this seat, laid together of PGv, PGw. -/
import Derived.Test.YtimlbbleblijnaaX06
import Derived.Conc.WgGenN3
import Derived.Lib.Hide
import Lean.Elab.Tactic

open Go.ConcR.Gen (base_kind baseD_kind)
set_option linter.unusedVariables false
set_option linter.unusedSimpArgs false
set_option maxRecDepth 100000
set_option maxHeartbeats 4000000
namespace Go.Proofs.Ytimlbbleblijnaa.Co
open Go.Conc
theorem quitsD_up {P:Program}:∀ {n m d:Nat} {g:Goroutine},QuitsD P n d g→n≤m→QuitsD P m d g
 | 0,0,_,_,h,_=>h
 | 0,m+1,_,_,h,_=>.inl h
 | n+1,0,_,_,_,hl=>absurd hl (by omega)
 | n+1,m+1,_,_,h,hl=>h.imp id fun ⟨hs,g',es,h1,h2,h3⟩=>⟨hs,g',es,h1,h2,quitsD_up h3 (by omega)⟩
structure Idl (P:Program) (main:Bool) (A:Nat→Goroutine→Prop):Prop where
 step:∀ n g g',g.status=.running→(∀ w,stepG P main g w=.go g' w #[])→A n g'→A (n+1) g
theorem idl_quits (P:Program) (d:Nat):Idl P false (fun n g=>QuitsD P n d g):=⟨fun n g g' hs h hg=>.ctl hs h hg⟩
theorem idl_ends (P:Program) (b d:Nat):Idl P false (fun n g=>Ends P b n d g):=⟨fun n g g' hs h hg=>⟨hs,fun w _ _ _ _ _=>⟨g',w,#[],h w,.inl ⟨rfl,rfl,hg⟩⟩⟩⟩
theorem idl_lasts (P:Program) (b:Nat) (f:Bool):Idl P false (fun n g=>Lasts P b n f g):=⟨fun n g g' hs h hg=>by
 cases f with
 | false=>exact ⟨hs,fun w _=>⟨g',w,#[],h w,.inl ⟨rfl,.inl rfl,hg⟩⟩⟩
 | true=>exact ⟨hs,fun w _=>⟨g',w,#[],h w,.inl ⟨rfl,rfl,hg⟩⟩⟩⟩
theorem idl_sits (P:Program) (main:Bool) (S:Addr→Option Value) (Stop:Goroutine→World→Prop) (w:World):Idl P main (fun n g=>Goes P main (fun _ w₁=>KS S w₁) (fun w w' es=>w'=w∧∀ e ∈ es,EvS S e) (fun g _=>Stop g w) n g w) :=
 ⟨fun n g g' hs h hg=>Goes.step hs fun w₁ _=>by
  rw [h w₁]
  refine ⟨⟨rfl,fun e he=>by simp at he⟩,?_⟩
  have key:∀ (n:Nat) (g:Goroutine) (w w':World),Goes P main (fun _ w₁=>KS S w₁) (fun w w' es=>w'=w∧∀ e ∈ es,EvS S e) (fun g _=>Stop g w) n g w→True:=fun _ _ _ _ _=>trivial
  cases n with
  | zero=>exact hg
  | succ n=>exact hg⟩
theorem idl_clo {P:Program} {main:Bool} {W:Nat→Bool} {D:World→World→Array Event→Prop} {Good:Goroutine→World→Prop} (c:Clo P main W D Good) (hD:∀ w,D w w #[]) (w:World):Idl P main (fun _ g=>Good g w) :=
 ⟨fun n g g' hs h hg=>c.ctl hD hs h hg⟩
section
variable {P:Program} {main:Bool} {A:Nat→Goroutine→Prop} {n:Nat} {b:Frame} {a:Act} {k:List Item} {cs:List Frame}
theorem Idl.value (I:Idl P main A) {ops:Array Oper} {i:Nat} {rest:List Nat} {o:Oper} {v:Value} (ho:ops[i]?=some o) (hw:Region.wanted o (yielded ops a.tmps)=true) (hk:b.kind≠.early)
  (hr:∀ w,(execOp a.eval o).run P w=.ok (.value v) w) (he:∀ w,(execOp a.eval o).events P w #[]=#[]) (hg:A n (G (b.at (a.put o.dst v) (.inRegion ops rest :: k)) cs)):A (n+1) (G (b.at a (.inRegion ops (i :: rest) :: k)) cs) :=
 I.step _ _ _ rfl (fun w=>by rw [stepG_value ho hw hk (hr w)]; unfold listed; rw [he w,seen_none]) hg
theorem Idl.v (I:Idl P main A) {ops:Array Oper} {i:Nat} {rest:List Nat} {o:Oper} {v:Value} (hg:A n (G (b.at (a.put o.dst v) (.inRegion ops rest :: k)) cs)) (ho:ops[i]?=some o:=by exact rfl) (hw:Region.wanted o (yielded ops a.tmps)=true:=by exact rfl) (hk:b.kind≠.early:=by first | decide | exact Go.ConcR.Gen.base_kind _ | exact Go.ConcR.Gen.baseD_kind _ | assumption) (hr:∀ w,(execOp a.eval o).run P w=.ok (.value v) w:=by (intro w; go_simp; (try w_num); first | done | rfl)) (he:∀ w,(execOp a.eval o).events P w #[]=#[]:=by (intro w; simp [go_sem, *])):A (n+1) (G (b.at a (.inRegion ops (i :: rest) :: k)) cs):=Idl.value I ho hw hk hr he hg
theorem Idl.unwanted (I:Idl P main A) {ops:Array Oper} {i:Nat} {rest:List Nat} {o:Oper} (ho:ops[i]?=some o) (hw:Region.wanted o (yielded ops a.tmps)=false) (hg:A n (G (b.at (a.put o.dst undef) (.inRegion ops rest :: k)) cs)) :
  A (n+1) (G (b.at a (.inRegion ops (i :: rest) :: k)) cs):=I.step _ _ _ rfl (fun w=>stepG_unwanted ho hw) hg
theorem Idl.cond (I:Idl P main A) {o:Operand} {x y:Code} (t:Bool) (ht:a.eval o=.bool t) (h:A n (G (b.at a (.code (if t then x else y) :: k)) cs)):A (n+1) (G (b.at a (.code (.cond o x y) :: k)) cs):=I.step _ _ _ rfl (fun _=>stepG_cond ht) h
theorem Idl.exit (I:Idl P main A) {id:Nat} {k':List Item} (hk:exitTo id k=some k') (h:A n (G (b.at a k') cs)):A (n+1) (G (b.at a (.code (.exit id) :: k)) cs):=I.step _ _ _ rfl (fun _=>stepG_exit hk) h
theorem Idl.leave0 (I:Idl P main A) {fn:Func} {todo:List Item} {b₀:Frame} {a₀:Act} {ops:Array Oper} {i:Nat} {rest:List Nat} (hn:b.kind=.normal) (hd:a.defers=[]) (hf:P.funcs[b.fn]?=some fn) (hr:fn.results=#[])
  (hg:A n (G (b₀.at (a₀.put ((ops[i]?).bind (·.dst)) (.tuple #[])) (.inRegion ops rest :: k)) cs)):A (n+1) (G { b.at a todo with mode:=.returning } (b₀.at a₀ (.inRegion ops (i :: rest) :: k) :: cs)) :=
 I.step _ _ _ rfl (fun w=>by rw [stepG_leave hn hd hf (results_none hr _ P w) (events_results_none hr _ _),Frame.finish_at]) hg
theorem Idl.leave1 (I:Idl P main A) {fn:Func} {t:Tmp} {todo:List Item} {b₀:Frame} {a₀:Act} {ops:Array Oper} {i:Nat} {rest:List Nat} (hn:b.kind=.normal) (hd:a.defers=[]) (hf:P.funcs[b.fn]?=some fn) (hr:fn.results=#[.tmp t])
  (hg:A n (G (b₀.at (a₀.put ((ops[i]?).bind (·.dst)) (a.tmps.getD t undef)) (.inRegion ops rest :: k)) cs)):A (n+1) (G { b.at a todo with mode:=.returning } (b₀.at a₀ (.inRegion ops (i :: rest) :: k) :: cs)) :=
 I.step _ _ _ rfl (fun w=>by rw [stepG_leave hn hd hf (results_tmp hr _ P w) (events_results_tmp hr _ _),Frame.finish_at]) hg
theorem Idl.call (I:Idl P main A) {ops:Array Oper} {i:Nat} {rest:List Nat} {o:Oper} {f:FuncId} {fn:Func} {c:Code} {args:Array Operand} {ats:Array TypeId} (ho:ops[i]?=some o) (hw:Region.wanted o (yielded ops a.tmps)=true) (hk:b.kind≠.early)
  (hop:o.op=.call { callee:=.value (.func f),args,argTypes:=ats }) (hf:P.funcs[f]?=some fn) (hname:(fn.name == "runtime.NumGoroutine")=false) (hb:fn.body=some c)
  (hg:A n (G ((base f).at { tmps:=args.map a.eval ++ Array.replicate (fn.ntmps - (args.map a.eval).size) undef,defers:=[] } [.code c]) (b.at a (.inRegion ops (i :: rest) :: k) :: cs))):A (n+1) (G (b.at a (.inRegion ops (i :: rest) :: k)) cs):=by
 refine I.step _ _ _ rfl (fun w=>?_) hg
 have hb':fn.body.isNone=false:=by rw [hb]; rfl
 rw [stepG_enter ho hw hk (run_call_body hop hf hname hb'),enter_at _ hf hb]
 have:listed P b.fn a o w=#[]:=by unfold listed; rw [events_call_body hop hf hname hb']; exact seen_none P _
 rw [this]
end
section
variable {P:Program} {main:Bool} {A:Nat→Goroutine→Prop} {n:Nat} {b:Frame} {a:Act} {k:List Item} {cs:List Frame} {x y:Code}
theorem Idl.q (I:Idl P main A) (hg:A n (G (b.at a (.code x :: .code y :: k)) cs)):A (n+1) (G (b.at a (.code (.seq x y) :: k)) cs):=I.step _ _ _ rfl (fun _=>stepG_seq) hg
theorem Idl.sk (I:Idl P main A) (hg:A n (G (b.at a k) cs)):A (n+1) (G (b.at a (.code .skip :: k)) cs):=I.step _ _ _ rfl (fun _=>stepG_skip) hg
theorem Idl.bl (I:Idl P main A) {id:Nat} (hg:A n (G (b.at a (.code x :: .inBlock id :: k)) cs)):A (n+1) (G (b.at a (.code (.block id x) :: k)) cs):=I.step _ _ _ rfl (fun _=>stepG_block) hg
theorem Idl.lp (I:Idl P main A) (hg:A n (G (b.at a (.code x :: .inLoop x :: k)) cs)):A (n+1) (G (b.at a (.code (.loop x) :: k)) cs):=I.step _ _ _ rfl (fun _=>stepG_loop) hg
theorem Idl.ib (I:Idl P main A) {id:Nat} (hg:A n (G (b.at a k) cs)):A (n+1) (G (b.at a (.inBlock id :: k)) cs):=I.step _ _ _ rfl (fun _=>stepG_inBlock) hg
theorem Idl.il (I:Idl P main A) (hg:A n (G (b.at a (.code x :: .inLoop x :: k)) cs)):A (n+1) (G (b.at a (.inLoop x :: k)) cs):=I.step _ _ _ rfl (fun _=>stepG_inLoop) hg
theorem Idl.lb (I:Idl P main A) {l:Nat} (hg:A n (G (b.at a k) cs)):A (n+1) (G (b.at a (.code (.label l) :: k)) cs):=I.step _ _ _ rfl (fun _=>stepG_label) hg
theorem Idl.rt (I:Idl P main A) (hg:A n (G { b.at a (.code .ret :: k) with mode:=.returning } cs)):A (n+1) (G (b.at a (.code .ret :: k)) cs):=I.step _ _ _ rfl (fun _=>stepG_ret') hg
theorem Idl.en (I:Idl P main A) (hg:A n (G { b.at a [] with mode:=.returning } cs)):A (n+1) (G (b.at a []) cs):=I.step _ _ _ rfl (fun _=>stepG_end) hg
theorem Idl.re (I:Idl P main A) {ops:Array Oper} (hg:A n (G (b.at a k) cs)):A (n+1) (G (b.at a (.inRegion ops [] :: k)) cs):=I.step _ _ _ rfl (fun _=>stepG_region_end) hg
theorem Idl.rg (I:Idl P main A) {id:Nat} {ops:Array Oper} (l:List Nat) (hl:List.range ops.size=l) (hg:A n (G (b.at a (.inRegion ops l :: k)) cs)):A (n+1) (G (b.at a (.code (.region id ops false) :: k)) cs):=I.step _ _ _ rfl (fun _=>stepG_region) (hl ▸ hg)
theorem Idl.ct (I:Idl P main A) {o:Operand} (ht:a.eval o=.bool true) (hg:A n (G (b.at a (.code x :: k)) cs)):A (n+1) (G (b.at a (.code (.cond o x y) :: k)) cs):=Idl.cond I true ht hg
theorem Idl.cf (I:Idl P main A) {o:Operand} (ht:a.eval o=.bool false) (hg:A n (G (b.at a (.code y :: k)) cs)):A (n+1) (G (b.at a (.code (.cond o x y) :: k)) cs):=Idl.cond I false ht hg
end
theorem GroupAt.st {b:Nat} {w:World} {st sm:Int} (h:GroupAt b w st sm):w.cell? (stZ b)=some (.int .u64 st):=by
 obtain ⟨x,e,h⟩:=h
 simp [World.cell?,stZ,h,runObj]
theorem GroupAt.sm {b:Nat} {w:World} {st sm:Int} (h:GroupAt b w st sm):w.cell? (smZ b)=some (.int .u32 sm):=by
 obtain ⟨x,e,h⟩:=h
 simp [World.cell?,smZ,h,runObj]
theorem GroupAt.thaw {b:Nat} {w:World} {st sm:Int} (h:GroupAt b w st sm) (o:Nat):w.frozen? ⟨b,o,none⟩=false:=by
 obtain ⟨x,e,h⟩:=h
 simp [World.frozen?,h,runObj]
section
variable {P:Program} {g g':Goroutine} {b n d:Nat}
theorem ends_live {fr:Frame} {a:Act} {k:List Item} {cs:List Frame} {ops:Array Oper} {i:Nat} {rest:List Nat} {o:Oper} (v:Value) (ho:ops[i]?=some o) (hw:Region.wanted o (yielded ops a.tmps)=true) (hk:fr.kind≠.early)
  (hr:∀ w st sm,GroupAt b w st sm→(execOp a.eval o).run P w=.ok (.value v) w∧(execOp a.eval o).events P w #[]=#[]) (hg:Ends P b n d (G (fr.at (a.put o.dst v) (.inRegion ops rest :: k)) cs)):Ends P b (n+1) d (G (fr.at a (.inRegion ops (i :: rest) :: k)) cs) :=
 ⟨rfl,fun w _ _ _ _ hG=>⟨_,w,#[],by rw [stepG_value ho hw hk (hr w _ _ hG).1]; unfold listed; rw [(hr w _ _ hG).2,seen_none],.inl ⟨rfl,rfl,hg⟩⟩⟩
theorem ends_rel (hs:g.status=.running) (h:∀ w,stepG P false g w=.go g' w #[mkE (.releaseMerge (stZ b))]) (hg:Ends P b n 0 g'):Ends P b (n+1) 0 g:=⟨hs,fun w _ _ _ _ _=>⟨g',w,_,h w,.inr (.inl ⟨rfl,rfl,rfl,hg⟩)⟩⟩
theorem ends_dis (hs:g.status=.running) (h:∀ w,stepG P false g w=.go g' w #[mkE .disable]) (hg:Ends P b n 1 g'):Ends P b (n+1) 0 g:=⟨hs,fun w _ _ _ _ _=>⟨g',w,_,h w,.inr (.inr (.inl ⟨rfl,rfl,rfl,hg⟩))⟩⟩
theorem ends_add (hs:g.status=.running) (h:∀ (w:World) (v wt:Nat),v < 2147483647→wt≤1→GroupAt b w (((v:Int)+1) * KK+wt) 0 →
  ∃ g',stepG P false g w=.go g' (w.setCell (stZ b) (.int .u64 ((v:Int) * KK+wt))) #[rdE (stZ b),wrE (stZ b)]∧((v=0∧wt=1)→Lasts P b n false g')∧(¬ (v=0∧wt=1)→QuitsD P n 1 g')):Ends P b (n+1) 1 g :=
 ⟨hs,fun w v wt hv hw hG=>by
  obtain ⟨g',h1,h2,h3⟩:=h w v wt hv hw hG
  exact ⟨g',_,_,h1,.inr (.inr (.inr ⟨rfl,rfl,rfl,h2,h3⟩))⟩⟩
end
section
variable {P:Program} {g g':Goroutine} {b n d:Nat}
theorem lasts_read (hs:g.status=.running) (h:∀ w,GroupAt b w 1 0→stepG P false g w=.go g' w #[rdE (stZ b)]) (hg:Lasts P b n false g'):Lasts P b (n+1) false g:=⟨hs,fun w hG=>⟨g',w,_,h w hG,.inl ⟨rfl,.inr rfl,hg⟩⟩⟩
theorem lasts_store (hs:g.status=.running) (h:∀ w,GroupAt b w 1 0→stepG P false g w=.go g' (w.setCell (stZ b) (.int .u64 0)) #[wrE (stZ b)]) (hg:Lasts P b n true g'):Lasts P b (n+1) false g:=⟨hs,fun w hG=>⟨g',_,_,h w hG,.inr ⟨rfl,rfl,hg⟩⟩⟩
theorem lasts_sem (hs:g.status=.running) (h:∀ w,GroupAt b w 0 0→stepG P false g w=.go g' (w.setCell (smZ b) (.int .u32 1)) (semEvents (smZ b))) (hm:mayWake P g=true) (hg:QuitsD P n 1 g'):Lasts P b (n+1) true g:=⟨hs,fun w hG=>⟨g',_,_,h w hG,.inr ⟨rfl,rfl,hm,hg⟩⟩⟩
end
theorem wrap_dec (v wt:Nat) (hv:v < 2147483647) (hw:wt≤1):IntKind.u64.wrap (((v:Int)+1) * KK+wt+18446744069414584320)=(v:Int) * KK+wt:=by
 rw [IntKind.wrap_u64]
 unfold KK
 omega
open Go.Conc.Lib Go.ConcR.Gen in
theorem addNeg_ends {P:Program} {L:WgLink} (H:WgLib P L) {b:Nat} {b₀:Frame} {a₀:Act} {ops₀:Array Oper} {i₀:Nat} {rest₀:List Nat} {k₀:List Item} {cs:List Frame} {qt:Nat}
  (hT:QuitsD P qt 0 (G (b₀.at (a₀.put ((ops₀[i₀]?).bind (·.dst)) (.tuple #[])) (.inRegion ops₀ rest₀ :: k₀)) cs)) :
  Ends P b (qt+300) 0 (G ((base L.add).at ⟨#[.pointer (some (stZ b)),.int .i64 (-1)] ++ Array.replicate 115 undef,[]⟩ [.code ((addFn L).body.getD .skip)]) (b₀.at a₀ (.inRegion ops₀ (i₀ :: rest₀) :: k₀) :: cs)):=by
 lib_facts
 simp only [addFn,Option.getD_some]
 walk_nrm
 refine Idl.step (idl_ends P b 0) _ _ _ rfl (fun _=>stepG_seq) ?_
 refine Idl.cond (idl_ends P b 0) true rfl ?_
 simp only [if_true,if_false,Bool.false_eq_true,↓reduceIte]
 refine Idl.step (idl_ends P b 0) _ _ _ rfl (fun _=>stepG_seq) ?_
 refine Idl.step (idl_ends P b 0) _ _ _ rfl (fun _=>stepG_seq) ?_
 refine Idl.step (idl_ends P b 0) _ _ _ rfl (fun _=>stepG_region) ?_
 simp only [List.size_toArray,List.length_cons,List.length_nil,Nat.reduceAdd,Nat.zero_add,List.range,List.range.loop]
 iterate 2 (refine Idl.v (idl_ends P b 0) ?_; walk_nrm)
 refine Idl.step (idl_ends P b 0) _ _ _ rfl (fun _=>stepG_region_end) ?_
 refine Idl.cond (idl_ends P b 0) true rfl ?_
 simp only [if_true,if_false,Bool.false_eq_true,↓reduceIte]
 refine Idl.step (idl_ends P b 0) _ _ _ rfl (fun _=>stepG_region) ?_
 simp only [List.size_toArray,List.length_cons,List.length_nil,Nat.reduceAdd,Nat.zero_add,List.range,List.range.loop]
 refine Idl.v (idl_ends P b 0) ?_
 walk_nrm
 refine ends_live (.pointer (some (stZ b))) rfl rfl (by k_ne) (fun w st sm hG=>?_) ?_
 ·have hcv:=run_convert_to_unsafe (P:=P) H.underlying_tWgP H.underlying_tUP H.room_tWg hG.st
  have hce:=fun es=>events_convert_to_unsafe (P:=P) H.underlying_tWgP H.underlying_tUP H.room_tWg hG.st es
  exact ⟨by go_simp,by simp [go_sem,hce]⟩
 walk_nrm
 refine ends_rel rfl (fun w=>stepG_markAt .releaseMerge (by simp) rfl rfl (by k_ne) rfl H.f_relMerge (x_relMerge_n L) (x_relMerge_b L) (x_relMerge_x L) (x_relMerge_f L) (by simp [Act.eval])) ?_
 walk_nrm
 refine Idl.step (idl_ends P b 0) _ _ _ rfl (fun _=>stepG_region_end) ?_
 refine Idl.step (idl_ends P b 0) _ _ _ rfl (fun _=>stepG_seq) ?_
 refine Idl.step (idl_ends P b 0) _ _ _ rfl (fun _=>stepG_region) ?_
 simp only [List.size_toArray,List.length_cons,List.length_nil,Nat.reduceAdd,Nat.zero_add,List.range,List.range.loop]
 refine ends_dis rfl (fun w=>stepG_mark0 .disable (by simp) rfl rfl (by k_ne) rfl H.f_disable (x_disable_n L) (x_disable_b L) (x_disable_x L) (x_disable_f L)) ?_
 walk_nrm
 refine Idl.step (idl_ends P b 1) _ _ _ rfl (fun _=>stepG_region_end) ?_
 refine Idl.step (idl_ends P b 1) _ _ _ rfl (fun _=>stepG_region) ?_
 simp only [List.size_toArray,List.length_cons,List.length_nil,Nat.reduceAdd,Nat.zero_add,List.range,List.range.loop]
 refine Idl.step (idl_ends P b 1) _ _ _ rfl (fun _=>(stepG_defer rfl rfl (by k_ne) rfl)) ?_
 walk_nrm
 refine Idl.step (idl_ends P b 1) _ _ _ rfl (fun _=>stepG_region_end) ?_
 refine Idl.step (idl_ends P b 1) _ _ _ rfl (fun _=>stepG_seq) ?_
 refine Idl.step (idl_ends P b 1) _ _ _ rfl (fun _=>stepG_region) ?_
 simp only [List.size_toArray,List.length_cons,List.length_nil,Nat.reduceAdd,Nat.zero_add,List.range,List.range.loop]
 refine Idl.v (idl_ends P b 1) ?_
 walk_nrm
 refine Idl.step (idl_ends P b 1) _ _ _ rfl (fun _=>stepG_region_end) ?_
 refine Idl.step (idl_ends P b 1) _ _ _ rfl (fun _=>stepG_seq) ?_
 refine Idl.step (idl_ends P b 1) _ _ _ rfl (fun _=>stepG_seq) ?_
 refine Idl.step (idl_ends P b 1) _ _ _ rfl (fun _=>stepG_region) ?_
 simp only [List.size_toArray,List.length_cons,List.length_nil,Nat.reduceAdd,Nat.zero_add,List.range,List.range.loop]
 refine Idl.step (idl_ends P b 1) _ _ _ rfl (fun _=>(stepG_entry_pure (.bool false) rfl rfl (by k_ne) rfl H.f_inBubble (x_inBubble_n L) (x_inBubble_b L) (x_inBubble_x L) (x_inBubble_f L))) ?_
 walk_nrm
 refine Idl.step (idl_ends P b 1) _ _ _ rfl (fun _=>stepG_region_end) ?_
 refine Idl.cond (idl_ends P b 1) false rfl ?_
 simp only [if_true,if_false,Bool.false_eq_true,↓reduceIte]
 refine Idl.step (idl_ends P b 1) _ _ _ rfl (fun _=>stepG_skip) ?_
 refine Idl.step (idl_ends P b 1) _ _ _ rfl (fun _=>stepG_seq) ?_
 refine Idl.step (idl_ends P b 1) _ _ _ rfl (fun _=>stepG_region) ?_
 simp only [List.size_toArray,List.length_cons,List.length_nil,Nat.reduceAdd,Nat.zero_add,List.range,List.range.loop]
 iterate 6 (refine Idl.v (idl_ends P b 1) ?_; walk_nrm)
 refine Idl.call (idl_ends P b 1) rfl rfl (by first | decide | exact base_kind _ | exact baseD_kind _ | assumption) rfl H.f_uAdd (nm_uAdd L) rfl ?_
 walk_nrmf uAddFn
 refine Idl.step (idl_ends P b 1) _ _ _ rfl (fun _=>stepG_seq) ?_
 refine Idl.step (idl_ends P b 1) _ _ _ rfl (fun _=>stepG_region) ?_
 simp only [List.size_toArray,List.length_cons,List.length_nil,Nat.reduceAdd,Nat.zero_add,List.range,List.range.loop]
 refine Idl.v (idl_ends P b 1) ?_
 walk_nrm
 refine Idl.step (idl_ends P b 1) _ _ _ rfl (fun _=>stepG_region_end) ?_
 refine Idl.step (idl_ends P b 1) _ _ _ rfl (fun _=>stepG_seq) ?_
 refine Idl.step (idl_ends P b 1) _ _ _ rfl (fun _=>stepG_region) ?_
 simp only [List.size_toArray,List.length_cons,List.length_nil,Nat.reduceAdd,Nat.zero_add,List.range,List.range.loop]
 iterate 4 (refine Idl.v (idl_ends P b 1) ?_; walk_nrm)
 refine ends_add rfl (fun w v wt hv hwt hG=>?_)
 refine ⟨_,(stepG_add_atomic rfl rfl (by k_ne) rfl H.f_addU64 (x_addU64_n L) (x_addU64_b L) (x_addU64_x L) .u64 (x_addU64_f L) rfl rfl hG.st (hG.thaw 1)).trans (by rw [wrap_dec v wt hv hwt]; rfl),fun hl=>?_,fun hl=>?_⟩
 ·obtain ⟨rfl,rfl⟩:=hl
  have z:((0:Nat):Int) * KK+((1:Nat):Int)=1:=by simp
  rw [z]
  clear hG
  walk_nrm
  refine Idl.v (idl_lasts P b false) ?_
  walk_nrm
  refine Idl.step (idl_lasts P b false) _ _ _ rfl (fun _=>stepG_region_end) ?_
  refine Idl.step (idl_lasts P b false) _ _ _ rfl (fun _=>stepG_ret') ?_
  refine Idl.leave1 (idl_lasts P b false) rfl rfl H.f_uAdd rfl ?_
  walk_nrm
  refine Idl.v (idl_lasts P b false) ?_
  walk_nrm
  refine Idl.step (idl_lasts P b false) _ _ _ rfl (fun _=>stepG_region_end) ?_
  refine Idl.step (idl_lasts P b false) _ _ _ rfl (fun _=>stepG_seq) ?_
  refine Idl.step (idl_lasts P b false) _ _ _ rfl (fun _=>stepG_seq) ?_
  refine Idl.step (idl_lasts P b false) _ _ _ rfl (fun _=>stepG_region) ?_
  simp only [List.size_toArray,List.length_cons,List.length_nil,Nat.reduceAdd,Nat.zero_add,List.range,List.range.loop]
  iterate 4 (refine Idl.v (idl_lasts P b false) ?_; walk_nrm)
  refine Idl.unwanted (idl_lasts P b false) rfl rfl ?_
  walk_nrm
  refine Idl.unwanted (idl_lasts P b false) rfl rfl ?_
  walk_nrm
  refine Idl.v (idl_lasts P b false) ?_
  walk_nrm
  refine Idl.step (idl_lasts P b false) _ _ _ rfl (fun _=>stepG_region_end) ?_
  refine Idl.cond (idl_lasts P b false) false rfl ?_
  simp only [if_true,if_false,Bool.false_eq_true,↓reduceIte]
  refine Idl.step (idl_lasts P b false) _ _ _ rfl (fun _=>stepG_skip) ?_
  refine Idl.step (idl_lasts P b false) _ _ _ rfl (fun _=>stepG_seq) ?_
  refine Idl.step (idl_lasts P b false) _ _ _ rfl (fun _=>stepG_region) ?_
  simp only [List.size_toArray,List.length_cons,List.length_nil,Nat.reduceAdd,Nat.zero_add,List.range,List.range.loop]
  iterate 4 (refine Idl.v (idl_lasts P b false) ?_; walk_nrm)
  refine Idl.step (idl_lasts P b false) _ _ _ rfl (fun _=>stepG_region_end) ?_
  refine Idl.step (idl_lasts P b false) _ _ _ rfl (fun _=>stepG_seq) ?_
  refine Idl.step (idl_lasts P b false) _ _ _ rfl (fun _=>stepG_region) ?_
  simp only [List.size_toArray,List.length_cons,List.length_nil,Nat.reduceAdd,Nat.zero_add,List.range,List.range.loop]
  iterate 4 (refine Idl.v (idl_lasts P b false) ?_; walk_nrm)
  refine Idl.step (idl_lasts P b false) _ _ _ rfl (fun _=>stepG_region_end) ?_
  refine Idl.step (idl_lasts P b false) _ _ _ rfl (fun _=>stepG_seq) ?_
  refine Idl.step (idl_lasts P b false) _ _ _ rfl (fun _=>stepG_seq) ?_
  refine Idl.step (idl_lasts P b false) _ _ _ rfl (fun _=>stepG_region) ?_
  simp only [List.size_toArray,List.length_cons,List.length_nil,Nat.reduceAdd,Nat.zero_add,List.range,List.range.loop]
  iterate 5 (refine Idl.v (idl_lasts P b false) ?_; walk_nrm)
  refine Idl.unwanted (idl_lasts P b false) rfl rfl ?_
  walk_nrm
  refine Idl.unwanted (idl_lasts P b false) rfl rfl ?_
  walk_nrm
  refine Idl.unwanted (idl_lasts P b false) rfl rfl ?_
  walk_nrm
  refine Idl.unwanted (idl_lasts P b false) rfl rfl ?_
  walk_nrm
  refine Idl.v (idl_lasts P b false) ?_
  walk_nrm
  refine Idl.step (idl_lasts P b false) _ _ _ rfl (fun _=>stepG_region_end) ?_
  refine Idl.cond (idl_lasts P b false) false rfl ?_
  simp only [if_true,if_false,Bool.false_eq_true,↓reduceIte]
  refine Idl.step (idl_lasts P b false) _ _ _ rfl (fun _=>stepG_skip) ?_
  refine Idl.step (idl_lasts P b false) _ _ _ rfl (fun _=>stepG_seq) ?_
  refine Idl.step (idl_lasts P b false) _ _ _ rfl (fun _=>stepG_seq) ?_
  refine Idl.step (idl_lasts P b false) _ _ _ rfl (fun _=>stepG_region) ?_
  simp only [List.size_toArray,List.length_cons,List.length_nil,Nat.reduceAdd,Nat.zero_add,List.range,List.range.loop]
  iterate 2 (refine Idl.v (idl_lasts P b false) ?_; walk_nrm)
  refine Idl.step (idl_lasts P b false) _ _ _ rfl (fun _=>stepG_region_end) ?_
  refine Idl.cond (idl_lasts P b false) false rfl ?_
  simp only [if_true,if_false,Bool.false_eq_true,↓reduceIte]
  refine Idl.step (idl_lasts P b false) _ _ _ rfl (fun _=>stepG_skip) ?_
  refine Idl.step (idl_lasts P b false) _ _ _ rfl (fun _=>stepG_seq) ?_
  refine Idl.step (idl_lasts P b false) _ _ _ rfl (fun _=>stepG_seq) ?_
  refine Idl.step (idl_lasts P b false) _ _ _ rfl (fun _=>stepG_region) ?_
  simp only [List.size_toArray,List.length_cons,List.length_nil,Nat.reduceAdd,Nat.zero_add,List.range,List.range.loop]
  iterate 7 (refine Idl.v (idl_lasts P b false) ?_; walk_nrm)
  refine Idl.unwanted (idl_lasts P b false) rfl rfl ?_
  walk_nrm
  refine Idl.unwanted (idl_lasts P b false) rfl rfl ?_
  walk_nrm
  refine Idl.unwanted (idl_lasts P b false) rfl rfl ?_
  walk_nrm
  refine Idl.unwanted (idl_lasts P b false) rfl rfl ?_
  walk_nrm
  refine Idl.v (idl_lasts P b false) ?_
  walk_nrm
  refine Idl.step (idl_lasts P b false) _ _ _ rfl (fun _=>stepG_region_end) ?_
  refine Idl.cond (idl_lasts P b false) false rfl ?_
  simp only [if_true,if_false,Bool.false_eq_true,↓reduceIte]
  refine Idl.step (idl_lasts P b false) _ _ _ rfl (fun _=>stepG_skip) ?_
  refine Idl.step (idl_lasts P b false) _ _ _ rfl (fun _=>stepG_seq) ?_
  refine Idl.step (idl_lasts P b false) _ _ _ rfl (fun _=>stepG_seq) ?_
  refine Idl.step (idl_lasts P b false) _ _ _ rfl (fun _=>stepG_region) ?_
  simp only [List.size_toArray,List.length_cons,List.length_nil,Nat.reduceAdd,Nat.zero_add,List.range,List.range.loop]
  iterate 6 (refine Idl.v (idl_lasts P b false) ?_; walk_nrm)
  refine Idl.step (idl_lasts P b false) _ _ _ rfl (fun _=>stepG_region_end) ?_
  refine Idl.cond (idl_lasts P b false) false rfl ?_
  simp only [if_true,if_false,Bool.false_eq_true,↓reduceIte]
  refine Idl.step (idl_lasts P b false) _ _ _ rfl (fun _=>stepG_skip) ?_
  refine Idl.step (idl_lasts P b false) _ _ _ rfl (fun _=>stepG_seq) ?_
  refine Idl.step (idl_lasts P b false) _ _ _ rfl (fun _=>stepG_seq) ?_
  refine Idl.step (idl_lasts P b false) _ _ _ rfl (fun _=>stepG_region) ?_
  simp only [List.size_toArray,List.length_cons,List.length_nil,Nat.reduceAdd,Nat.zero_add,List.range,List.range.loop]
  iterate 3 (refine Idl.v (idl_lasts P b false) ?_; walk_nrm)
  refine Idl.call (idl_lasts P b false) rfl rfl (by first | decide | exact base_kind _ | exact baseD_kind _ | assumption) rfl H.f_uLoad (nm_uLoad L) rfl ?_
  walk_nrmf uLoadFn
  refine Idl.step (idl_lasts P b false) _ _ _ rfl (fun _=>stepG_seq) ?_
  refine Idl.step (idl_lasts P b false) _ _ _ rfl (fun _=>stepG_region) ?_
  simp only [List.size_toArray,List.length_cons,List.length_nil,Nat.reduceAdd,Nat.zero_add,List.range,List.range.loop]
  refine Idl.v (idl_lasts P b false) ?_
  walk_nrm
  refine Idl.step (idl_lasts P b false) _ _ _ rfl (fun _=>stepG_region_end) ?_
  refine Idl.step (idl_lasts P b false) _ _ _ rfl (fun _=>stepG_seq) ?_
  refine Idl.step (idl_lasts P b false) _ _ _ rfl (fun _=>stepG_region) ?_
  simp only [List.size_toArray,List.length_cons,List.length_nil,Nat.reduceAdd,Nat.zero_add,List.range,List.range.loop]
  iterate 3 (refine Idl.v (idl_lasts P b false) ?_; walk_nrm)
  refine lasts_read rfl (fun w hG=>stepG_load_atomic rfl rfl (by k_ne) rfl H.f_loadU64 (x_loadU64_n L) (x_loadU64_b L) (x_loadU64_x L) .u64 (x_loadU64_f L) rfl hG.st) ?_
  walk_nrm
  refine Idl.v (idl_lasts P b false) ?_
  walk_nrm
  refine Idl.step (idl_lasts P b false) _ _ _ rfl (fun _=>stepG_region_end) ?_
  refine Idl.step (idl_lasts P b false) _ _ _ rfl (fun _=>stepG_ret') ?_
  refine Idl.leave1 (idl_lasts P b false) rfl rfl H.f_uLoad rfl ?_
  walk_nrm
  iterate 2 (refine Idl.v (idl_lasts P b false) ?_; walk_nrm)
  refine Idl.step (idl_lasts P b false) _ _ _ rfl (fun _=>stepG_region_end) ?_
  refine Idl.cond (idl_lasts P b false) false rfl ?_
  simp only [if_true,if_false,Bool.false_eq_true,↓reduceIte]
  refine Idl.step (idl_lasts P b false) _ _ _ rfl (fun _=>stepG_skip) ?_
  refine Idl.step (idl_lasts P b false) _ _ _ rfl (fun _=>stepG_seq) ?_
  refine Idl.step (idl_lasts P b false) _ _ _ rfl (fun _=>stepG_region) ?_
  simp only [List.size_toArray,List.length_cons,List.length_nil,Nat.reduceAdd,Nat.zero_add,List.range,List.range.loop]
  iterate 3 (refine Idl.v (idl_lasts P b false) ?_; walk_nrm)
  refine Idl.call (idl_lasts P b false) rfl rfl (by first | decide | exact base_kind _ | exact baseD_kind _ | assumption) rfl H.f_uStore (nm_uStore L) rfl ?_
  walk_nrmf uStoreFn
  refine Idl.step (idl_lasts P b false) _ _ _ rfl (fun _=>stepG_region) ?_
  simp only [List.size_toArray,List.length_cons,List.length_nil,Nat.reduceAdd,Nat.zero_add,List.range,List.range.loop]
  iterate 4 (refine Idl.v (idl_lasts P b false) ?_; walk_nrm)
  refine lasts_store rfl (fun w hG=>stepG_store_atomic rfl rfl (by k_ne) rfl H.f_storeU64 (x_storeU64_n L) (x_storeU64_b L) (x_storeU64_x L) (x_storeU64_f L) rfl rfl hG.st (hG.thaw 1)) ?_
  walk_nrm
  refine Idl.step (idl_lasts P b true) _ _ _ rfl (fun _=>stepG_region_end) ?_
  refine Idl.step (idl_lasts P b true) _ _ _ rfl (fun _=>stepG_end) ?_
  refine Idl.leave0 (idl_lasts P b true) rfl rfl H.f_uStore rfl ?_
  walk_nrm
  refine Idl.step (idl_lasts P b true) _ _ _ rfl (fun _=>stepG_region_end) ?_
  refine Idl.step (idl_lasts P b true) _ _ _ rfl (fun _=>stepG_seq) ?_
  refine Idl.step (idl_lasts P b true) _ _ _ rfl (fun _=>stepG_seq) ?_
  refine Idl.step (idl_lasts P b true) _ _ _ rfl (fun _=>stepG_region) ?_
  simp only [List.size_toArray,List.length_cons,List.length_nil,Nat.reduceAdd,Nat.zero_add,List.range,List.range.loop]
  refine Idl.v (idl_lasts P b true) ?_
  walk_nrm
  refine Idl.step (idl_lasts P b true) _ _ _ rfl (fun _=>stepG_region_end) ?_
  refine Idl.cond (idl_lasts P b true) false rfl ?_
  simp only [if_true,if_false,Bool.false_eq_true,↓reduceIte]
  refine Idl.step (idl_lasts P b true) _ _ _ rfl (fun _=>stepG_skip) ?_
  refine Idl.step (idl_lasts P b true) _ _ _ rfl (fun _=>stepG_block) ?_
  refine Idl.step (idl_lasts P b true) _ _ _ rfl (fun _=>stepG_loop) ?_
  refine Idl.step (idl_lasts P b true) _ _ _ rfl (fun _=>stepG_seq) ?_
  refine Idl.step (idl_lasts P b true) _ _ _ rfl (fun _=>stepG_seq) ?_
  refine Idl.step (idl_lasts P b true) _ _ _ rfl (fun _=>stepG_region) ?_
  simp only [List.size_toArray,List.length_cons,List.length_nil,Nat.reduceAdd,Nat.zero_add,List.range,List.range.loop]
  iterate 2 (refine Idl.v (idl_lasts P b true) ?_; walk_nrm)
  refine Idl.step (idl_lasts P b true) _ _ _ rfl (fun _=>stepG_region_end) ?_
  refine Idl.cond (idl_lasts P b true) true rfl ?_
  simp only [if_true,if_false,Bool.false_eq_true,↓reduceIte]
  refine Idl.step (idl_lasts P b true) _ _ _ rfl (fun _=>stepG_skip) ?_
  refine Idl.step (idl_lasts P b true) _ _ _ rfl (fun _=>stepG_seq) ?_
  refine Idl.step (idl_lasts P b true) _ _ _ rfl (fun _=>stepG_block) ?_
  refine Idl.step (idl_lasts P b true) _ _ _ rfl (fun _=>stepG_region) ?_
  simp only [List.size_toArray,List.length_cons,List.length_nil,Nat.reduceAdd,Nat.zero_add,List.range,List.range.loop]
  iterate 3 (refine Idl.v (idl_lasts P b true) ?_; walk_nrm)
  refine lasts_sem rfl (fun w hG=>(stepG_semrelease rfl rfl (by k_ne) rfl H.f_semrelease (x_semrelease_n L) (x_semrelease_b L) (x_semrelease_x L) (x_semrelease_f L) (by simp [Act.eval,stZ]; rfl) hG.sm (hG.thaw 2)).trans (by rfl)) (mayWake_entry rfl rfl H.f_semrelease (x_semrelease_b L)) ?_
  walk_nrm
  refine Idl.step (idl_quits P 1) _ _ _ rfl (fun _=>stepG_region_end) ?_
  refine Idl.step (idl_quits P 1) _ _ _ rfl (fun _=>stepG_inBlock) ?_
  refine Idl.step (idl_quits P 1) _ _ _ rfl (fun _=>stepG_region) ?_
  simp only [List.size_toArray,List.length_cons,List.length_nil,Nat.reduceAdd,Nat.zero_add,List.range,List.range.loop]
  iterate 3 (refine Idl.v (idl_quits P 1) ?_; walk_nrm)
  refine Idl.step (idl_quits P 1) _ _ _ rfl (fun _=>stepG_region_end) ?_
  refine Idl.step (idl_quits P 1) _ _ _ rfl (fun _=>stepG_inLoop) ?_
  refine Idl.step (idl_quits P 1) _ _ _ rfl (fun _=>stepG_seq) ?_
  refine Idl.step (idl_quits P 1) _ _ _ rfl (fun _=>stepG_seq) ?_
  refine Idl.step (idl_quits P 1) _ _ _ rfl (fun _=>stepG_region) ?_
  simp only [List.size_toArray,List.length_cons,List.length_nil,Nat.reduceAdd,Nat.zero_add,List.range,List.range.loop]
  iterate 2 (refine Idl.v (idl_quits P 1) ?_; walk_nrm)
  refine Idl.step (idl_quits P 1) _ _ _ rfl (fun _=>stepG_region_end) ?_
  refine Idl.cond (idl_quits P 1) false rfl ?_
  simp only [if_true,if_false,Bool.false_eq_true,↓reduceIte]
  refine Idl.exit (idl_quits P 1) rfl ?_
  refine Idl.step (idl_quits P 1) _ _ _ rfl (fun _=>stepG_end) ?_
  q_enable
  q_leave0 H.f_add
  exact quitsD_up hT (by omega)
 ·by_cases hv0:v=0
  ·have hw0:wt=0:=by
    rcases Nat.lt_or_ge wt 1 with z | z
    ·omega
    ·exact absurd ⟨hv0,by omega⟩ hl
   subst hv0 hw0
   have z:((0:Nat):Int) * KK+((0:Nat):Int)=0:=by simp
   rw [z]
   clear hG
   walk_nrm
   refine Idl.v (idl_quits P 1) ?_
   walk_nrm
   refine Idl.step (idl_quits P 1) _ _ _ rfl (fun _=>stepG_region_end) ?_
   refine Idl.step (idl_quits P 1) _ _ _ rfl (fun _=>stepG_ret') ?_
   refine Idl.leave1 (idl_quits P 1) rfl rfl H.f_uAdd rfl ?_
   walk_nrm
   refine Idl.v (idl_quits P 1) ?_
   walk_nrm
   refine Idl.step (idl_quits P 1) _ _ _ rfl (fun _=>stepG_region_end) ?_
   refine Idl.step (idl_quits P 1) _ _ _ rfl (fun _=>stepG_seq) ?_
   refine Idl.step (idl_quits P 1) _ _ _ rfl (fun _=>stepG_seq) ?_
   refine Idl.step (idl_quits P 1) _ _ _ rfl (fun _=>stepG_region) ?_
   simp only [List.size_toArray,List.length_cons,List.length_nil,Nat.reduceAdd,Nat.zero_add,List.range,List.range.loop]
   iterate 4 (refine Idl.v (idl_quits P 1) ?_; walk_nrm)
   refine Idl.unwanted (idl_quits P 1) rfl rfl ?_
   walk_nrm
   refine Idl.unwanted (idl_quits P 1) rfl rfl ?_
   walk_nrm
   refine Idl.v (idl_quits P 1) ?_
   walk_nrm
   refine Idl.step (idl_quits P 1) _ _ _ rfl (fun _=>stepG_region_end) ?_
   refine Idl.cond (idl_quits P 1) false rfl ?_
   simp only [if_true,if_false,Bool.false_eq_true,↓reduceIte]
   refine Idl.step (idl_quits P 1) _ _ _ rfl (fun _=>stepG_skip) ?_
   refine Idl.step (idl_quits P 1) _ _ _ rfl (fun _=>stepG_seq) ?_
   refine Idl.step (idl_quits P 1) _ _ _ rfl (fun _=>stepG_region) ?_
   simp only [List.size_toArray,List.length_cons,List.length_nil,Nat.reduceAdd,Nat.zero_add,List.range,List.range.loop]
   iterate 4 (refine Idl.v (idl_quits P 1) ?_; walk_nrm)
   refine Idl.step (idl_quits P 1) _ _ _ rfl (fun _=>stepG_region_end) ?_
   refine Idl.step (idl_quits P 1) _ _ _ rfl (fun _=>stepG_seq) ?_
   refine Idl.step (idl_quits P 1) _ _ _ rfl (fun _=>stepG_region) ?_
   simp only [List.size_toArray,List.length_cons,List.length_nil,Nat.reduceAdd,Nat.zero_add,List.range,List.range.loop]
   iterate 4 (refine Idl.v (idl_quits P 1) ?_; walk_nrm)
   refine Idl.step (idl_quits P 1) _ _ _ rfl (fun _=>stepG_region_end) ?_
   refine Idl.step (idl_quits P 1) _ _ _ rfl (fun _=>stepG_seq) ?_
   refine Idl.step (idl_quits P 1) _ _ _ rfl (fun _=>stepG_seq) ?_
   refine Idl.step (idl_quits P 1) _ _ _ rfl (fun _=>stepG_region) ?_
   simp only [List.size_toArray,List.length_cons,List.length_nil,Nat.reduceAdd,Nat.zero_add,List.range,List.range.loop]
   iterate 5 (refine Idl.v (idl_quits P 1) ?_; walk_nrm)
   refine Idl.unwanted (idl_quits P 1) rfl rfl ?_
   walk_nrm
   refine Idl.unwanted (idl_quits P 1) rfl rfl ?_
   walk_nrm
   refine Idl.unwanted (idl_quits P 1) rfl rfl ?_
   walk_nrm
   refine Idl.unwanted (idl_quits P 1) rfl rfl ?_
   walk_nrm
   refine Idl.v (idl_quits P 1) ?_
   walk_nrm
   refine Idl.step (idl_quits P 1) _ _ _ rfl (fun _=>stepG_region_end) ?_
   refine Idl.cond (idl_quits P 1) false rfl ?_
   simp only [if_true,if_false,Bool.false_eq_true,↓reduceIte]
   refine Idl.step (idl_quits P 1) _ _ _ rfl (fun _=>stepG_skip) ?_
   refine Idl.step (idl_quits P 1) _ _ _ rfl (fun _=>stepG_seq) ?_
   refine Idl.step (idl_quits P 1) _ _ _ rfl (fun _=>stepG_seq) ?_
   refine Idl.step (idl_quits P 1) _ _ _ rfl (fun _=>stepG_region) ?_
   simp only [List.size_toArray,List.length_cons,List.length_nil,Nat.reduceAdd,Nat.zero_add,List.range,List.range.loop]
   iterate 2 (refine Idl.v (idl_quits P 1) ?_; walk_nrm)
   refine Idl.step (idl_quits P 1) _ _ _ rfl (fun _=>stepG_region_end) ?_
   refine Idl.cond (idl_quits P 1) false rfl ?_
   simp only [if_true,if_false,Bool.false_eq_true,↓reduceIte]
   refine Idl.step (idl_quits P 1) _ _ _ rfl (fun _=>stepG_skip) ?_
   refine Idl.step (idl_quits P 1) _ _ _ rfl (fun _=>stepG_seq) ?_
   refine Idl.step (idl_quits P 1) _ _ _ rfl (fun _=>stepG_seq) ?_
   refine Idl.step (idl_quits P 1) _ _ _ rfl (fun _=>stepG_region) ?_
   simp only [List.size_toArray,List.length_cons,List.length_nil,Nat.reduceAdd,Nat.zero_add,List.range,List.range.loop]
   iterate 3 (refine Idl.v (idl_quits P 1) ?_; walk_nrm)
   refine Idl.unwanted (idl_quits P 1) rfl rfl ?_
   walk_nrm
   refine Idl.unwanted (idl_quits P 1) rfl rfl ?_
   walk_nrm
   iterate 2 (refine Idl.v (idl_quits P 1) ?_; walk_nrm)
   refine Idl.unwanted (idl_quits P 1) rfl rfl ?_
   walk_nrm
   refine Idl.unwanted (idl_quits P 1) rfl rfl ?_
   walk_nrm
   refine Idl.unwanted (idl_quits P 1) rfl rfl ?_
   walk_nrm
   refine Idl.unwanted (idl_quits P 1) rfl rfl ?_
   walk_nrm
   refine Idl.v (idl_quits P 1) ?_
   walk_nrm
   refine Idl.step (idl_quits P 1) _ _ _ rfl (fun _=>stepG_region_end) ?_
   refine Idl.cond (idl_quits P 1) false rfl ?_
   simp only [if_true,if_false,Bool.false_eq_true,↓reduceIte]
   refine Idl.step (idl_quits P 1) _ _ _ rfl (fun _=>stepG_skip) ?_
   refine Idl.step (idl_quits P 1) _ _ _ rfl (fun _=>stepG_seq) ?_
   refine Idl.step (idl_quits P 1) _ _ _ rfl (fun _=>stepG_seq) ?_
   refine Idl.step (idl_quits P 1) _ _ _ rfl (fun _=>stepG_region) ?_
   simp only [List.size_toArray,List.length_cons,List.length_nil,Nat.reduceAdd,Nat.zero_add,List.range,List.range.loop]
   iterate 6 (refine Idl.v (idl_quits P 1) ?_; walk_nrm)
   refine Idl.step (idl_quits P 1) _ _ _ rfl (fun _=>stepG_region_end) ?_
   refine Idl.cond (idl_quits P 1) true rfl ?_
   simp only [if_true,if_false,Bool.false_eq_true,↓reduceIte]
   refine Idl.step (idl_quits P 1) _ _ _ rfl (fun _=>stepG_ret') ?_
   q_enable
   q_leave0 H.f_add
   exact quitsD_up hT (by omega)
  ·have hS1:=Go.ConcN.st_flag v wt (by omega) hwt
   have hS2:=Go.ConcN.st_waiters v wt (by omega) hwt
   have hK:(v:Int) * KK=(v:Int) * 4294967296:=rfl
   rw [hK]
   obtain ⟨S,hS⟩:∃ S,S=(v:Int) * 4294967296+wt:=⟨_,rfl⟩
   rw [← hS] at hS1 hS2 ⊢
   clear hG hK
   replace hS:=Lib.hid hS
   walk_nrm
   refine Idl.v (idl_quits P 1) ?_
   walk_nrm
   refine Idl.step (idl_quits P 1) _ _ _ rfl (fun _=>stepG_region_end) ?_
   refine Idl.step (idl_quits P 1) _ _ _ rfl (fun _=>stepG_ret') ?_
   refine Idl.leave1 (idl_quits P 1) rfl rfl H.f_uAdd rfl ?_
   walk_nrm
   have e1:(S / 4294967296+2147483648) % 4294967296 - 2147483648=(v:Int):=by have:=hS.out; omega
   have e2:(wt:Int) % 4294967296=wt:=by omega
   have d1:decide ((v:Int) < 0)=false:=decide_eq_false (by omega)
   have d2:∀ (i:Decidable (0 < v)),@decide (0 < v) i=true:=fun i=>@decide_eq_true _ i (by omega)
   obtain rfl | rfl:wt=0∨wt=1:=by omega
   ·skip
    refine Idl.v (idl_quits P 1) ?_
    walk_nrm
    refine Idl.step (idl_quits P 1) _ _ _ rfl (fun _=>stepG_region_end) ?_
    refine Idl.step (idl_quits P 1) _ _ _ rfl (fun _=>stepG_seq) ?_
    refine Idl.step (idl_quits P 1) _ _ _ rfl (fun _=>stepG_seq) ?_
    refine Idl.step (idl_quits P 1) _ _ _ rfl (fun _=>stepG_region) ?_
    simp only [List.size_toArray,List.length_cons,List.length_nil,Nat.reduceAdd,Nat.zero_add,List.range,List.range.loop]
    iterate 4 (refine Idl.v (idl_quits P 1) ?_; walk_nrm)
    refine Idl.unwanted (idl_quits P 1) rfl rfl ?_
    walk_nrm
    refine Idl.unwanted (idl_quits P 1) rfl rfl ?_
    walk_nrm
    refine Idl.v (idl_quits P 1) ?_
    walk_nrm
    refine Idl.step (idl_quits P 1) _ _ _ rfl (fun _=>stepG_region_end) ?_
    refine Idl.cond (idl_quits P 1) false rfl ?_
    simp only [if_true,if_false,Bool.false_eq_true,↓reduceIte]
    refine Idl.step (idl_quits P 1) _ _ _ rfl (fun _=>stepG_skip) ?_
    refine Idl.step (idl_quits P 1) _ _ _ rfl (fun _=>stepG_seq) ?_
    refine Idl.step (idl_quits P 1) _ _ _ rfl (fun _=>stepG_region) ?_
    simp only [List.size_toArray,List.length_cons,List.length_nil,Nat.reduceAdd,Nat.zero_add,List.range,List.range.loop]
    iterate 4 (refine Idl.v (idl_quits P 1) ?_; walk_nrm)
    refine Idl.step (idl_quits P 1) _ _ _ rfl (fun _=>stepG_region_end) ?_
    refine Idl.step (idl_quits P 1) _ _ _ rfl (fun _=>stepG_seq) ?_
    refine Idl.step (idl_quits P 1) _ _ _ rfl (fun _=>stepG_region) ?_
    simp only [List.size_toArray,List.length_cons,List.length_nil,Nat.reduceAdd,Nat.zero_add,List.range,List.range.loop]
    iterate 4 (refine Idl.v (idl_quits P 1) ?_; walk_nrm)
    refine Idl.step (idl_quits P 1) _ _ _ rfl (fun _=>stepG_region_end) ?_
    refine Idl.step (idl_quits P 1) _ _ _ rfl (fun _=>stepG_seq) ?_
    refine Idl.step (idl_quits P 1) _ _ _ rfl (fun _=>stepG_seq) ?_
    refine Idl.step (idl_quits P 1) _ _ _ rfl (fun _=>stepG_region) ?_
    simp only [List.size_toArray,List.length_cons,List.length_nil,Nat.reduceAdd,Nat.zero_add,List.range,List.range.loop]
    iterate 5 (refine Idl.v (idl_quits P 1) ?_; walk_nrm)
    refine Idl.unwanted (idl_quits P 1) rfl rfl ?_
    walk_nrm
    refine Idl.unwanted (idl_quits P 1) rfl rfl ?_
    walk_nrm
    refine Idl.unwanted (idl_quits P 1) rfl rfl ?_
    walk_nrm
    refine Idl.unwanted (idl_quits P 1) rfl rfl ?_
    walk_nrm
    refine Idl.v (idl_quits P 1) ?_
    walk_nrm
    refine Idl.step (idl_quits P 1) _ _ _ rfl (fun _=>stepG_region_end) ?_
    refine Idl.cond (idl_quits P 1) false rfl ?_
    simp only [if_true,if_false,Bool.false_eq_true,↓reduceIte]
    refine Idl.step (idl_quits P 1) _ _ _ rfl (fun _=>stepG_skip) ?_
    refine Idl.step (idl_quits P 1) _ _ _ rfl (fun _=>stepG_seq) ?_
    refine Idl.step (idl_quits P 1) _ _ _ rfl (fun _=>stepG_seq) ?_
    refine Idl.step (idl_quits P 1) _ _ _ rfl (fun _=>stepG_region) ?_
    simp only [List.size_toArray,List.length_cons,List.length_nil,Nat.reduceAdd,Nat.zero_add,List.range,List.range.loop]
    iterate 2 (refine Idl.v (idl_quits P 1) ?_; walk_nrm)
    refine Idl.step (idl_quits P 1) _ _ _ rfl (fun _=>stepG_region_end) ?_
    refine Idl.cond (idl_quits P 1) false rfl ?_
    simp only [if_true,if_false,Bool.false_eq_true,↓reduceIte]
    refine Idl.step (idl_quits P 1) _ _ _ rfl (fun _=>stepG_skip) ?_
    refine Idl.step (idl_quits P 1) _ _ _ rfl (fun _=>stepG_seq) ?_
    refine Idl.step (idl_quits P 1) _ _ _ rfl (fun _=>stepG_seq) ?_
    refine Idl.step (idl_quits P 1) _ _ _ rfl (fun _=>stepG_region) ?_
    simp only [List.size_toArray,List.length_cons,List.length_nil,Nat.reduceAdd,Nat.zero_add,List.range,List.range.loop]
    iterate 3 (refine Idl.v (idl_quits P 1) ?_; walk_nrm)
    refine Idl.unwanted (idl_quits P 1) rfl rfl ?_
    walk_nrm
    refine Idl.unwanted (idl_quits P 1) rfl rfl ?_
    walk_nrm
    iterate 2 (refine Idl.v (idl_quits P 1) ?_; walk_nrm)
    refine Idl.unwanted (idl_quits P 1) rfl rfl ?_
    walk_nrm
    refine Idl.unwanted (idl_quits P 1) rfl rfl ?_
    walk_nrm
    refine Idl.unwanted (idl_quits P 1) rfl rfl ?_
    walk_nrm
    refine Idl.unwanted (idl_quits P 1) rfl rfl ?_
    walk_nrm
    refine Idl.v (idl_quits P 1) ?_
    walk_nrm
    refine Idl.step (idl_quits P 1) _ _ _ rfl (fun _=>stepG_region_end) ?_
    refine Idl.cond (idl_quits P 1) false rfl ?_
    simp only [if_true,if_false,Bool.false_eq_true,↓reduceIte]
    refine Idl.step (idl_quits P 1) _ _ _ rfl (fun _=>stepG_skip) ?_
    refine Idl.step (idl_quits P 1) _ _ _ rfl (fun _=>stepG_seq) ?_
    refine Idl.step (idl_quits P 1) _ _ _ rfl (fun _=>stepG_seq) ?_
    refine Idl.step (idl_quits P 1) _ _ _ rfl (fun _=>stepG_region) ?_
    simp only [List.size_toArray,List.length_cons,List.length_nil,Nat.reduceAdd,Nat.zero_add,List.range,List.range.loop]
    iterate 3 (refine Idl.v (idl_quits P 1) ?_; walk_nrm)
    refine Idl.unwanted (idl_quits P 1) rfl rfl ?_
    walk_nrm
    refine Idl.unwanted (idl_quits P 1) rfl rfl ?_
    walk_nrm
    refine Idl.v (idl_quits P 1) ?_
    walk_nrm
    refine Idl.step (idl_quits P 1) _ _ _ rfl (fun _=>stepG_region_end) ?_
    refine Idl.cond (idl_quits P 1) true rfl ?_
    simp only [if_true,if_false,Bool.false_eq_true,↓reduceIte]
    refine Idl.step (idl_quits P 1) _ _ _ rfl (fun _=>stepG_ret') ?_
    simp only [e1,e2,d1]
    skip
    q_enable
    q_leave0 H.f_add
    exact quitsD_up hT (by omega)
   ·skip
    refine Idl.v (idl_quits P 1) ?_
    walk_nrm
    refine Idl.step (idl_quits P 1) _ _ _ rfl (fun _=>stepG_region_end) ?_
    refine Idl.step (idl_quits P 1) _ _ _ rfl (fun _=>stepG_seq) ?_
    refine Idl.step (idl_quits P 1) _ _ _ rfl (fun _=>stepG_seq) ?_
    refine Idl.step (idl_quits P 1) _ _ _ rfl (fun _=>stepG_region) ?_
    simp only [List.size_toArray,List.length_cons,List.length_nil,Nat.reduceAdd,Nat.zero_add,List.range,List.range.loop]
    iterate 4 (refine Idl.v (idl_quits P 1) ?_; walk_nrm)
    refine Idl.unwanted (idl_quits P 1) rfl rfl ?_
    walk_nrm
    refine Idl.unwanted (idl_quits P 1) rfl rfl ?_
    walk_nrm
    refine Idl.v (idl_quits P 1) ?_
    walk_nrm
    refine Idl.step (idl_quits P 1) _ _ _ rfl (fun _=>stepG_region_end) ?_
    refine Idl.cond (idl_quits P 1) false rfl ?_
    simp only [if_true,if_false,Bool.false_eq_true,↓reduceIte]
    refine Idl.step (idl_quits P 1) _ _ _ rfl (fun _=>stepG_skip) ?_
    refine Idl.step (idl_quits P 1) _ _ _ rfl (fun _=>stepG_seq) ?_
    refine Idl.step (idl_quits P 1) _ _ _ rfl (fun _=>stepG_region) ?_
    simp only [List.size_toArray,List.length_cons,List.length_nil,Nat.reduceAdd,Nat.zero_add,List.range,List.range.loop]
    iterate 4 (refine Idl.v (idl_quits P 1) ?_; walk_nrm)
    refine Idl.step (idl_quits P 1) _ _ _ rfl (fun _=>stepG_region_end) ?_
    refine Idl.step (idl_quits P 1) _ _ _ rfl (fun _=>stepG_seq) ?_
    refine Idl.step (idl_quits P 1) _ _ _ rfl (fun _=>stepG_region) ?_
    simp only [List.size_toArray,List.length_cons,List.length_nil,Nat.reduceAdd,Nat.zero_add,List.range,List.range.loop]
    iterate 4 (refine Idl.v (idl_quits P 1) ?_; walk_nrm)
    refine Idl.step (idl_quits P 1) _ _ _ rfl (fun _=>stepG_region_end) ?_
    refine Idl.step (idl_quits P 1) _ _ _ rfl (fun _=>stepG_seq) ?_
    refine Idl.step (idl_quits P 1) _ _ _ rfl (fun _=>stepG_seq) ?_
    refine Idl.step (idl_quits P 1) _ _ _ rfl (fun _=>stepG_region) ?_
    simp only [List.size_toArray,List.length_cons,List.length_nil,Nat.reduceAdd,Nat.zero_add,List.range,List.range.loop]
    iterate 5 (refine Idl.v (idl_quits P 1) ?_; walk_nrm)
    refine Idl.unwanted (idl_quits P 1) rfl rfl ?_
    walk_nrm
    refine Idl.unwanted (idl_quits P 1) rfl rfl ?_
    walk_nrm
    refine Idl.unwanted (idl_quits P 1) rfl rfl ?_
    walk_nrm
    refine Idl.unwanted (idl_quits P 1) rfl rfl ?_
    walk_nrm
    refine Idl.v (idl_quits P 1) ?_
    walk_nrm
    refine Idl.step (idl_quits P 1) _ _ _ rfl (fun _=>stepG_region_end) ?_
    refine Idl.cond (idl_quits P 1) false rfl ?_
    simp only [if_true,if_false,Bool.false_eq_true,↓reduceIte]
    refine Idl.step (idl_quits P 1) _ _ _ rfl (fun _=>stepG_skip) ?_
    refine Idl.step (idl_quits P 1) _ _ _ rfl (fun _=>stepG_seq) ?_
    refine Idl.step (idl_quits P 1) _ _ _ rfl (fun _=>stepG_seq) ?_
    refine Idl.step (idl_quits P 1) _ _ _ rfl (fun _=>stepG_region) ?_
    simp only [List.size_toArray,List.length_cons,List.length_nil,Nat.reduceAdd,Nat.zero_add,List.range,List.range.loop]
    iterate 2 (refine Idl.v (idl_quits P 1) ?_; walk_nrm)
    refine Idl.step (idl_quits P 1) _ _ _ rfl (fun _=>stepG_region_end) ?_
    refine Idl.cond (idl_quits P 1) false rfl ?_
    simp only [if_true,if_false,Bool.false_eq_true,↓reduceIte]
    refine Idl.step (idl_quits P 1) _ _ _ rfl (fun _=>stepG_skip) ?_
    refine Idl.step (idl_quits P 1) _ _ _ rfl (fun _=>stepG_seq) ?_
    refine Idl.step (idl_quits P 1) _ _ _ rfl (fun _=>stepG_seq) ?_
    refine Idl.step (idl_quits P 1) _ _ _ rfl (fun _=>stepG_region) ?_
    simp only [List.size_toArray,List.length_cons,List.length_nil,Nat.reduceAdd,Nat.zero_add,List.range,List.range.loop]
    iterate 7 (refine Idl.v (idl_quits P 1) ?_; walk_nrm)
    refine Idl.unwanted (idl_quits P 1) rfl rfl ?_
    walk_nrm
    refine Idl.unwanted (idl_quits P 1) rfl rfl ?_
    walk_nrm
    refine Idl.unwanted (idl_quits P 1) rfl rfl ?_
    walk_nrm
    refine Idl.unwanted (idl_quits P 1) rfl rfl ?_
    walk_nrm
    refine Idl.v (idl_quits P 1) ?_
    walk_nrm
    refine Idl.step (idl_quits P 1) _ _ _ rfl (fun _=>stepG_region_end) ?_
    refine Idl.cond (idl_quits P 1) false rfl ?_
    simp only [if_true,if_false,Bool.false_eq_true,↓reduceIte]
    refine Idl.step (idl_quits P 1) _ _ _ rfl (fun _=>stepG_skip) ?_
    refine Idl.step (idl_quits P 1) _ _ _ rfl (fun _=>stepG_seq) ?_
    refine Idl.step (idl_quits P 1) _ _ _ rfl (fun _=>stepG_seq) ?_
    refine Idl.step (idl_quits P 1) _ _ _ rfl (fun _=>stepG_region) ?_
    simp only [List.size_toArray,List.length_cons,List.length_nil,Nat.reduceAdd,Nat.zero_add,List.range,List.range.loop]
    iterate 3 (refine Idl.v (idl_quits P 1) ?_; walk_nrm)
    refine Idl.unwanted (idl_quits P 1) rfl rfl ?_
    walk_nrm
    refine Idl.unwanted (idl_quits P 1) rfl rfl ?_
    walk_nrm
    refine Idl.v (idl_quits P 1) ?_
    walk_nrm
    refine Idl.step (idl_quits P 1) _ _ _ rfl (fun _=>stepG_region_end) ?_
    refine Idl.cond (idl_quits P 1) true rfl ?_
    simp only [if_true,if_false,Bool.false_eq_true,↓reduceIte]
    refine Idl.step (idl_quits P 1) _ _ _ rfl (fun _=>stepG_ret') ?_
    simp only [e1,e2,d1]
    skip
    q_enable
    q_leave0 H.f_add
    exact quitsD_up hT (by omega)
end Go.Proofs.Ytimlbbleblijnaa.Co

namespace Go.Proofs.Ytimlbbleblijnaa.Co
open Go.Conc
open Go.ConcN (sumTo upd sumTo_upd upd_ne upd_same sumTo_congr le_sumTo)
theorem dg_nil {H:Nat→Option Nat} {W:Nat→Bool} {S:Addr→Prop} {Cs:Nat→Prop} (w:World):DG H W S Cs w w #[] :=
 ⟨Nat.le_refl _,fun _ _=>rfl,fun _ _=>rfl,fun _ _ x _ _ _ e=>⟨x,e⟩,fun h=>h,fun e he=>by simp at he,⟨rfl,rfl⟩⟩
def Holds (P:Program) (h d:Nat) (K:Env→World→Prop) (F:Machine→Trace→Prop) (g:Goroutine):Prop :=
 ∀ (E:Env) (w:World) (gs:Array Goroutine) (T:Trace) (q:Nat→Nat) (sl:Option (Nat × Nat)),K E w→Co P E h d T gs w q→gs[h]?=some g→∃ N m' T',runNT P N (crowd gs w sl) T=(.next m',T')∧F m' T'
def Bears (h:Nat) (K:Env→World→Prop):Prop:=∀ E E1 w w1,E.Eq h E1→Aw E.W w w1→K E w→K E1 w1
section
variable {P:Program} {h d:Nat} {K:Env→World→Prop} {F:Machine→Trace→Prop} {g g':Goroutine}
theorem Holds.own (hK:Bears h K) {K':Env→World→Prop} {d':Nat} (hs:g.status=.running)
  (hst:∀ E w gs T q sl,K E w→Co P E h d T gs w q→gs[h]?=some g→∃ gs' w' sl' ops E' q',runT P (crowd gs w sl) h=(.next (crowd gs' w' sl'),ops)∧K' E' w'∧Co P E' h d' (T ++ ops) gs' w' q'∧gs'[h]?=some g')
  (hg:Holds P h d' K' F g'):Holds P h d K F g:=by
 intro E w gs T q sl k C ha
 obtain ⟨N,m',T',E1,w2,h1,h2,h3,gs',w',sl',E',q',rfl,k',C',ha'⟩:=C.step1 (sl:=sl) ha hs (R:=fun E1 w2 m t=>∃ gs' w' sl' E' q',m=crowd gs' w' sl'∧K' E' w'∧Co P E' h d' t gs' w' q'∧gs'[h]?=some g')
  (fun gs1 w2 sl2 T1 q1 E1 _ ha1 hA hE C1=>by
   obtain ⟨gs',w',sl',ops,E',q',e1,e2,e3,e4⟩:=hst E1 w2 gs1 T1 q1 sl2 (hK _ _ _ _ hE hA k) C1 ha1
   exact ⟨_,_,e1,gs',w',sl',E',q',rfl,e2,e3,e4⟩)
 obtain ⟨N2,m2,T2,e1,e2⟩:=hg E' w' gs' T' q' sl' k' C' ha'
 exact ⟨N+N2,m2,T2,runNT_cat h1 e1,e2⟩
theorem idl_holds (hK:Bears h K) (d:Nat):Idl P (h == 0) (fun _ g=>Holds P h d K F g):=⟨fun n g g' hs hst hg=>Holds.own hK hs (fun E w gs T q sl k C ha=>by
 obtain ⟨C',ha'⟩:=C.own (a':=g') (w':=w) (es:=#[]) ha (dg_nil w)
 exact ⟨_,_,_,_,E,q,runT_crowd_go ha (hst w),k,C',ha'⟩) hg⟩
theorem holds_mark (hK:Bears h K) {d d':Nat} (m:Mark) (hm:m=.disable∧d'=d+1∨m=.enable∧d'=d - 1) (hs:g.status=.running) (hst:∀ w,stepG P (h == 0) g w=.go g' w #[mkE m]) (hg:Holds P h d' K F g'):Holds P h d K F g :=
 Holds.own hK hs (fun E w gs T q sl k C ha=>by
  obtain ⟨C',ha'⟩:=C.markStep (a':=g') ha m hm
  exact ⟨_,_,_,_,E,q,runT_crowd_go ha (hst w),k,C',ha'⟩) hg
def Upped (h b:Nat) (K:Env→World→Prop) (E:Env) (w:World):Prop:=∃ E0 w0,K E0 w0∧({ E0 with ex:=upd E0.ex b (E0.ex b+1) }:Env).Eq h E∧Aw E0.W w0 w
theorem Upped.bears {b:Nat}:Bears h (Upped h b K):=fun E E1 w w1 hE hA ⟨E0,w0,k,e1,e2⟩=>⟨E0,w0,k,e1.trans hE,e2.trans _ _ _ (by have:E.W=E0.W:=e1.W'; rw [← this]; exact hA)⟩
theorem holds_add (hK:Bears h K) {b:Nat} (hW:∀ E w,K E w→E.W b=true∧E.mode b=0∧∀ n,cnt E n b+E.ex b < 1000) (hs:g.status=.running) (ng:Nat→Goroutine)
  (hst:∀ (w:World) (v:Nat),v < 1000→GroupAt b w ((v:Int) * KK) 0→stepG P (h == 0) g w=.go (ng v) (w.setCell (stZ b) (.int .u64 (((v:Int)+1) * KK))) #[rdE (stZ b),wrE (stZ b)])
  (hg:∀ v,v < 1000→Holds P h d (Upped h b K) F (ng v)):Holds P h d K F g:=by
 intro E0 w0 gs0 T0 q0 sl0 k0 C0 ha0
 obtain ⟨N,m',T',E1,w2,h1,h2,h3,v,gs',w',sl',E',q',hv,rfl,k',C',ha'⟩:=C0.step1 (sl:=sl0) ha0 hs (R:=fun E1 w2 m t=>∃ v gs' w' sl' E' q',v < 1000∧m=crowd gs' w' sl'∧Upped h b K E' w'∧Co P E' h d t gs' w' q'∧gs'[h]?=some (ng v))
  (fun gs w sl T q E _ ha hA hE C=>by
   have k:=hK _ _ _ _ hE hA k0
   obtain ⟨e1,e2,e3⟩:=hW E w k
   obtain ⟨C',ha'⟩:=C.addStep (a':=ng (cnt E gs.size b+E.ex b)) ha e1 e2 rfl (e3 gs.size) (es:=#[rdE (stZ b),wrE (stZ b)]) (fun e he=>by simpa using he)
   have hG:=C.groups b e1
   have hst0:stv E gs.size b=((cnt E gs.size b+E.ex b:Nat):Int) * KK:=by
    unfold stv
    simp [e2]
   have hsm0:smv E b=0:=by
    unfold smv
    simp [e2]
   rw [hst0,hsm0] at hG
   exact ⟨_,_,runT_crowd_go ha (hst w _ (e3 gs.size) hG),_,_,_,_,_,q,e3 gs.size,rfl,⟨E,w,k,.refl _ _,aw_set hG e1 _ (.inl ⟨rfl,_,rfl⟩)⟩,C',ha'⟩)
 obtain ⟨N2,m2,T2,e1,e2⟩:=hg v hv E' w' gs' T' q' sl' k' C' ha'
 exact ⟨N+N2,m2,T2,runNT_cat h1 e1,e2⟩
theorem holds_live (hK:Bears h K) {b:Nat} (hW:∀ E w,K E w→E.W b=true) {fr:Frame} {a:Act} {k:List Item} {cs:List Frame} {ops:Array Oper} {i:Nat} {rest:List Nat} {o:Oper} (v:Value) (ho:ops[i]?=some o) (hw:Region.wanted o (yielded ops a.tmps)=true) (hk:fr.kind≠.early)
  (hr:∀ w st sm,GroupAt b w st sm→(execOp a.eval o).run P w=.ok (.value v) w∧(execOp a.eval o).events P w #[]=#[]) (hg:Holds P h d K F (G (fr.at (a.put o.dst v) (.inRegion ops rest :: k)) cs)):Holds P h d K F (G (fr.at a (.inRegion ops (i :: rest) :: k)) cs) :=
 Holds.own hK rfl (fun E w gs T q sl kk C ha=>by
  obtain ⟨e1,e2⟩:=hr w _ _ (C.groups b (hW E w kk))
  obtain ⟨C',ha'⟩:=C.own (a':=G (fr.at (a.put o.dst v) (.inRegion ops rest :: k)) cs) (w':=w) (es:=#[]) ha (dg_nil w)
  exact ⟨_,_,_,_,E,q,runT_crowd_go ha (by rw [stepG_value ho hw hk e1]; unfold listed; rw [e2,seen_none]),kk,C',ha'⟩) hg
theorem holds_said (hK:Bears h K) {b:Nat} (hW:∀ E w,K E w→E.W b=true) (hs:g.status=.running) (hst:∀ w,stepG P (h == 0) g w=.go g' w #[mkE (.read (smZ b))]) (hg:Holds P h d K F g'):Holds P h d K F g :=
 Holds.own hK hs (fun E w gs T q sl k C ha=>by
  have hG:=C.groups b (hW E w k)
  obtain ⟨C',ha'⟩:=C.own (a':=g') (w':=w) (es:=#[mkE (.read (smZ b))]) ha ⟨Nat.le_refl _,fun _ _=>rfl,fun _ _=>rfl,fun _ _ x _ _ _ e=>⟨x,e⟩,fun h=>h,fun e he=>by
   obtain rfl:e=mkE (.read (smZ b)):=by simpa using he
   refine ⟨fun t ht=>?_,by simp [mkE],by simp [mkE],?_⟩
   ·have ht':t=⟨.cell (smZ b),false,.said⟩:=by simp [mkE,MemAct.ofEvent,MemAct.touch?] at ht; exact ht.symm
    subst ht'
    exact ⟨fun _ _ _=>rfl,fun _=>by simp⟩
   ·show (smZ b).block < w.heap.size
    exact hG.lt,⟨rfl,rfl⟩⟩
  exact ⟨_,_,_,_,E,q,runT_crowd_go ha (hst w),k,C',ha'⟩) hg
theorem holds_unwind_mark (hK:Bears h K) {d d':Nat} (m:Mark) (hm:m=.disable∧d'=d+1∨m=.enable∧d'=d - 1) (hx:∀ g,m≠.extern g) {fr:Frame} {a:Act} {ds:List Deferred} {todo:List Item} {cs:List Frame} {f:FuncId} {fn:Func} (hd:a.defers=dcall f #[] :: ds)
  (hf:P.funcs[f]?=some fn) (hname:(fn.name == "runtime.NumGoroutine")=false) (hb:fn.body.isNone=true) (hn:Extern.findNext fn=none) (he:Extern.find fn=some (fun _=>do mark m; pure Extern.Race.none_))
  (hg:Holds P h d' K F (G { fr.at ⟨a.tmps,ds⟩ todo with mode:=.returning } cs)):Holds P h d K F (G { fr.at a todo with mode:=.returning } cs) :=
 holds_mark hK m hm rfl (fun w=>stepG_unwind_entry (v:=.tuple #[]) hd hf hname hb hn he (by simp [Extern.Race.none_]) (by simp [mkE]) (by
  intro x hx'
  simp [mkE] at hx'
  subst hx'
  exact ⟨rfl,fun g h=>hx g (Loc.mark.inj h)⟩)) hg
def HoldN (P:Program) (h d:Nat) (K:Env→World→Prop) (F:Machine→Trace→Prop) (_n:Nat) (g:Goroutine):Prop:=Holds P h d K F g
theorem idl_holdN (hK:Bears h K) (d:Nat):Idl P (h == 0) (HoldN P h d K F):=⟨fun n g g' hs hst hg=>(idl_holds hK d).step n g g' hs hst hg⟩
end
end Go.Proofs.Ytimlbbleblijnaa.Co
