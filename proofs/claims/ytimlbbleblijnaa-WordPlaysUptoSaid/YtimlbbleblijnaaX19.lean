/- Lemmas for the laws of this seat, laid together of PGcj, PHa, PGck, PHb0, PHb, PHc0. -/
import Derived.Test.YtimlbbleblijnaaX18
import Derived.Conc.LeavingOf
import Derived.Below
import Derived.JoinedCond
import Derived.Conc.AtomicLaws2

set_option linter.unusedVariables false
set_option linter.unusedSimpArgs false
set_option maxRecDepth 100000
set_option maxHeartbeats 4000000
namespace Go.Proofs.Ytimlbbleblijnaa.Co
open Go Go.Conc Go.RowKit
theorem stepG_done {P:Program} {b:Frame} {a:Act} {fn:Func} {todo:List Item} {w:World} {t:Tmp} (hn:b.kind=.normal) (hd:a.defers=[]) (hf:P.funcs[b.fn]?=some fn) (hr:fn.results=#[.tmp t]) (hin:P.inits.idxOf? b.fn=none) :
  stepG P true (G { b.at a todo with mode:=.returning } []) w=.ended (.done (a.tmps.getD t undef)) w #[]:=by
 have h1:=results_tmp (fn:=fn) hr a.tmps P w
 have h2:=fun es=>events_results_tmp (fn:=fn) (P:=P) (w:=w) hr a.tmps es
 simp [G,stepG,unwind,doReturn,Frame.at,hn,hd,hf,h1,h2,hin,seen,GStep.after]
def FinF (P:Program) (Post:Value→World→Prop) (m:Machine) (T:Trace):Prop :=
 ∃ N last o w' t',runNT P (N+1) m T=(.ended o w',t')∧runN P N m=.next last∧step P last=.ended o w'∧Go.Conc.Good P Post last o w' t'
section
variable {P:Program} {E:Env} {w:World} {Post:Value→World→Prop}
theorem HG.done {b:Frame} {a:Act} {fn:Func} {todo:List Item} {t:Tmp} {v:Value} (hn:b.kind=.normal) (hd:a.defers=[]) (hf:P.funcs[b.fn]?=some fn) (hr:fn.results=#[.tmp t]) (hin:P.inits.idxOf? b.fn=none) (hv:a.tmps[t]?=some v) (hgone:∀ i,0 < i→E.role i=.gone)
  (hpost:∀ w',SameIo E.io w'→Aw E.W w w'→Post v w'):HG P 0 (FinF P Post) E (G { b.at a todo with mode:=.returning } []) w:=by
 intro E' w' gs T q sl hA C ha
 have hret:AtRet P Post E' (G { b.at a todo with mode:=.returning } []) w':=by
  refine ⟨rfl,fun i hi=>hA.1.gone i (hgone i hi),fun w2 h2=>⟨_,_,stepG_done hn hd hf hr hin,fun e he=>by simp at he,?_⟩⟩
  rw [show a.tmps.getD t undef=v by simp [Array.getD_eq_getD_getElem?,hv]]
  have hW:E'.W=E.W:=hA.1.W'
  rw [hW] at h2
  refine hpost w2 ?_ (hA.2.trans _ _ _ h2)
  have h3:=C.io
  rw [hA.1.io] at h3
  exact h3.trans ⟨h2.os,h2.output⟩
 obtain ⟨N,last,o,w2,t2,h1,h2,h3,h4⟩:=C.ends ha hret (sl:=sl)
 exact ⟨0,_,_,rfl,N,last,o,w2,t2,h1,h2,h3,h4⟩
theorem hg_run {g:Goroutine} {W:World} (hg:HG P 0 (FinF P Post) (Env.zero W) g W):∃ M last o w' t',runNT P (M+1) (solo g W) #[]=(.ended o w',t')∧runN P M (solo g W)=.next last∧step P last=.ended o w'∧Go.Conc.Good P Post last o w' t':=by
 obtain ⟨N,m',T',h1,N2,last,o,w',t',k1,k2,k3,k4⟩:=hg (Env.zero W) W #[g] #[] (fun _=>0) none ⟨.refl 0 _,Aw.refl _ _⟩ (Co.start P g W) rfl
 refine ⟨N+N2,last,o,w',t',?_,?_,k3,k4⟩
 ·have:=runNT_add P N (N2+1) (crowd #[g] W none) #[]
  rw [h1] at this
  show runNT P (N+(N2+1)) (crowd #[g] W none) #[]=_
  rw [this]
  exact k1
 ·have h5:runN P N (crowd #[g] W none)=.next m':=by rw [← runNT_fst _ _ _ #[],h1]
  show runN P (N+N2) (crowd #[g] W none)=_
  rw [runN_add,h5]
  exact k2
theorem below_end {W w' w2:World} {E':Env} (hk:Kept 0 none (Env.zero W) W E' w') (hs:Stands (Env.zero W) W E' w') (hio:SameIo E'.io w2) (hA:Aw E'.W w' w2):Below W.heap.size W { w2 with tape:=W.tape }:=by
 have h1:E'.io=W:=hk.le.io
 rw [h1] at hio
 have hWn:∀ b,b < W.heap.size→E'.W b=false:=fun b hb=>by
  cases e:E'.W b with
  | false=>rfl
  | true =>
    rcases hk.WN b e with z | z
    ·cases z
    ·omega
 refine ⟨hio.1,rfl,hio.2,?_,fun b hb=>?_⟩
 ·show W.heap.size≤w2.heap.size
  rw [hA.size]; exact hk.size
 ·show w2.heap[b]?=_
  rw [hA.heap b (hWn b hb)]
  cases e:(Env.zero W).H b with
  | some n=>exact hk.heap b n e rfl (by simp) hb
  | none=>rw [(hs b _ e (Array.getElem?_eq_getElem hb)).2,Array.getElem?_eq_getElem hb]
theorem law_good {f:FuncId} {fn:Func} {t:Tmp} {args:Array Value} {W:World} {v:Value} (hf:P.funcs[f]?=some fn) (hb:fn.body.isSome=true) (hr:fn.results=#[.tmp t]) (hin:P.inits.idxOf? f=none)
  (hg:∀ F,(∀ E' w' T todo,Kept 0 none (Env.zero W) W E' w'→Stands (Env.zero W) W E' w'→T[t]?=some v→HG P 0 F E' (G { (base f).at ⟨T,[]⟩ todo with mode:=.returning } []) w')→HG P 0 F (Env.zero W) (entry f fn args []) W)
  (hpost:∀ w2,Below W.heap.size W { w2 with tape:=W.tape }→Post v w2) :
  ∃ M last o w' t',runNT P (M+1) (solo (G (Frame.enter P f args .normal) []) W) #[]=(.ended o w',t')∧runN P M (solo (G (Frame.enter P f args .normal) []) W)=.next last∧step P last=.ended o w'∧Go.Conc.Good P Post last o w' t':=by
 cases hb':fn.body with
 | none=>rw [hb'] at hb; cases hb
 | some c =>
   rw [enter_at args hf hb']
   refine hg_run ?_
   have:=hg (FinF P Post) (fun E' w' T todo hk hs hv=>HG.done (b:=base f) (a:=⟨T,[]⟩) rfl rfl hf hr hin hv (fun i hi=>hk.le.gone i rfl) (fun w2 h1 h2=>hpost w2 (below_end hk hs h1 h2)))
   unfold entry at this
   rw [hb'] at this
   exact this
end
section
variable {H:Type} {enc:TypeId × Value→H}
theorem post_tape {P:Program} {f:Func} {s:ChangeSpec} {apart fresh handsOn:Bool} {W W':World} {args:Array Value} {v:Value} (tp:Tape)
  (h:s.post enc P f apart fresh handsOn false W args v { W' with tape:=tp }):s.post enc P f apart fresh handsOn false W args v W':=by
 obtain ⟨ds,gs,before,pr,pa,pv,h1,h2,h3,h4,h5,h6⟩:=h
 exact ⟨ds,gs,before,pr,pa,pv,h1,h2.of_heap (by rfl),h3.of_heap (by rfl),h4.of_heap (by rfl),h5,fun ha=>(by cases ha)⟩
end
end Go.Proofs.Ytimlbbleblijnaa.Co

namespace Go.Proofs.Ytimlbbleblijnaa.Co
open Go Go.Conc
def atomF:FuncId→Bool:=fun f=>f == 100 || f == 101 || f == 102 || f == 103 || f == 139 || f == 140 || f == 141 || f == 142
theorem find139:Extern.findNext Try.f139=none∧Extern.find Try.f139=some (Extern.Atomic.update (Op.intArith .add) .i64 true):=⟨by kernel_rfl,by kernel_rfl⟩
theorem find140:Extern.findNext Try.f140=none∧Extern.find Try.f140=some (Extern.Atomic.swapT (.int .i64)):=⟨by kernel_rfl,by kernel_rfl⟩
theorem find141:Extern.findNext Try.f141=none∧Extern.find Try.f141=some (Extern.Atomic.loadT (.int .i64)):=⟨by kernel_rfl,by kernel_rfl⟩
theorem find142:Extern.findNext Try.f142=none∧Extern.find Try.f142=some Extern.Atomic.storeT:=⟨by kernel_rfl,by kernel_rfl⟩
theorem closed_atom:Closed Try.prog atomF:=by
 have hcase:∀ f,atomF f=true→f=100∨f=101∨f=102∨f=103∨f=139∨f=140∨f=141∨f=142:=fun f hf=>by
  simp only [atomF,Bool.or_eq_true,beq_iff_eq,or_assoc] at hf
  exact hf
 refine ⟨fun f hf=>?_,fun f fn c hf hfn hb=>?_⟩
 ·rcases hcase f hf with rfl | rfl | rfl | rfl | rfl | rfl | rfl | rfl
  ·exact ⟨Try.f100,Try.func100,by kernel_rfl,.inl (by rfl)⟩
  ·exact ⟨Try.f101,Try.func101,by kernel_rfl,.inl (by rfl)⟩
  ·exact ⟨Try.f102,Try.func102,by kernel_rfl,.inl (by rfl)⟩
  ·exact ⟨Try.f103,Try.func103,by kernel_rfl,.inl (by rfl)⟩
  ·exact ⟨Try.f139,Try.func139,by kernel_rfl,.inr ⟨find139.1,_,find139.2,fun args=>ca_update _ (fun _ _ _=>ca_intArith _ _ _ _) _ _ _⟩⟩
  ·exact ⟨Try.f140,Try.func140,by kernel_rfl,.inr ⟨find140.1,_,find140.2,fun args=>ca_swapT _ _⟩⟩
  ·exact ⟨Try.f141,Try.func141,by kernel_rfl,.inr ⟨find141.1,_,find141.2,fun args=>ca_loadT _ _⟩⟩
  ·exact ⟨Try.f142,Try.func142,by kernel_rfl,.inr ⟨find142.1,_,find142.2,fun args=>ca_storeT _⟩⟩
 ·rcases hcase f hf with rfl | rfl | rfl | rfl | rfl | rfl | rfl | rfl
  ·rw [Try.func100] at hfn
   obtain rfl:=Option.some.inj hfn
   have h2:Try.f100.body=some (Try.f100.body.getD .skip):=by rfl
   rw [h2] at hb
   obtain rfl:=Option.some.inj hb
   show quietCode Try.prog atomF (Try.f100.body.getD .skip)=true
   kernel_rfl
  ·rw [Try.func101] at hfn
   obtain rfl:=Option.some.inj hfn
   have h2:Try.f101.body=some (Try.f101.body.getD .skip):=by rfl
   rw [h2] at hb
   obtain rfl:=Option.some.inj hb
   show quietCode Try.prog atomF (Try.f101.body.getD .skip)=true
   kernel_rfl
  ·rw [Try.func102] at hfn
   obtain rfl:=Option.some.inj hfn
   have h2:Try.f102.body=some (Try.f102.body.getD .skip):=by rfl
   rw [h2] at hb
   obtain rfl:=Option.some.inj hb
   show quietCode Try.prog atomF (Try.f102.body.getD .skip)=true
   kernel_rfl
  ·rw [Try.func103] at hfn
   obtain rfl:=Option.some.inj hfn
   have h2:Try.f103.body=some (Try.f103.body.getD .skip):=by rfl
   rw [h2] at hb
   obtain rfl:=Option.some.inj hb
   show quietCode Try.prog atomF (Try.f103.body.getD .skip)=true
   kernel_rfl
  ·rw [Try.func139] at hfn
   obtain rfl:=Option.some.inj hfn
   cases hb
  ·rw [Try.func140] at hfn
   obtain rfl:=Option.some.inj hfn
   cases hb
  ·rw [Try.func141] at hfn
   obtain rfl:=Option.some.inj hfn
   cases hb
  ·rw [Try.func142] at hfn
   obtain rfl:=Option.some.inj hfn
   cases hb
section
variable {P:Program} {ad:Addr} {x:World} {k:IntKind}
theorem run_swap_entry {v n:Int} (hc:x.cell? ad=some (.int k v)) (hz:x.frozen? ad=false):(Extern.Atomic.swapT (.int k) #[.pointer (some ad),.int k n]).run P x=.ok (.int k v) (x.setCell ad (.int k n)):=by
 change Sem.run P (do
  let a' ← asAddr (.pointer (some ad))
  let old ← Extern.Atomic.read (.int k) a'
  store a' (.int k n) .atomic
  pure old) x=_
 simp [Extern.Atomic.read,asAddr,hc,hz,run_store P x ad (.int k n) .atomic rfl,Result.andThen]
theorem run_load_entry {v:Int} (hc:x.cell? ad=some (.int k v)):(Extern.Atomic.loadT (.int k) #[.pointer (some ad)]).run P x=.ok (.int k v) x:=by
 change Sem.run P (do
  let a' ← asAddr (.pointer (some ad))
  Extern.Atomic.read (.int k) a') x=_
 simp [Extern.Atomic.read,asAddr,hc]
theorem run_store_entry {v n:Int} (hc:x.cell? ad=some (.int k v)) (hz:x.frozen? ad=false):(Extern.Atomic.storeT #[.pointer (some ad),.int k n]).run P x=.ok (.tuple #[]) (x.setCell ad (.int k n)):=by
 change Sem.run P (do
  let a' ← asAddr (.pointer (some ad))
  store a' (.int k n) .atomic
  pure Extern.Atomic.none_) x=_
 simp [asAddr,hc,hz,run_store P x ad (.int k n) .atomic rfl,Result.andThen,Extern.Atomic.none_]
end
theorem w64 (n:Int):IntKind.i64.wrap n=RowKit.wrap64 n:=by
 rw [IntKind.wrap_i64]
 unfold RowKit.wrap64
 omega
def WordAt (x:World) (a:Addr) (v:Int):Prop:=a.spot=none∧∃ (c:Array Value) (t:TypeId),x.heap[a.block]?=some (.cells c t)∧c[a.off]?=some (.int .i64 v)
theorem WordAt.cell {x:World} {a:Addr} {v:Int} (h:WordAt x a v):x.cell? a=some (.int .i64 v):=by
 obtain ⟨h0,c,t,h1,h2⟩:=h
 obtain ⟨b,o,sp⟩:=a
 cases h0
 exact obj_cell h1 h2
theorem WordAt.thaw {x:World} {a:Addr} {v:Int} (h:WordAt x a v):x.frozen? a=false:=by
 obtain ⟨h0,c,t,h1,h2⟩:=h
 obtain ⟨b,o,sp⟩:=a
 cases h0
 exact obj_thaw h1 o
theorem WordAt.same {x x':World} {a:Addr} {v:Int} (h:WordAt x a v) (hs:x'.heap[a.block]?=x.heap[a.block]?):WordAt x' a v:=by
 obtain ⟨h0,c,t,h1,h2⟩:=h
 exact ⟨h0,c,t,hs.trans h1,h2⟩
section
variable {x:World} {b o:Nat} {v n:Int}
theorem aload_any (hW:WordAt x ⟨b,o,none⟩ v):Calls Try.prog 102 #[.pointer (some ⟨b,o,none⟩)] x fun e x'=>e=.returned (.int .i64 v)∧x'=x:=by
 have hr:(callFunc 141 #[.pointer (some ⟨b,o,none⟩)]).run Try.prog x=.ok (.value (.int .i64 v)) (x):=by
  rw [run_callFunc_extern Try.func141 (by kernel_rfl) (by rfl) find141.1 find141.2,run_load_entry hW.cell]; rfl
 have hc:=hW.cell
 have hz:=hW.thaw
 go_enter Try.func102,Try.ntmps102
 go_wp2
 go_ret
 refine ⟨?_,?_⟩ <;> first | rfl | (simp only [w64]; rfl) | simp only [w64]
theorem astore_any (hW:WordAt x ⟨b,o,none⟩ v):Calls Try.prog 103 #[.pointer (some ⟨b,o,none⟩),.int .i64 n] x fun e x'=>e=.returned (.tuple #[])∧x'=x.setCell ⟨b,o,none⟩ (.int .i64 n):=by
 have hr:(callFunc 142 #[.pointer (some ⟨b,o,none⟩),.int .i64 n]).run Try.prog x=.ok (.value (.tuple #[])) (x.setCell ⟨b,o,none⟩ (.int .i64 n)):=by
  rw [run_callFunc_extern Try.func142 (by kernel_rfl) (by rfl) find142.1 find142.2,run_store_entry hW.cell hW.thaw]; rfl
 have hc:=hW.cell
 have hz:=hW.thaw
 go_enter Try.func103,Try.ntmps103
 go_wp2
 exact bodyPost_end (results_none rfl _ _ _) rfl ⟨rfl,rfl⟩
theorem aadd_any (hW:WordAt x ⟨b,o,none⟩ v):Calls Try.prog 100 #[.pointer (some ⟨b,o,none⟩),.int .i64 n] x fun e x'=>e=.returned (.int .i64 (IntKind.i64.wrap (v+n)))∧x'=x.setCell ⟨b,o,none⟩ (.int .i64 (IntKind.i64.wrap (v+n))):=by
 have hr:(callFunc 139 #[.pointer (some ⟨b,o,none⟩),.int .i64 n]).run Try.prog x=.ok (.value (.int .i64 (IntKind.i64.wrap (v+n)))) (x.setCell ⟨b,o,none⟩ (.int .i64 (IntKind.i64.wrap (v+n)))):=by
  rw [run_callFunc_extern Try.func139 (by kernel_rfl) (by rfl) find139.1 find139.2,run_add_entry hW.cell hW.thaw]; rfl
 have hc:=hW.cell
 have hz:=hW.thaw
 go_enter Try.func100,Try.ntmps100
 go_wp2
 go_ret
 refine ⟨?_,?_⟩ <;> first | rfl | (simp only [w64]; rfl) | simp only [w64]
theorem aswap_any (hW:WordAt x ⟨b,o,none⟩ v):Calls Try.prog 101 #[.pointer (some ⟨b,o,none⟩),.int .i64 n] x fun e x'=>e=.returned (.int .i64 v)∧x'=x.setCell ⟨b,o,none⟩ (.int .i64 n):=by
 have hr:(callFunc 140 #[.pointer (some ⟨b,o,none⟩),.int .i64 n]).run Try.prog x=.ok (.value (.int .i64 v)) (x.setCell ⟨b,o,none⟩ (.int .i64 n)):=by
  rw [run_callFunc_extern Try.func140 (by kernel_rfl) (by rfl) find140.1 find140.2,run_swap_entry hW.cell hW.thaw]; rfl
 have hc:=hW.cell
 have hz:=hW.thaw
 go_enter Try.func101,Try.ntmps101
 go_wp2
 go_ret
 refine ⟨?_,?_⟩ <;> first | rfl | (simp only [w64]; rfl) | simp only [w64]
end
end Go.Proofs.Ytimlbbleblijnaa.Co

namespace Go.Proofs.Ytimlbbleblijnaa.Co
open Go Go.Conc Go.RowKit
section
variable {h:Nat} {F:Machine→Trace→Prop} {E:Env} {w:World} {b₀:Frame} {a₀:Act} {ops₀:Array Oper} {i₀:Nat} {rest₀:List Nat} {k₀:List Item} {cl:List Frame}
theorem _root_.Go.Proofs.Ytimlbbleblijnaa.Co.Idl.leaveV {P:Program} {main:Bool} {A:Nat→Goroutine→Prop} {n:Nat} {b:Frame} {a:Act} {cs:List Frame} (I:Idl P main A) {fn:Func} {v:Value} {todo:List Item} {b₀:Frame} {a₀:Act} {k:List Item} {ops:Array Oper} {i:Nat} {rest:List Nat} (hn:b.kind=.normal) (hd:a.defers=[]) (hf:P.funcs[b.fn]?=some fn)
  (hr:∀ w,(results fn a.tmps).run P w=.ok v w) (he:∀ w,(results fn a.tmps).events P w #[]=#[]) (hg:A n (G (b₀.at (a₀.put ((ops[i]?).bind (·.dst)) v) (.inRegion ops rest :: k)) cs)):A (n+1) (G { b.at a todo with mode:=.returning } (b₀.at a₀ (.inRegion ops (i :: rest) :: k) :: cs)) :=
 I.step _ _ _ rfl (fun w=>by rw [stepG_leave hn hd hf (hr w) (he w),Frame.finish_at]) hg
theorem step_nil (hc:HG Try.prog h F E (G (b₀.at (a₀.put ((ops₀[i₀]?).bind (·.dst)) (.tuple #[])) (.inRegion ops₀ rest₀ :: k₀)) cl) w) :
  HGn Try.prog h F E w 100 (entry 33 Try.f33 #[.pointer none] (b₀.at a₀ (.inRegion ops₀ (i₀ :: rest₀) :: k₀) :: cl)):=by
 unfold entry
 simp only [Try.f33,Option.getD_some]
 walk_nrm
 refine Idl.q (idl_hg Try.prog h F E w) (Idl.q (idl_hg Try.prog h F E w) (Idl.rg (idl_hg Try.prog h F E w) [0,1] rfl ?_))
 refine Idl.v (idl_hg Try.prog h F E w) ?_
 walk_nrm
 refine Idl.value (v:=.bool true) (idl_hg Try.prog h F E w) rfl rfl (by k_ne) (fun w=>by kernel_rfl) (fun w=>by kernel_rfl) ?_
 walk_nrm
 refine Idl.re (idl_hg Try.prog h F E w) (Idl.ct (idl_hg Try.prog h F E w) rfl (Idl.rt (idl_hg Try.prog h F E w) ?_))
 refine Idl.leave0 (n:=1) (idl_hg Try.prog h F E w) rfl rfl Try.func33 rfl ?_
 exact hc
end
section
variable {F:Machine→Trace→Prop} {E:Env} {w:World}
end
end Go.Proofs.Ytimlbbleblijnaa.Co

namespace Go.Proofs.Ytimlbbleblijnaa.Co
open Go Go.Conc
structure WSet0 (x x':World) (a:Addr) (n:Int):Prop where
 old:∀ b,b≠a.block→x'.heap[b]?=x.heap[b]?
 new:∀ c t,x.heap[a.block]?=some (.cells c t)→x'.heap[a.block]?=some (.cells (c.setIfInBounds a.off (.int .i64 n)) t)
theorem WSet0.refl {x:World} {b o:Nat} {v:Int} (h:WordAt x ⟨b,o,none⟩ v):WSet0 x x ⟨b,o,none⟩ v:=by
 refine ⟨fun _ _=>rfl,fun c t hc=>?_⟩
 obtain ⟨_,c',t',h1,h2⟩:=h
 dsimp only at h1 h2 hc ⊢
 rw [h1] at hc
 simp only [Option.some.injEq,Obj.cells.injEq] at hc
 obtain ⟨rfl,rfl,_⟩:=hc
 rw [h1]
 have hl:=(Array.getElem?_eq_some_iff.1 h2).1
 have e:c'.setIfInBounds o (.int .i64 v)=c':=by
  apply Array.ext
  ·simp
  ·intro i h3 h4
   rw [Array.getElem_setIfInBounds]
   split
   ·rename_i e
    subst e
    exact (Array.getElem?_eq_some_iff.1 h2).2.symm
   ·rfl
 rw [e]
theorem WSet0.set {x:World} {b o:Nat} {v n:Int} (h:WordAt x ⟨b,o,none⟩ v):WSet0 x (x.setCell ⟨b,o,none⟩ (.int .i64 n)) ⟨b,o,none⟩ n:=by
 refine ⟨fun c hc=>heap_setCell_ne (a:=⟨b,o,none⟩) (fun e=>hc e.symm),fun c t hc=>?_⟩
 exact heap_set (a:=⟨b,o,none⟩) (w:=x) rfl hc
structure WSet (E:Env) (w:World) (E1:Env) (w1:World) (a:Addr) (n:Int):Prop where
 H:E1.H=E.H
 old:∀ b,E.H b=none→b≠a.block→w1.heap[b]?=w.heap[b]?
 new:∀ c t,w.heap[a.block]?=some (.cells c t)→w1.heap[a.block]?=some (.cells (c.setIfInBounds a.off (.int .i64 n)) t)
theorem WSet0.up {x x' w w':World} {E E1:Env} {b o:Nat} {n:Int} (h:WSet0 x x' ⟨b,o,none⟩ n) (hH:E.H b=none) (hE:E1.H=E.H) (hx:∀ b,E.H b=none→x.heap[b]?=w.heap[b]?) (hx':∀ b,E.H b=none→w'.heap[b]?=x'.heap[b]?):WSet E w E1 w' ⟨b,o,none⟩ n:=by
 refine ⟨hE,fun c hc hne=>?_,fun c t hc=>?_⟩
 ·rw [hx' c hc,h.old c hne,hx c hc]
 ·have h1:=h.new c t ((hx b hH).trans hc)
  exact (hx' b hH).trans h1
theorem WSet.stands {E E1:Env} {w w1:World} {a:Addr} {n:Int} (h:WSet E w E1 w1 a n) {b:Nat} {o:Obj} (h1:E.H b=none) (h2:w.heap[b]?=some o) (hne:b≠a.block):E1.H b=none∧w1.heap[b]?=some o:=⟨by rw [h.H]; exact h1,by rw [h.old b h1 hne]; exact h2⟩
theorem WSet.word {E E1:Env} {w w1:World} {b o:Nat} {v n:Int} (h:WSet E w E1 w1 ⟨b,o,none⟩ n) (hW:WordAt w ⟨b,o,none⟩ v):WordAt w1 ⟨b,o,none⟩ n:=by
 obtain ⟨h0,c,t,h1,h2⟩:=hW
 refine ⟨rfl,_,t,h.new c t h1,?_⟩
 have hl:=(Array.getElem?_eq_some_iff.1 h2).1
 dsimp only at hl ⊢
 rw [Array.getElem?_setIfInBounds_self_of_lt hl]
noncomputable def wloadB:Code:=Try.f70.body.getD .skip
noncomputable def wload0:Code:=match wloadB with | .seq x _=>x | _=>.skip
noncomputable def wload1:Code:=match wloadB with | .seq _ (.seq x _)=>x | _=>.skip
noncomputable def wload2:Code:=match wloadB with | .seq _ (.seq _ (.seq x _))=>x | _=>.skip
theorem wload_parts:wloadB=.seq wload0 (.seq wload1 (.seq wload2 .ret)):=by kernel_rfl
noncomputable def xwload0:Code:=wload0
noncomputable def xwload1:Code:=wload1
theorem wload2_wp {T:Array Value} {x:World} {b o:Nat} {v:Int} {Q:Exit→Act→World→Prop} (hs:T.size=11) (h0:T[0]?=some (.pointer (some ⟨b,o,none⟩))) (hW:WordAt x ⟨b,o,none⟩ v)
  (hQ:∀ T',T'.size=11→T'[4]?=some (.int .i64 v)→Q .normal ⟨T',[]⟩ x):wload2.wp Try.prog Q ⟨T,[]⟩ x:=by
 obtain ⟨f,rfl,fz⟩:=arrfv T hs
 have e0:=fz 0 _ h0
 clear fz h0
 have hcl:=aload_any (x:=x) (b:=b) (o:=o) hW
 have hc:=hW.cell
 have hz:=hW.thaw
 simp only [List.range,List.range.loop,List.map_cons,List.map_nil,e0]
 simp only [wload2,wloadB,Try.f70,Option.getD_some]
 go_wp2_with fail
 refine hcl.mono ?_
 rintro _ _ ⟨rfl,rfl⟩
 go_wp2_with fail
 skip
 refine hQ _ (by simp) (by simp [w64])
section
variable {j:Nat} {F:Machine→Trace→Prop} {E:Env} {w:World} {b₀:Frame} {a₀:Act} {ops₀:Array Oper} {i₀:Nat} {rest₀:List Nat} {k₀:List Item} {cl:List Frame}
theorem wload_pre {wv gv : Value} (hc : ∀ T' ops i' rest' k', T'.size = 11 → T'[0]? = some wv → (ops[i']?).bind (·.dst) = some 6 → k' = [.code (.seq wload2 .ret)] → rest' = [] →
   HGn Try.prog j F E w 100 (entry 33 Try.f33 #[gv] ((base 70).at ⟨T',[]⟩ (.inRegion ops (i' :: rest') :: k') :: b₀.at a₀ (.inRegion ops₀ (i₀ :: rest₀) :: k₀) :: cl))) :
  HGn Try.prog j F E w 200 (entry 70 Try.f70 #[wv,gv] (b₀.at a₀ (.inRegion ops₀ (i₀ :: rest₀) :: k₀) :: cl)):=by
 unfold entry
 rw [show Try.f70.body.getD .skip=.seq xwload0 (.seq xwload1 (.seq wload2 .ret)) from wload_parts,show Try.f70.ntmps=11 from rfl]
 generalize hG:wload2=L at hc ⊢
 simp only [xwload0,xwload1,wload0,wload1,wloadB,Try.f70,Option.getD_some]
 walk_nrm
 refine Idl.q (idl_hg Try.prog j F E w) (Idl.rg (idl_hg Try.prog j F E w) [0] rfl ?_)
 refine Idl.v (idl_hg Try.prog j F E w) ?_
 walk_nrm
 refine Idl.re (idl_hg Try.prog j F E w) (Idl.q (idl_hg Try.prog j F E w) (Idl.rg (idl_hg Try.prog j F E w) [0,1] rfl ?_))
 refine Idl.v (idl_hg Try.prog j F E w) ?_
 walk_nrm
 refine Idl.callE (fn:=Try.f33) (vs:=#[gv]) (idl_hg Try.prog j F E w) rfl rfl (by k_ne) rfl Try.func33 rfl rfl (by simp [Act.eval]) ?_
 exact hc _ _ _ _ _ (by simp) (by simp) rfl rfl rfl
theorem wload_post {T':Array Value} {ops:Array Oper} {i' b o:Nat} {v:Int} (hs:T'.size=11) (h0:T'[0]?=some (.pointer (some ⟨b,o,none⟩))) (hd:(ops[i']?).bind (·.dst)=some 6) (hW:WordAt w ⟨b,o,none⟩ v) (hH:E.H b=none)
  (hc:∀ E2 w2,E.Eq j E2→Kept j none E w E2 w2→WSet E w E2 w2 ⟨b,o,none⟩ v→HG Try.prog j F E2 (G (b₀.at (a₀.put ((ops₀[i₀]?).bind (·.dst)) (.int .i64 v)) (.inRegion ops₀ rest₀ :: k₀)) cl) w2) :
  HGn Try.prog j F E w 200 (G ((base 70).at ((⟨T',[]⟩:Act).put ((ops[i']?).bind (·.dst)) (.tuple #[])) (.inRegion ops [] :: [.code (.seq wload2 .ret)])) (b₀.at a₀ (.inRegion ops₀ (i₀ :: rest₀) :: k₀) :: cl)):=by
 rw [hd]
 refine Idl.step (idl_hg Try.prog j F E w) _ _ _ rfl (fun _=>stepG_region_end) ?_
 refine Idl.step (idl_hg Try.prog j F E w) _ _ _ rfl (fun _=>stepG_seq) ?_
 refine HG.quietS (fun c=>c=b) (fun c e=>by rw [e]; exact hH) closed_atom (Q:=fun a' x x'=>a'.tmps.size=11∧a'.tmps[4]?=some (.int .i64 v)∧WSet0 x x' ⟨b,o,none⟩ v) (by kernel_rfl) (by rfl) rfl (fun x hxs hx=>?_) (fun E1 w' a' x x' hE hd' hxs hx hxs' hx' hK hB hSt hq=>?_)
 ·refine wload2_wp (v:=v) (by simp [Act.put,hs]) (by simp [Act.put]; exact h0) (hW.same (hx b hH)) (fun T'' q1 q2=>⟨rfl,rfl,?_,q1,q2,?_⟩)
  ·exact fun _ _ _=>rfl
  ·exact WSet0.refl (hW.same (hx b hH))
 ·obtain ⟨Ta,df⟩:=a'
  have hdf:df=[]:=hd'
  subst hdf
  obtain ⟨q1,q2,q3⟩:=hq
  change HGn Try.prog j F E1 w' 100 _
  dsimp only at q1 q2
  obtain ⟨f,rfl,fz⟩:=arrfv Ta q1
  have e4:=fz 4 _ q2
  refine Idl.step (idl_hg Try.prog j F E1 w') _ _ _ rfl (fun _=>stepG_ret') ?_
  refine Idl.leaveV (n:=1) (v:=.int .i64 v) (fn:=Try.f70) (idl_hg Try.prog j F E1 w') rfl rfl Try.func70 (fun w=>by simp [results,Try.f70,e4,go_sem]) (fun w=>by simp [results,Try.f70,e4,go_sem]) ?_
  exact hc E1 w' hE hK (q3.up hH (hE.H') hx hx')
end
section
variable {σ Λ:Type} {D:Prot σ Λ} {h rb:Nat} {home:Goroutine→Prop} {k:Int} {th:Th} {F:Machine→Trace→Prop} {E:Env} {w:World} {s:σ} {b₀:Frame} {a₀:Act} {ops₀:Array Oper} {i₀:Nat} {rest₀:List Nat} {k₀:List Item} {cl:List Frame}
theorem wload_go {m:Nat} {ℓ:Λ} {b o:Nat} (T:TKn h rb home k th E w) (g:GA w rb th false false (D.tal ℓ)) (M:D.M s E w) (O:OffAt th.gb th.box rb b₀ a₀ ops₀ i₀ rest₀ k₀ cl)
  (B:Back D h rb home th F E w s (some ℓ) (.seat th.ct (Srv D rb th (m+1) ℓ)))
  (hgo:∀ (h':Nat) (home':Goroutine→Prop) (k':Int) (F':Machine→Trace→Prop) (E':Env) (w':World) (s':σ),TKn h' rb home' k' th E' w'→D.M s' E' w'→D.fits ℓ s' →
   (∀ s'' o,D.next ℓ k' s' (s'',o)→Back D h' rb home' th F' E' w' s'' o (roleOf (Srv D rb th m) rb th o)) →
   ∃ v,WordAt w' ⟨b,o,none⟩ v∧E'.H b=none∧∀ E2 w2,Kept th.j (some th.gb) E' w' E2 w2→TKn h' rb home' k' th E2 w2→GA w2 rb th false false (IntKind.i64.wrap ((D.tal ℓ).1+1),(D.tal ℓ).2.1,(D.tal ℓ).2.2)→WSet E' w' E2 w2 ⟨b,o,none⟩ v →
    HG Try.prog th.j F' E2 (G (b₀.at (a₀.put ((ops₀[i₀]?).bind (·.dst)) (.int .i64 v)) (.inRegion ops₀ rest₀ :: k₀)) cl) w2) :
  HGn Try.prog th.j F E w 200 (entry 70 Try.f70 #[.pointer (some ⟨b,o,none⟩),.pointer (some ⟨th.gb,0,none⟩)] (b₀.at a₀ (.inRegion ops₀ (i₀ :: rest₀) :: k₀) :: cl)):=by
 refine wload_pre (fun T' ops i' rest' k' hs h0 hd hk hr=>?_)
 subst hk hr
 refine body_step (n:=m) (ℓ:=ℓ) T g M (OffAt.up O Try.func70 rfl) B (fun h' home' k' F' E' w' s' T1 g1 M1 f1 B1=>?_)
 obtain ⟨v,hW,hH,hgo'⟩:=hgo h' home' k' F' E' w' s' T1 M1 f1 B1
 refine wload_post (v:=v) hs h0 hd hW hH (fun E2 w2 hE hK hWS=>?_)
 exact hgo' E2 w2 hK.weaken (T1.kept hK.weaken T1.gct) (GA.kept hK g1 T1.gH T1.gW) hWS
end
section
variable {j:Nat} {F:Machine→Trace→Prop} {E:Env} {w:World} {b₀:Frame} {a₀:Act} {ops₀:Array Oper} {i₀:Nat} {rest₀:List Nat} {k₀:List Item} {cl:List Frame}
theorem wload_nil {b o:Nat} {v:Int} (hW:WordAt w ⟨b,o,none⟩ v) (hH:E.H b=none)
  (hc:∀ E2 w2,E.Eq j E2→Kept j none E w E2 w2→WSet E w E2 w2 ⟨b,o,none⟩ v→HG Try.prog j F E2 (G (b₀.at (a₀.put ((ops₀[i₀]?).bind (·.dst)) (.int .i64 v)) (.inRegion ops₀ rest₀ :: k₀)) cl) w2) :
  HGn Try.prog j F E w 200 (entry 70 Try.f70 #[.pointer (some ⟨b,o,none⟩),.pointer none] (b₀.at a₀ (.inRegion ops₀ (i₀ :: rest₀) :: k₀) :: cl)):=by
 refine wload_pre (fun T' ops i' rest' k' hs h0 hd hk hr=>?_)
 subst hk hr
 refine step_nil ?_
 exact wload_post (v:=v) hs h0 hd hW hH hc
end
noncomputable def wstoreB:Code:=Try.f71.body.getD .skip
noncomputable def wstore1:Code:=match wstoreB with | .seq x _=>x | _=>.skip
noncomputable def wstore2:Code:=match wstoreB with | .seq _ x=>x | _=>.skip
theorem wstore_parts:wstoreB=.seq wstore1 wstore2:=by kernel_rfl
noncomputable def xwstore1:Code:=wstore1
theorem wstore2_wp {T:Array Value} {x:World} {b o:Nat} {v n:Int} {Q:Exit→Act→World→Prop} (hs:T.size=13) (h0:T[0]?=some (.pointer (some ⟨b,o,none⟩))) (h2:T[2]?=some (.int .i64 n)) (hW:WordAt x ⟨b,o,none⟩ v)
  (hQ:∀ T',T'.size=13→Q .normal ⟨T',[]⟩ (x.setCell ⟨b,o,none⟩ (.int .i64 n))):wstore2.wp Try.prog Q ⟨T,[]⟩ x:=by
 obtain ⟨f,rfl,fz⟩:=arrfv T hs
 have e0:=fz 0 _ h0
 have e2:=fz 2 _ h2
 clear fz h0 h2
 have hcl:=astore_any (x:=x) (b:=b) (o:=o) (n:=n) hW
 have hc:=hW.cell
 have hz:=hW.thaw
 simp only [List.range,List.range.loop,List.map_cons,List.map_nil,e0,e2]
 simp only [wstore2,wstoreB,Try.f71,Option.getD_some]
 go_wp2_with fail
 refine hcl.mono ?_
 rintro _ _ ⟨rfl,rfl⟩
 go_wp2_with fail
 skip
 simp
section
variable {j:Nat} {F:Machine→Trace→Prop} {E:Env} {w:World} {b₀:Frame} {a₀:Act} {ops₀:Array Oper} {i₀:Nat} {rest₀:List Nat} {k₀:List Item} {cl:List Frame}
theorem wstore_pre {wv gv : Value} {n : Int} (hc : ∀ T' ops i' rest' k', T'.size = 13 → T'[0]? = some wv → T'[2]? = some (.int .i64 n) → (ops[i']?).bind (·.dst) = some 7 → k' = [.code wstore2] → rest' = [] →
   HGn Try.prog j F E w 100 (entry 33 Try.f33 #[gv] ((base 71).at ⟨T',[]⟩ (.inRegion ops (i' :: rest') :: k') :: b₀.at a₀ (.inRegion ops₀ (i₀ :: rest₀) :: k₀) :: cl))) :
  HGn Try.prog j F E w 200 (entry 71 Try.f71 #[wv,gv,.int .i64 n] (b₀.at a₀ (.inRegion ops₀ (i₀ :: rest₀) :: k₀) :: cl)):=by
 unfold entry
 rw [show Try.f71.body.getD .skip=.seq xwstore1 wstore2 from wstore_parts,show Try.f71.ntmps=13 from rfl]
 generalize hG:wstore2=L at hc ⊢
 simp only [xwstore1,wstore1,wstoreB,Try.f71,Option.getD_some]
 walk_nrm
 refine Idl.q (idl_hg Try.prog j F E w) (Idl.rg (idl_hg Try.prog j F E w) [0,1] rfl ?_)
 refine Idl.v (idl_hg Try.prog j F E w) ?_
 walk_nrm
 refine Idl.callE (fn:=Try.f33) (vs:=#[gv]) (idl_hg Try.prog j F E w) rfl rfl (by k_ne) rfl Try.func33 rfl rfl (by simp [Act.eval]) ?_
 exact hc _ _ _ _ _ (by simp) (by simp) (by simp) rfl rfl rfl
theorem wstore_post {T':Array Value} {ops:Array Oper} {i' b o:Nat} {v n:Int} (hs:T'.size=13) (h0:T'[0]?=some (.pointer (some ⟨b,o,none⟩))) (h2:T'[2]?=some (.int .i64 n)) (hd:(ops[i']?).bind (·.dst)=some 7) (hW:WordAt w ⟨b,o,none⟩ v) (hH:E.H b=none)
  (hc:∀ E2 w2,E.Eq j E2→Kept j none E w E2 w2→WSet E w E2 w2 ⟨b,o,none⟩ n→HG Try.prog j F E2 (G (b₀.at (a₀.put ((ops₀[i₀]?).bind (·.dst)) (.tuple #[])) (.inRegion ops₀ rest₀ :: k₀)) cl) w2) :
  HGn Try.prog j F E w 200 (G ((base 71).at ((⟨T',[]⟩:Act).put ((ops[i']?).bind (·.dst)) (.tuple #[])) (.inRegion ops [] :: [.code wstore2])) (b₀.at a₀ (.inRegion ops₀ (i₀ :: rest₀) :: k₀) :: cl)):=by
 rw [hd]
 refine Idl.step (idl_hg Try.prog j F E w) _ _ _ rfl (fun _=>stepG_region_end) ?_
 skip
 refine HG.quietS (fun c=>c=b) (fun c e=>by rw [e]; exact hH) closed_atom (Q:=fun a' x x'=>a'.tmps.size=13∧WSet0 x x' ⟨b,o,none⟩ n) (by kernel_rfl) (by rfl) rfl (fun x hxs hx=>?_) (fun E1 w' a' x x' hE hd' hxs hx hxs' hx' hK hB hSt hq=>?_)
 ·refine wstore2_wp (v:=v) (by simp [Act.put,hs]) (by simp [Act.put]; exact h0) (by simp [Act.put]; exact h2) (hW.same (hx b hH)) (fun T'' q1=>⟨rfl,rfl,?_,q1,?_⟩)
  ·exact fun c _ hc=>heap_setCell_ne (a:=⟨b,o,none⟩) (fun e=>hc e.symm)
  ·exact WSet0.set (hW.same (hx b hH))
 ·obtain ⟨Ta,df⟩:=a'
  have hdf:df=[]:=hd'
  subst hdf
  obtain ⟨q1,q3⟩:=hq
  change HGn Try.prog j F E1 w' 100 _
  dsimp only at q1
  obtain ⟨f,rfl,fz⟩:=arrfv Ta q1
  refine Idl.en (idl_hg Try.prog j F E1 w') ?_
  refine Idl.leave0 (n:=1) (idl_hg Try.prog j F E1 w') rfl rfl Try.func71 rfl ?_
  exact hc E1 w' hE hK (q3.up hH (hE.H') hx hx')
end
section
variable {σ Λ:Type} {D:Prot σ Λ} {h rb:Nat} {home:Goroutine→Prop} {k:Int} {th:Th} {F:Machine→Trace→Prop} {E:Env} {w:World} {s:σ} {b₀:Frame} {a₀:Act} {ops₀:Array Oper} {i₀:Nat} {rest₀:List Nat} {k₀:List Item} {cl:List Frame}
theorem wstore_go {m:Nat} {ℓ:Λ} {b o:Nat} {n:Int} (T:TKn h rb home k th E w) (g:GA w rb th false false (D.tal ℓ)) (M:D.M s E w) (O:OffAt th.gb th.box rb b₀ a₀ ops₀ i₀ rest₀ k₀ cl)
  (B:Back D h rb home th F E w s (some ℓ) (.seat th.ct (Srv D rb th (m+1) ℓ)))
  (hgo:∀ (h':Nat) (home':Goroutine→Prop) (k':Int) (F':Machine→Trace→Prop) (E':Env) (w':World) (s':σ),TKn h' rb home' k' th E' w'→D.M s' E' w'→D.fits ℓ s' →
   (∀ s'' o,D.next ℓ k' s' (s'',o)→Back D h' rb home' th F' E' w' s'' o (roleOf (Srv D rb th m) rb th o)) →
   ∃ v,WordAt w' ⟨b,o,none⟩ v∧E'.H b=none∧∀ E2 w2,Kept th.j (some th.gb) E' w' E2 w2→TKn h' rb home' k' th E2 w2→GA w2 rb th false false (IntKind.i64.wrap ((D.tal ℓ).1+1),(D.tal ℓ).2.1,(D.tal ℓ).2.2)→WSet E' w' E2 w2 ⟨b,o,none⟩ n →
    HG Try.prog th.j F' E2 (G (b₀.at (a₀.put ((ops₀[i₀]?).bind (·.dst)) (.tuple #[])) (.inRegion ops₀ rest₀ :: k₀)) cl) w2) :
  HGn Try.prog th.j F E w 200 (entry 71 Try.f71 #[.pointer (some ⟨b,o,none⟩),.pointer (some ⟨th.gb,0,none⟩),.int .i64 n] (b₀.at a₀ (.inRegion ops₀ (i₀ :: rest₀) :: k₀) :: cl)):=by
 refine wstore_pre (fun T' ops i' rest' k' hs h0 h2 hd hk hr=>?_)
 subst hk hr
 refine body_step (n:=m) (ℓ:=ℓ) T g M (OffAt.up O Try.func71 rfl) B (fun h' home' k' F' E' w' s' T1 g1 M1 f1 B1=>?_)
 obtain ⟨v,hW,hH,hgo'⟩:=hgo h' home' k' F' E' w' s' T1 M1 f1 B1
 refine wstore_post (v:=v) hs h0 h2 hd hW hH (fun E2 w2 hE hK hWS=>?_)
 exact hgo' E2 w2 hK.weaken (T1.kept hK.weaken T1.gct) (GA.kept hK g1 T1.gH T1.gW) hWS
end
section
variable {j:Nat} {F:Machine→Trace→Prop} {E:Env} {w:World} {b₀:Frame} {a₀:Act} {ops₀:Array Oper} {i₀:Nat} {rest₀:List Nat} {k₀:List Item} {cl:List Frame}
end
noncomputable def waddB:Code:=Try.f68.body.getD .skip
noncomputable def wadd0:Code:=match waddB with | .seq x _=>x | _=>.skip
noncomputable def wadd1:Code:=match waddB with | .seq _ (.seq x _)=>x | _=>.skip
noncomputable def wadd2:Code:=match waddB with | .seq _ (.seq _ (.seq x _))=>x | _=>.skip
theorem wadd_parts:waddB=.seq wadd0 (.seq wadd1 (.seq wadd2 .ret)):=by kernel_rfl
noncomputable def xwadd0:Code:=wadd0
noncomputable def xwadd1:Code:=wadd1
theorem wadd2_wp {T:Array Value} {x:World} {b o:Nat} {v n:Int} {Q:Exit→Act→World→Prop} (hs:T.size=16) (h0:T[0]?=some (.pointer (some ⟨b,o,none⟩))) (h2:T[2]?=some (.int .i64 n)) (hW:WordAt x ⟨b,o,none⟩ v)
  (hQ:∀ T',T'.size=16→T'[6]?=some (.int .i64 (IntKind.i64.wrap (IntKind.i64.wrap (v+n) - n)))→Q .normal ⟨T',[]⟩ (x.setCell ⟨b,o,none⟩ (.int .i64 (IntKind.i64.wrap (v+n))))):wadd2.wp Try.prog Q ⟨T,[]⟩ x:=by
 obtain ⟨f,rfl,fz⟩:=arrfv T hs
 have e0:=fz 0 _ h0
 have e2:=fz 2 _ h2
 clear fz h0 h2
 have hcl:=aadd_any (x:=x) (b:=b) (o:=o) (n:=n) hW
 have hc:=hW.cell
 have hz:=hW.thaw
 simp only [List.range,List.range.loop,List.map_cons,List.map_nil,e0,e2]
 simp only [wadd2,waddB,Try.f68,Option.getD_some]
 go_wp2_with fail
 refine hcl.mono ?_
 rintro _ _ ⟨rfl,rfl⟩
 go_wp2_with fail
 simp only [w64] at hQ ⊢
 refine hQ _ (by simp) (by simp [w64])
section
variable {j:Nat} {F:Machine→Trace→Prop} {E:Env} {w:World} {b₀:Frame} {a₀:Act} {ops₀:Array Oper} {i₀:Nat} {rest₀:List Nat} {k₀:List Item} {cl:List Frame}
theorem wadd_pre {wv gv : Value} {n : Int} (hc : ∀ T' ops i' rest' k', T'.size = 16 → T'[0]? = some wv → T'[2]? = some (.int .i64 n) → (ops[i']?).bind (·.dst) = some 8 → k' = [.code (.seq wadd2 .ret)] → rest' = [] →
   HGn Try.prog j F E w 100 (entry 33 Try.f33 #[gv] ((base 68).at ⟨T',[]⟩ (.inRegion ops (i' :: rest') :: k') :: b₀.at a₀ (.inRegion ops₀ (i₀ :: rest₀) :: k₀) :: cl))) :
  HGn Try.prog j F E w 200 (entry 68 Try.f68 #[wv,gv,.int .i64 n] (b₀.at a₀ (.inRegion ops₀ (i₀ :: rest₀) :: k₀) :: cl)):=by
 unfold entry
 rw [show Try.f68.body.getD .skip=.seq xwadd0 (.seq xwadd1 (.seq wadd2 .ret)) from wadd_parts,show Try.f68.ntmps=16 from rfl]
 generalize hG:wadd2=L at hc ⊢
 simp only [xwadd0,xwadd1,wadd0,wadd1,waddB,Try.f68,Option.getD_some]
 walk_nrm
 refine Idl.q (idl_hg Try.prog j F E w) (Idl.rg (idl_hg Try.prog j F E w) [0] rfl ?_)
 refine Idl.v (idl_hg Try.prog j F E w) ?_
 walk_nrm
 refine Idl.re (idl_hg Try.prog j F E w) (Idl.q (idl_hg Try.prog j F E w) (Idl.rg (idl_hg Try.prog j F E w) [0,1] rfl ?_))
 refine Idl.v (idl_hg Try.prog j F E w) ?_
 walk_nrm
 refine Idl.callE (fn:=Try.f33) (vs:=#[gv]) (idl_hg Try.prog j F E w) rfl rfl (by k_ne) rfl Try.func33 rfl rfl (by simp [Act.eval]) ?_
 exact hc _ _ _ _ _ (by simp) (by simp) (by simp) rfl rfl rfl
theorem wadd_post {T':Array Value} {ops:Array Oper} {i' b o:Nat} {v n:Int} (hs:T'.size=16) (h0:T'[0]?=some (.pointer (some ⟨b,o,none⟩))) (h2:T'[2]?=some (.int .i64 n)) (hd:(ops[i']?).bind (·.dst)=some 8) (hW:WordAt w ⟨b,o,none⟩ v) (hH:E.H b=none)
  (hc:∀ E2 w2,E.Eq j E2→Kept j none E w E2 w2→WSet E w E2 w2 ⟨b,o,none⟩ (IntKind.i64.wrap (v+n))→HG Try.prog j F E2 (G (b₀.at (a₀.put ((ops₀[i₀]?).bind (·.dst)) (.int .i64 (IntKind.i64.wrap (IntKind.i64.wrap (v+n) - n)))) (.inRegion ops₀ rest₀ :: k₀)) cl) w2) :
  HGn Try.prog j F E w 200 (G ((base 68).at ((⟨T',[]⟩:Act).put ((ops[i']?).bind (·.dst)) (.tuple #[])) (.inRegion ops [] :: [.code (.seq wadd2 .ret)])) (b₀.at a₀ (.inRegion ops₀ (i₀ :: rest₀) :: k₀) :: cl)):=by
 rw [hd]
 refine Idl.step (idl_hg Try.prog j F E w) _ _ _ rfl (fun _=>stepG_region_end) ?_
 refine Idl.step (idl_hg Try.prog j F E w) _ _ _ rfl (fun _=>stepG_seq) ?_
 refine HG.quietS (fun c=>c=b) (fun c e=>by rw [e]; exact hH) closed_atom (Q:=fun a' x x'=>a'.tmps.size=16∧a'.tmps[6]?=some (.int .i64 (IntKind.i64.wrap (IntKind.i64.wrap (v+n) - n)))∧WSet0 x x' ⟨b,o,none⟩ (IntKind.i64.wrap (v+n))) (by kernel_rfl) (by rfl) rfl (fun x hxs hx=>?_) (fun E1 w' a' x x' hE hd' hxs hx hxs' hx' hK hB hSt hq=>?_)
 ·refine wadd2_wp (v:=v) (by simp [Act.put,hs]) (by simp [Act.put]; exact h0) (by simp [Act.put]; exact h2) (hW.same (hx b hH)) (fun T'' q1 q2=>⟨rfl,rfl,?_,q1,q2,?_⟩)
  ·exact fun c _ hc=>heap_setCell_ne (a:=⟨b,o,none⟩) (fun e=>hc e.symm)
  ·exact WSet0.set (hW.same (hx b hH))
 ·obtain ⟨Ta,df⟩:=a'
  have hdf:df=[]:=hd'
  subst hdf
  obtain ⟨q1,q2,q3⟩:=hq
  change HGn Try.prog j F E1 w' 100 _
  dsimp only at q1 q2
  obtain ⟨f,rfl,fz⟩:=arrfv Ta q1
  have e4:=fz 6 _ q2
  refine Idl.step (idl_hg Try.prog j F E1 w') _ _ _ rfl (fun _=>stepG_ret') ?_
  refine Idl.leaveV (n:=1) (v:=.int .i64 (IntKind.i64.wrap (IntKind.i64.wrap (v+n) - n))) (fn:=Try.f68) (idl_hg Try.prog j F E1 w') rfl rfl Try.func68 (fun w=>by simp [results,Try.f68,e4,go_sem]) (fun w=>by simp [results,Try.f68,e4,go_sem]) ?_
  exact hc E1 w' hE hK (q3.up hH (hE.H') hx hx')
end
section
variable {σ Λ:Type} {D:Prot σ Λ} {h rb:Nat} {home:Goroutine→Prop} {k:Int} {th:Th} {F:Machine→Trace→Prop} {E:Env} {w:World} {s:σ} {b₀:Frame} {a₀:Act} {ops₀:Array Oper} {i₀:Nat} {rest₀:List Nat} {k₀:List Item} {cl:List Frame}
theorem wadd_go {m:Nat} {ℓ:Λ} {b o:Nat} {n:Int} (T:TKn h rb home k th E w) (g:GA w rb th false false (D.tal ℓ)) (M:D.M s E w) (O:OffAt th.gb th.box rb b₀ a₀ ops₀ i₀ rest₀ k₀ cl)
  (B:Back D h rb home th F E w s (some ℓ) (.seat th.ct (Srv D rb th (m+1) ℓ)))
  (hgo:∀ (h':Nat) (home':Goroutine→Prop) (k':Int) (F':Machine→Trace→Prop) (E':Env) (w':World) (s':σ),TKn h' rb home' k' th E' w'→D.M s' E' w'→D.fits ℓ s' →
   (∀ s'' o,D.next ℓ k' s' (s'',o)→Back D h' rb home' th F' E' w' s'' o (roleOf (Srv D rb th m) rb th o)) →
   ∃ v,WordAt w' ⟨b,o,none⟩ v∧E'.H b=none∧∀ E2 w2,Kept th.j (some th.gb) E' w' E2 w2→TKn h' rb home' k' th E2 w2→GA w2 rb th false false (IntKind.i64.wrap ((D.tal ℓ).1+1),(D.tal ℓ).2.1,(D.tal ℓ).2.2)→WSet E' w' E2 w2 ⟨b,o,none⟩ (IntKind.i64.wrap (v+n)) →
    HG Try.prog th.j F' E2 (G (b₀.at (a₀.put ((ops₀[i₀]?).bind (·.dst)) (.int .i64 (IntKind.i64.wrap (IntKind.i64.wrap (v+n) - n)))) (.inRegion ops₀ rest₀ :: k₀)) cl) w2) :
  HGn Try.prog th.j F E w 200 (entry 68 Try.f68 #[.pointer (some ⟨b,o,none⟩),.pointer (some ⟨th.gb,0,none⟩),.int .i64 n] (b₀.at a₀ (.inRegion ops₀ (i₀ :: rest₀) :: k₀) :: cl)):=by
 refine wadd_pre (fun T' ops i' rest' k' hs h0 h2 hd hk hr=>?_)
 subst hk hr
 refine body_step (n:=m) (ℓ:=ℓ) T g M (OffAt.up O Try.func68 rfl) B (fun h' home' k' F' E' w' s' T1 g1 M1 f1 B1=>?_)
 obtain ⟨v,hW,hH,hgo'⟩:=hgo h' home' k' F' E' w' s' T1 M1 f1 B1
 refine wadd_post (v:=v) hs h0 h2 hd hW hH (fun E2 w2 hE hK hWS=>?_)
 exact hgo' E2 w2 hK.weaken (T1.kept hK.weaken T1.gct) (GA.kept hK g1 T1.gH T1.gW) hWS
end
section
variable {j:Nat} {F:Machine→Trace→Prop} {E:Env} {w:World} {b₀:Frame} {a₀:Act} {ops₀:Array Oper} {i₀:Nat} {rest₀:List Nat} {k₀:List Item} {cl:List Frame}
theorem wadd_nil {b o:Nat} {v n:Int} (hW:WordAt w ⟨b,o,none⟩ v) (hH:E.H b=none)
  (hc:∀ E2 w2,E.Eq j E2→Kept j none E w E2 w2→WSet E w E2 w2 ⟨b,o,none⟩ (IntKind.i64.wrap (v+n))→HG Try.prog j F E2 (G (b₀.at (a₀.put ((ops₀[i₀]?).bind (·.dst)) (.int .i64 (IntKind.i64.wrap (IntKind.i64.wrap (v+n) - n)))) (.inRegion ops₀ rest₀ :: k₀)) cl) w2) :
  HGn Try.prog j F E w 200 (entry 68 Try.f68 #[.pointer (some ⟨b,o,none⟩),.pointer none,.int .i64 n] (b₀.at a₀ (.inRegion ops₀ (i₀ :: rest₀) :: k₀) :: cl)):=by
 refine wadd_pre (fun T' ops i' rest' k' hs h0 h2 hd hk hr=>?_)
 subst hk hr
 refine step_nil ?_
 exact wadd_post (v:=v) hs h0 h2 hd hW hH hc
end
noncomputable def wswapB:Code:=Try.f69.body.getD .skip
noncomputable def wswap0:Code:=match wswapB with | .seq x _=>x | _=>.skip
noncomputable def wswap1:Code:=match wswapB with | .seq _ (.seq x _)=>x | _=>.skip
noncomputable def wswap2:Code:=match wswapB with | .seq _ (.seq _ (.seq x _))=>x | _=>.skip
theorem wswap_parts:wswapB=.seq wswap0 (.seq wswap1 (.seq wswap2 .ret)):=by kernel_rfl
noncomputable def xwswap0:Code:=wswap0
noncomputable def xwswap1:Code:=wswap1
theorem wswap2_wp {T:Array Value} {x:World} {b o:Nat} {v n:Int} {Q:Exit→Act→World→Prop} (hs:T.size=14) (h0:T[0]?=some (.pointer (some ⟨b,o,none⟩))) (h2:T[2]?=some (.int .i64 n)) (hW:WordAt x ⟨b,o,none⟩ v)
  (hQ:∀ T',T'.size=14→T'[6]?=some (.int .i64 v)→Q .normal ⟨T',[]⟩ (x.setCell ⟨b,o,none⟩ (.int .i64 n))):wswap2.wp Try.prog Q ⟨T,[]⟩ x:=by
 obtain ⟨f,rfl,fz⟩:=arrfv T hs
 have e0:=fz 0 _ h0
 have e2:=fz 2 _ h2
 clear fz h0 h2
 have hcl:=aswap_any (x:=x) (b:=b) (o:=o) (n:=n) hW
 have hc:=hW.cell
 have hz:=hW.thaw
 simp only [List.range,List.range.loop,List.map_cons,List.map_nil,e0,e2]
 simp only [wswap2,wswapB,Try.f69,Option.getD_some]
 go_wp2_with fail
 refine hcl.mono ?_
 rintro _ _ ⟨rfl,rfl⟩
 go_wp2_with fail
 skip
 refine hQ _ (by simp) (by simp [w64])
section
variable {j:Nat} {F:Machine→Trace→Prop} {E:Env} {w:World} {b₀:Frame} {a₀:Act} {ops₀:Array Oper} {i₀:Nat} {rest₀:List Nat} {k₀:List Item} {cl:List Frame}
theorem wswap_pre {wv gv : Value} {n : Int} (hc : ∀ T' ops i' rest' k', T'.size = 14 → T'[0]? = some wv → T'[2]? = some (.int .i64 n) → (ops[i']?).bind (·.dst) = some 8 → k' = [.code (.seq wswap2 .ret)] → rest' = [] →
   HGn Try.prog j F E w 100 (entry 33 Try.f33 #[gv] ((base 69).at ⟨T',[]⟩ (.inRegion ops (i' :: rest') :: k') :: b₀.at a₀ (.inRegion ops₀ (i₀ :: rest₀) :: k₀) :: cl))) :
  HGn Try.prog j F E w 200 (entry 69 Try.f69 #[wv,gv,.int .i64 n] (b₀.at a₀ (.inRegion ops₀ (i₀ :: rest₀) :: k₀) :: cl)):=by
 unfold entry
 rw [show Try.f69.body.getD .skip=.seq xwswap0 (.seq xwswap1 (.seq wswap2 .ret)) from wswap_parts,show Try.f69.ntmps=14 from rfl]
 generalize hG:wswap2=L at hc ⊢
 simp only [xwswap0,xwswap1,wswap0,wswap1,wswapB,Try.f69,Option.getD_some]
 walk_nrm
 refine Idl.q (idl_hg Try.prog j F E w) (Idl.rg (idl_hg Try.prog j F E w) [0] rfl ?_)
 refine Idl.v (idl_hg Try.prog j F E w) ?_
 walk_nrm
 refine Idl.re (idl_hg Try.prog j F E w) (Idl.q (idl_hg Try.prog j F E w) (Idl.rg (idl_hg Try.prog j F E w) [0,1] rfl ?_))
 refine Idl.v (idl_hg Try.prog j F E w) ?_
 walk_nrm
 refine Idl.callE (fn:=Try.f33) (vs:=#[gv]) (idl_hg Try.prog j F E w) rfl rfl (by k_ne) rfl Try.func33 rfl rfl (by simp [Act.eval]) ?_
 exact hc _ _ _ _ _ (by simp) (by simp) (by simp) rfl rfl rfl
theorem wswap_post {T':Array Value} {ops:Array Oper} {i' b o:Nat} {v n:Int} (hs:T'.size=14) (h0:T'[0]?=some (.pointer (some ⟨b,o,none⟩))) (h2:T'[2]?=some (.int .i64 n)) (hd:(ops[i']?).bind (·.dst)=some 8) (hW:WordAt w ⟨b,o,none⟩ v) (hH:E.H b=none)
  (hc:∀ E2 w2,E.Eq j E2→Kept j none E w E2 w2→WSet E w E2 w2 ⟨b,o,none⟩ n→HG Try.prog j F E2 (G (b₀.at (a₀.put ((ops₀[i₀]?).bind (·.dst)) (.int .i64 v)) (.inRegion ops₀ rest₀ :: k₀)) cl) w2) :
  HGn Try.prog j F E w 200 (G ((base 69).at ((⟨T',[]⟩:Act).put ((ops[i']?).bind (·.dst)) (.tuple #[])) (.inRegion ops [] :: [.code (.seq wswap2 .ret)])) (b₀.at a₀ (.inRegion ops₀ (i₀ :: rest₀) :: k₀) :: cl)):=by
 rw [hd]
 refine Idl.step (idl_hg Try.prog j F E w) _ _ _ rfl (fun _=>stepG_region_end) ?_
 refine Idl.step (idl_hg Try.prog j F E w) _ _ _ rfl (fun _=>stepG_seq) ?_
 refine HG.quietS (fun c=>c=b) (fun c e=>by rw [e]; exact hH) closed_atom (Q:=fun a' x x'=>a'.tmps.size=14∧a'.tmps[6]?=some (.int .i64 v)∧WSet0 x x' ⟨b,o,none⟩ n) (by kernel_rfl) (by rfl) rfl (fun x hxs hx=>?_) (fun E1 w' a' x x' hE hd' hxs hx hxs' hx' hK hB hSt hq=>?_)
 ·refine wswap2_wp (v:=v) (by simp [Act.put,hs]) (by simp [Act.put]; exact h0) (by simp [Act.put]; exact h2) (hW.same (hx b hH)) (fun T'' q1 q2=>⟨rfl,rfl,?_,q1,q2,?_⟩)
  ·exact fun c _ hc=>heap_setCell_ne (a:=⟨b,o,none⟩) (fun e=>hc e.symm)
  ·exact WSet0.set (hW.same (hx b hH))
 ·obtain ⟨Ta,df⟩:=a'
  have hdf:df=[]:=hd'
  subst hdf
  obtain ⟨q1,q2,q3⟩:=hq
  change HGn Try.prog j F E1 w' 100 _
  dsimp only at q1 q2
  obtain ⟨f,rfl,fz⟩:=arrfv Ta q1
  have e4:=fz 6 _ q2
  refine Idl.step (idl_hg Try.prog j F E1 w') _ _ _ rfl (fun _=>stepG_ret') ?_
  refine Idl.leaveV (n:=1) (v:=.int .i64 v) (fn:=Try.f69) (idl_hg Try.prog j F E1 w') rfl rfl Try.func69 (fun w=>by simp [results,Try.f69,e4,go_sem]) (fun w=>by simp [results,Try.f69,e4,go_sem]) ?_
  exact hc E1 w' hE hK (q3.up hH (hE.H') hx hx')
end
section
variable {σ Λ:Type} {D:Prot σ Λ} {h rb:Nat} {home:Goroutine→Prop} {k:Int} {th:Th} {F:Machine→Trace→Prop} {E:Env} {w:World} {s:σ} {b₀:Frame} {a₀:Act} {ops₀:Array Oper} {i₀:Nat} {rest₀:List Nat} {k₀:List Item} {cl:List Frame}
theorem wswap_go {m:Nat} {ℓ:Λ} {b o:Nat} {n:Int} (T:TKn h rb home k th E w) (g:GA w rb th false false (D.tal ℓ)) (M:D.M s E w) (O:OffAt th.gb th.box rb b₀ a₀ ops₀ i₀ rest₀ k₀ cl)
  (B:Back D h rb home th F E w s (some ℓ) (.seat th.ct (Srv D rb th (m+1) ℓ)))
  (hgo:∀ (h':Nat) (home':Goroutine→Prop) (k':Int) (F':Machine→Trace→Prop) (E':Env) (w':World) (s':σ),TKn h' rb home' k' th E' w'→D.M s' E' w'→D.fits ℓ s' →
   (∀ s'' o,D.next ℓ k' s' (s'',o)→Back D h' rb home' th F' E' w' s'' o (roleOf (Srv D rb th m) rb th o)) →
   ∃ v,WordAt w' ⟨b,o,none⟩ v∧E'.H b=none∧∀ E2 w2,Kept th.j (some th.gb) E' w' E2 w2→TKn h' rb home' k' th E2 w2→GA w2 rb th false false (IntKind.i64.wrap ((D.tal ℓ).1+1),(D.tal ℓ).2.1,(D.tal ℓ).2.2)→WSet E' w' E2 w2 ⟨b,o,none⟩ n →
    HG Try.prog th.j F' E2 (G (b₀.at (a₀.put ((ops₀[i₀]?).bind (·.dst)) (.int .i64 v)) (.inRegion ops₀ rest₀ :: k₀)) cl) w2) :
  HGn Try.prog th.j F E w 200 (entry 69 Try.f69 #[.pointer (some ⟨b,o,none⟩),.pointer (some ⟨th.gb,0,none⟩),.int .i64 n] (b₀.at a₀ (.inRegion ops₀ (i₀ :: rest₀) :: k₀) :: cl)):=by
 refine wswap_pre (fun T' ops i' rest' k' hs h0 h2 hd hk hr=>?_)
 subst hk hr
 refine body_step (n:=m) (ℓ:=ℓ) T g M (OffAt.up O Try.func69 rfl) B (fun h' home' k' F' E' w' s' T1 g1 M1 f1 B1=>?_)
 obtain ⟨v,hW,hH,hgo'⟩:=hgo h' home' k' F' E' w' s' T1 M1 f1 B1
 refine wswap_post (v:=v) hs h0 h2 hd hW hH (fun E2 w2 hE hK hWS=>?_)
 exact hgo' E2 w2 hK.weaken (T1.kept hK.weaken T1.gct) (GA.kept hK g1 T1.gH T1.gW) hWS
end
section
variable {j:Nat} {F:Machine→Trace→Prop} {E:Env} {w:World} {b₀:Frame} {a₀:Act} {ops₀:Array Oper} {i₀:Nat} {rest₀:List Nat} {k₀:List Item} {cl:List Frame}
theorem wswap_nil {b o:Nat} {v n:Int} (hW:WordAt w ⟨b,o,none⟩ v) (hH:E.H b=none)
  (hc:∀ E2 w2,E.Eq j E2→Kept j none E w E2 w2→WSet E w E2 w2 ⟨b,o,none⟩ n→HG Try.prog j F E2 (G (b₀.at (a₀.put ((ops₀[i₀]?).bind (·.dst)) (.int .i64 v)) (.inRegion ops₀ rest₀ :: k₀)) cl) w2) :
  HGn Try.prog j F E w 200 (entry 69 Try.f69 #[.pointer (some ⟨b,o,none⟩),.pointer none,.int .i64 n] (b₀.at a₀ (.inRegion ops₀ (i₀ :: rest₀) :: k₀) :: cl)):=by
 refine wswap_pre (fun T' ops i' rest' k' hs h0 h2 hd hk hr=>?_)
 subst hk hr
 refine step_nil ?_
 exact wswap_post (v:=v) hs h0 h2 hd hW hH hc
end
end Go.Proofs.Ytimlbbleblijnaa.Co

namespace Go.Proofs.Ytimlbbleblijnaa.Co
open Go Go.Conc Go.RowKit
def doW (v k n:Int):Int × Int:=if k=1 then (v,v) else if k=2 then (n,0) else if k=3 then (IntKind.i64.wrap (v+n),v) else (n,v)
theorem do_any {x:World} {v k n:Int}:Calls Try.prog 49 #[.int .i64 v,.int .i64 k,.int .i64 n] x fun e x'=>e=.returned (.tuple #[.int .i64 (doW v k n).1,.int .i64 (doW v k n).2])∧x'=x:=by
 unfold doW
 by_cases h1:k=1
 ·subst h1
  go_enter Try.func49,Try.ntmps49
  go_wp2
  refine bodyPost_ret (results_tmp2 rfl _ _ _) rfl ⟨?_,rfl⟩
  rfl
 ·have b1:(k == 1)=false:=beq_eq_false_iff_ne.2 h1
  rw [if_neg h1]
  by_cases h2:k=2
  ·subst h2
   go_enter Try.func49,Try.ntmps49
   go_wp2
   refine bodyPost_ret (results_tmp2 rfl _ _ _) rfl ⟨?_,rfl⟩
   rfl
  ·have b2:(k == 2)=false:=beq_eq_false_iff_ne.2 h2
   rw [if_neg h2]
   by_cases h3:k=3
   ·subst h3
    go_enter Try.func49,Try.ntmps49
    go_wp2
    refine bodyPost_ret (results_tmp2 rfl _ _ _) rfl ⟨?_,rfl⟩
    simp only [w64]
    rfl
   ·have b3:(k == 3)=false:=beq_eq_false_iff_ne.2 h3
    rw [if_neg h3]
    go_enter Try.func49,Try.ntmps49
    go_wp2
    refine bodyPost_ret (results_tmp2 rfl _ _ _) rfl ⟨?_,rfl⟩
    rfl
def isC (k:Int):Bool:=decide (1≤k) && decide (k≤4)
structure Still (j:Nat) (E:Env) (w:World) (E1:Env) (w1:World):Prop where
 kept:Kept j none E w E1 w1
 H:E1.H=E.H
 st:Stands E w E1 w1
theorem Still.refl (j:Nat) (E:Env) (w:World):Still j E w E w:=⟨.refl _ _ _ _,rfl,fun _ _ h1 h2=>⟨h1,h2⟩⟩
theorem Still.trans {j:Nat} {E E1 E2:Env} {w w1 w2:World} (a:Still j E w E1 w1) (b:Still j E1 w1 E2 w2):Still j E w E2 w2:=⟨a.kept.trans b.kept,b.H.trans a.H,a.st.trans b.st⟩
theorem Still.word {j:Nat} {E E1:Env} {w w1:World} {b o:Nat} {v:Int} (s:Still j E w E1 w1) (hW:WordAt w ⟨b,o,none⟩ v) (hH:E.H b=none):WordAt w1 ⟨b,o,none⟩ v∧E1.H b=none:=by
 obtain ⟨h0,c,t,h1,h2⟩:=hW
 obtain ⟨s1,s2⟩:=s.st b _ hH h1
 exact ⟨⟨h0,c,t,s2,h2⟩,s1⟩
section
variable {P:Program} {h:Nat} {F:Machine→Trace→Prop} {E:Env} {w:World} {Fs:FuncId→Bool}
theorem HG.quietN (hC:Closed P Fs) {fr:Frame} {T:Array Value} {k:List Item} {cs:List Frame} {c:Code} (R:Array Value→Prop) (hq:quietCode P Fs c=true) (hk:fr.kind=.normal)
  (hwp:∀ x:World,(∀ b,E.H b=none→x.heap[b]?=w.heap[b]?)→c.wp P (fun e a' x'=>e=.normal∧a'.defers=[]∧(∀ b,b < x.heap.size→x'.heap[b]?=x.heap[b]?)∧R a'.tmps) ⟨T,[]⟩ x)
  (hg:∀ (E1:Env) (w1:World) (T':Array Value),Still h E w E1 w1→R T'→HG P h F E1 (G (fr.at ⟨T',[]⟩ k) cs) w1):HG P h F E (G (fr.at ⟨T,[]⟩ (.code c :: k)) cs) w:=by
 refine HG.quietS (fun _=>False) (fun _ z=>z.elim) hC (Q:=fun a' _ _=>R a'.tmps) hq hk rfl (fun x hxs hx=>?_) (fun E1 w' a' x x' hE hd hxs hx hxs' hx' hK hB hSt hq=>?_)
 ·exact Code.wp_mono (fun e a' x' ⟨q1,q2,q3,q4⟩=>⟨q1,q2,fun b hb _=>q3 b hb,q4⟩) (hwp x hx)
 ·obtain ⟨Ta,df⟩:=a'
  have hdf:df=[]:=hd
  subst hdf
  refine hg E1 w' Ta ⟨hK,hE.H',fun b o h1 h2=>⟨by rw [hE.H']; exact h1,?_⟩⟩ hq
  have hl:=(Array.getElem?_eq_some_iff.1 h2).1
  rw [hx' b h1,hSt b (by omega) id,hx b h1]
  exact h2
theorem HG.withV {g:Goroutine} (hg:(∀ i a,E.H a.block=none→E.St i a=none)→HG P h F E g w):HG P h F E g w :=
 HG.open fun E1 w1 hA ⟨gs,T,q,C,_⟩=>(hg (fun i a hH=>by
  cases e:E.St i a with
  | none=>rfl
  | some v =>
    have hs:(E1.St i a).isSome=true:=by rw [hA.1.St',e]; rfl
    obtain ⟨n,n1,n2⟩:=C.hidS i a hs
    rw [hA.1.H',hH] at n1
    cases n1)).at hA
end
end Go.Proofs.Ytimlbbleblijnaa.Co
