/- Lemmas for the laws of this seat, laid together of PGam, PGan, PGao, PGap, PGaq. -/
import Derived.Test.YtimlbbleblijnaaW10

open Go.ConcR.Gen (base_kind baseD_kind)
set_option linter.unusedVariables false
set_option linter.unusedSimpArgs false
set_option maxRecDepth 100000
set_option maxHeartbeats 4000000
namespace Go.Proofs.Ytimlbbleblijnaa.Co
open Go Go.Conc
open Go.ConcN (sumTo upd sumTo_upd upd_ne upd_same sumTo_congr le_sumTo)
section
variable {P:Program} {main:Bool} {A:Nat→Goroutine→Prop} {n:Nat} {b:Frame} {a:Act} {k:List Item} {cs:List Frame} {ops:Array Oper} {i:Nat} {rest:List Nat} {o:Oper} {f:FuncId} {fn:Func}
theorem Idl.unwindClo (I:Idl P main A) {todo:List Item} {ds:List Deferred} {args caps vs:Array Value} {md:FrameMode} (hmd:md≠.run) (hd:a.defers={ target:=.fn (.func f) caps,args:=args } :: ds) (hf:P.funcs[f]?=some fn) (hname:(fn.name == "runtime.NumGoroutine")=false) (hb:fn.body.isSome=true) (hv:args ++ caps=vs)
    (hg:A n (entryD f fn vs ({ b.at ⟨a.tmps,ds⟩ todo with mode:=md } :: cs))):A (n+1) (G { b.at a todo with mode:=md } cs):=by
  subst hv
  cases hb':fn.body with
  | none=>rw [hb'] at hb; cases hb
  | some c =>
    refine I.step _ _ _ rfl (fun w=>stepG_unwind_clo hmd hd hf hname hb') ?_
    unfold entryD at hg
    rw [hb'] at hg
    exact hg
theorem Idl.callClo (I:Idl P main A) {x:Operand} {as':Array Operand} {caps vs:Array Value} {ats:Array TypeId} (ho:ops[i]?=some o) (hw:Region.wanted o (yielded ops a.tmps)=true) (hk:b.kind≠.early) (hop:o.op=.call { callee:=.value x,args:=as',argTypes:=ats }) (hx:a.eval x=.func (.func f) #[] caps)
    (hf:P.funcs[f]?=some fn) (hname:(fn.name == "runtime.NumGoroutine")=false) (hb:fn.body.isSome=true) (hv:as'.map a.eval ++ caps=vs)
    (hg:A n (entry f fn vs (b.at a (.inRegion ops (i :: rest) :: k) :: cs))):A (n+1) (G (b.at a (.inRegion ops (i :: rest) :: k)) cs):=by
  subst hv
  cases hb':fn.body with
  | none=>rw [hb'] at hb; cases hb
  | some c =>
    refine I.step _ _ _ rfl (fun w=>stepG_call_clo ho hw hk hop hx hf hname hb') ?_
    unfold entry at hg
    rw [hb'] at hg
    exact hg
end
section
variable {P:Program} {h:Nat} {F:Machine→Trace→Prop} {E:Env} {w:World} {g:Goroutine}
theorem HG.hide {H':Nat→Option Nat} {S':Addr→Option Value} (hH:∀ b n,E.H b=some n→H' b=some n)
    (h2:∀ b n,H' b=some n→E.H b=some n∨(E.W b=false∧((∃ c e f,w.heap[b]?=some (.cells c e f))∨∃ c bf l s r m,w.heap[b]?=some (.chan c bf l s r m)))) (hS:∀ a v,E.St h a=some v→S' a=some v)
    (hS2:∀ a v,S' a=some v→E.St h a=some v∨(w.cell? a=some v∧E.W a.block=false∧∃ n,H' a.block=some n∧n≤a.off)) (hg:HG P h F { E with H:=H',St:=upd E.St h S' } g w):HG P h F E g w:=by
  intro E' w' gs T q sl ⟨hE,hA⟩ C ha
  have hC:=C.grow (H':=H') (S':=S') (by rw [hE.H']; exact hH) (by
    rw [hE.W']
    refine fit_grow (H:=E.H) (by have:=C.fit; rw [hE.H',hE.W'] at this; exact this) hH (fun b n e=>?_)
    rcases h2 b n e with z | ⟨z1,z2⟩
    · exact .inl z
    · rw [hA.heap b z1]; exact .inr z2) (by rw [hE.St']; exact hS) (fun a v e=>by
    rcases hS2 a v e with z | ⟨z1,z2,z3⟩
    · have z':E'.St h a=some v:=by rw [hE.St']; exact z
      obtain ⟨n,n1,n2⟩:=C.hidS h a (by rw [z']; rfl)
      exact ⟨C.keep h a v z',C.dis h a (by rw [z']; rfl),n,hH _ _ (by rw [← hE.H']; exact n1),n2⟩
    · refine ⟨?_,by rw [hE.W']; exact z2,z3⟩
      unfold World.cell?
      rw [hA.heap _ z2]
      exact z1)
  refine hg _ w' gs T q sl ⟨?_,hA⟩ hC ha
  have e1:upd E'.St h S'=upd E.St h S':=by rw [hE.St']
  exact ⟨⟨hE.seat,hE.gone,hE.roleH,fun x a v e=>(by rw [show (upd E'.St h S')=upd E.St h S' from e1]; exact e),hE.W,fun _ _ e=>e,hE.wg,hE.wgH,hE.wgS,hE.ex,hE.mode,hE.modeUp,hE.io⟩,hE.W',e1,rfl⟩
end
structure LiveRet (gb box rb:Nat) (b₀:Frame) (a₀:Act) (ops₀:Array Oper) (i₀:Nat) (rest₀:List Nat) (k₀:List Item) (cl:List Frame):Prop where
  ret:∀ {j hr ct cs:Nat} {en fr:Bool} {s p q:Int} {ty:TypeId} {E:Env} {w:World} {F:Machine→Trace→Prop} {home:Goroutine→Prop},w.heap[gb]?=some (gateObj rb ct cs en fr s p q ty)→E.W gb=false→w.cell? ⟨box,0,none⟩=some (.pointer (some ⟨gb,0,none⟩))→E.W box=false→E.role hr=.seat cs home→hr≠j→0 < j→E.wg j=some rb →
    (∀ E1 w1 k g₂,AtE j E w E1 w1→w1.heap[cs]?=some (.chan 0 #[] false k k false)→home g₂→HG Try.prog hr F (E1.setRole j (.ender rb)) (Go.Conc.served g₂ (.bool false)) (w1.setChan cs 0 #[] false (k+1) (k+1) false)) →
    HG Try.prog j F E (G (b₀.at (a₀.put ((ops₀[i₀]?).bind (·.dst)) (.tuple #[])) (.inRegion ops₀ rest₀ :: k₀)) cl) w
  off:∀ {j hr ct cs:Nat} {en fr:Bool} {s p q:Int} {ty:TypeId} {E:Env} {w:World} {F:Machine→Trace→Prop} {home:Goroutine→Prop},w.heap[gb]?=some (gateObj rb ct cs en fr s p q ty)→E.W gb=false→w.cell? ⟨box,0,none⟩=some (.pointer (some ⟨gb,0,none⟩))→E.W box=false→E.role hr=.seat cs home→hr≠j→0 < j→E.wg j=some rb →
    E.role j=.gone→E.W w.heap.size=false →
    (∀ E1 w1 k g₂,AtE j E (w.alloc (.cells #[] 111)) E1 w1→w1.heap[cs]?=some (.chan 0 #[] false k k false)→home g₂→HG Try.prog hr F (E1.setRole j (.ender rb)) (Go.Conc.served g₂ (.bool false)) (w1.setChan cs 0 #[] false (k+1) (k+1) false)) →
    HG Try.prog j F E (G { b₀.at a₀ (.inRegion ops₀ (i₀ :: rest₀) :: k₀) with mode:=.panicking [{ v:=letGoV,recovered:=false }] } cl) w
section
variable {j hr gb rb ct cs fb:Nat} {fn:Func} {caps:Array Value} {en fr:Bool} {s p q:Int} {ty:TypeId} {E:Env} {w:World} {F:Machine→Trace→Prop}
theorem live_start (hG:w.heap[gb]?=some (gateObj rb ct cs en fr s p q ty)) (hW:E.W gb=false) (hrole:E.role j=.gone) (hWn:E.W w.heap.size=false) (hf:Try.prog.funcs[fb]?=some fn) (hname:(fn.name == "runtime.NumGoroutine")=false) (hb:fn.body.isSome=true)
    (hbody:∀ {b₀:Frame} {a₀:Act} {ops₀:Array Oper} {i₀:Nat} {rest₀:List Nat} {k₀:List Item} {cl:List Frame},LiveRet gb w.heap.size rb b₀ a₀ ops₀ i₀ rest₀ k₀ cl→HG Try.prog j F E (entry fb fn (#[.pointer (some ⟨gb,0,none⟩)] ++ caps) (b₀.at a₀ (.inRegion ops₀ (i₀ :: rest₀) :: k₀) :: cl)) (w.alloc (.cells #[.pointer (some ⟨gb,0,none⟩)] 49))) :
    HGn Try.prog j F E w 100 (born Try.prog (dcall 73 #[.pointer (some ⟨gb,0,none⟩),.func (.func fb) #[] caps])):=by
  refine Idl.step (n:=99) (idl_hg Try.prog j F E w) _ _ rfl (fun w=>stepG_born Try.func73 (by kernel_rfl) (by rfl)) ?_
  simp only [entryD,Try.f73,Option.getD_some]
  walk_nrm
  refine Idl.q (idl_hg Try.prog j F E w) (Idl.rg (idl_hg Try.prog j F E w) [0] rfl ?_)
  refine HGn.mk (c:=#[.pointer (some ⟨gb,0,none⟩)]) (t:=49) hrole hWn rfl rfl (by exact Go.ConcR.Gen.baseD_kind _) (fun w₁=>⟨by kernel_rfl,by kernel_rfl⟩) ?_
  walk_nrm
  have hG':(w.alloc (.cells #[.pointer (some ⟨gb,0,none⟩)] 49)).heap[gb]?=some (gateObj rb ct cs en fr s p q ty):=by rw [alloc_old (Array.getElem?_eq_some_iff.1 hG).1]; exact hG
  have hbox':(w.alloc (.cells #[.pointer (some ⟨gb,0,none⟩)] 49)).cell? ⟨w.heap.size,0,none⟩=some (.pointer (some ⟨gb,0,none⟩)):=obj_cell alloc_new rfl
  generalize w.alloc (.cells #[.pointer (some ⟨gb,0,none⟩)] 49)=w' at hG' hbox' hbody ⊢
  generalize w.heap.size=box at *
  refine Idl.re (idl_hg Try.prog j F E w') (Idl.q (idl_hg Try.prog j F E w') (Idl.rg (idl_hg Try.prog j F E w') [0,1,2,3,4,5,6] rfl ?_))
  refine HGn.ld hbox' (fun z=>by rw [hWn] at z; cases z) rfl rfl (by first | decide | exact base_kind _ | exact baseD_kind _ | assumption) (fun w₁ hc₁=>⟨by go_simp,fun e he=>by (have he':=he; simp [go_sem,hc₁] at he'; exact he')⟩) ?_
  walk_nrm
  iterate 2 (apply Idl.value (idl_hg Try.prog j F E w') rfl rfl (by first | decide | exact base_kind _ | exact baseD_kind _ | assumption); (focus (intro w; go_simp; (try w_num); first | done | rfl)); (focus (intro w; simp [go_sem, *])); walk_nrm)
  refine HGn.ld (obj_cell hG' (o:=0) rfl) (fun z=>by rw [hW] at z; cases z) rfl rfl (by first | decide | exact base_kind _ | exact baseD_kind _ | assumption) (fun w₁ hc₁=>⟨by go_simp,fun e he=>by (have he':=he; simp [go_sem,hc₁] at he'; exact he')⟩) ?_
  walk_nrm
  iterate 2 (apply Idl.value (idl_hg Try.prog j F E w') rfl rfl (by first | decide | exact base_kind _ | exact baseD_kind _ | assumption); (focus (intro w; go_simp; (try w_num); first | done | rfl)); (focus (intro w; simp [go_sem, *])); walk_nrm)
  refine Idl.step (idl_hg Try.prog j F E w') _ _ _ rfl (fun _=>(stepG_defer rfl rfl (by exact Go.ConcR.Gen.baseD_kind _) rfl)) ?_
  walk_nrm
  refine Idl.re (idl_hg Try.prog j F E w') (Idl.q (idl_hg Try.prog j F E w') (Idl.rg (idl_hg Try.prog j F E w') [0,1] rfl ?_))
  apply Idl.value (idl_hg Try.prog j F E w') rfl rfl (by first | decide | exact base_kind _ | exact baseD_kind _ | assumption)
  focus (intro w; go_simp; (try w_num); first | done | rfl)
  focus (intro w; simp [go_sem, *])
  walk_nrm
  refine Idl.step (idl_hg Try.prog j F E w') _ _ _ rfl (fun _=>(stepG_defer_clo rfl rfl (by exact Go.ConcR.Gen.baseD_kind _) rfl rfl)) ?_
  walk_nrm
  refine Idl.re (idl_hg Try.prog j F E w') (Idl.q (idl_hg Try.prog j F E w') (Idl.rg (idl_hg Try.prog j F E w') [0,1] rfl ?_))
  apply Idl.value (idl_hg Try.prog j F E w') rfl rfl (by first | decide | exact base_kind _ | exact baseD_kind _ | assumption)
  focus (intro w; go_simp; (try w_num); first | done | rfl)
  focus (intro w; simp [go_sem, *])
  walk_nrm
  refine Idl.value (v:=.bool true) (idl_hg Try.prog j F E w') rfl rfl (by exact Go.ConcR.Gen.baseD_kind _) (fun w=>by kernel_rfl) (fun w=>by kernel_rfl) ?_
  walk_nrm
  refine Idl.re (idl_hg Try.prog j F E w') (Idl.ct (idl_hg Try.prog j F E w') rfl (Idl.rg (idl_hg Try.prog j F E w') [0,1,2] rfl ?_))
  apply Idl.value (idl_hg Try.prog j F E w') rfl rfl (by first | decide | exact base_kind _ | exact baseD_kind _ | assumption)
  focus (intro w; go_simp; (try w_num); first | done | rfl)
  focus (intro w; simp [go_sem, *])
  walk_nrm
  refine HGn.ld hbox' (fun z=>by rw [hWn] at z; cases z) rfl rfl (by first | decide | exact base_kind _ | exact baseD_kind _ | assumption) (fun w₁ hc₁=>⟨by go_simp,fun e he=>by (have he':=he; simp [go_sem,hc₁] at he'; exact he')⟩) ?_
  walk_nrm
  refine Idl.callClo (fn:=fn) (vs:=#[.pointer (some ⟨gb,0,none⟩)] ++ caps) (idl_hg Try.prog j F E w') rfl rfl (by exact Go.ConcR.Gen.baseD_kind _) rfl rfl hf hname hb (by simp [Act.eval]) ?_
  refine hbody ⟨?_,?_⟩
  · intro j hr ct cs en fr s p q ty E w F home hG hW hbox hWb hrun hne h0 hwg hnext
    walk_nrm
    change HGn Try.prog j F E w 120 _
    refine Idl.re (idl_hg Try.prog j F E w) (Idl.en (idl_hg Try.prog j F E w) ?_)
    refine Idl.unwindClo (fn:=Try.f118) (vs:=#[.pointer (some ⟨box,0,none⟩)]) (idl_hg Try.prog j F E w) (by simp) rfl Try.func118 (by kernel_rfl) (by rfl) (by simp) ?_
    exact live1_ret hG hW hbox hWb hrun hne h0 hwg hnext
  · intro j hr ct cs en fr s p q ty E w F home hG hW hbox hWb hrun hne h0 hwg hrole hWn hnext
    change HGn Try.prog j F E w (119+1) _
    refine Idl.unwindClo (fn:=Try.f118) (vs:=#[.pointer (some ⟨box,0,none⟩)]) (idl_hg Try.prog j F E w) (by simp) rfl Try.func118 (by kernel_rfl) (by rfl) (by simp) ?_
    exact live1_off hG hW hbox hWb hrole hWn hrun hne h0 hwg hnext
end
structure Th where
  j:Nat
  gb:Nat
  ct:Nat
  cs:Nat
  box:Nat
structure Kept (j:Nat) (gb:Option Nat) (E:Env) (w:World) (E1:Env) (w1:World):Prop where
  le:E.Le j E1
  size:w.heap.size≤w1.heap.size
  heap:∀ b n,E.H b=some n→E.W b=false→gb≠some b→b < w.heap.size→w1.heap[b]?=w.heap[b]?
  heapW:∀ b,E.W b=true→∀ x st sm e,w.heap[b]?=some (runObj x st sm e)→∃ st' sm',w1.heap[b]?=some (runObj x st' sm' e)
  StN:∀ i a,E1.St i a≠none→E.St i a≠none∨w.heap.size≤a.block
  WN:∀ b,E1.W b=true→E.W b=true∨w.heap.size≤b
theorem Kept.refl (j:Nat) (gb:Option Nat) (E:Env) (w:World):Kept j gb E w E w:=⟨.refl j E,Nat.le_refl _,fun _ _ _ _ _ _=>rfl,fun _ _ x st sm e h=>⟨st,sm,h⟩,fun _ _ h=>.inl h,fun _ h=>.inl h⟩
theorem Kept.trans {j:Nat} {gb:Option Nat} {E E1 E2:Env} {w w1 w2:World} (a:Kept j gb E w E1 w1) (b:Kept j gb E1 w1 E2 w2):Kept j gb E w E2 w2:=by
  refine ⟨a.le.trans b.le,Nat.le_trans a.size b.size,fun c n hc hw hg hl=>?_,fun c hc x st sm e h=>?_,fun i ad h=>?_,fun c h=>?_⟩
  · have hw1:E1.W c=false:=by
      cases e:E1.W c with
      | false=>rfl
      | true =>
        rcases a.WN c e with z | z
        · rw [hw] at z; cases z
        · omega
    rw [b.heap c n (a.le.H c n hc) hw1 hg (Nat.lt_of_lt_of_le hl a.size),a.heap c n hc hw hg hl]
  · obtain ⟨st',sm',h1⟩:=a.heapW c hc x st sm e h
    exact b.heapW c (a.le.W c hc) x st' sm' e h1
  · rcases b.StN i ad h with z | z
    · exact a.StN i ad z
    · exact .inr (Nat.le_trans a.size z)
  · rcases b.WN c h with z | z
    · exact a.WN c z
    · exact .inr (Nat.le_trans a.size z)
theorem Kept.of_at {j:Nat} {gb:Option Nat} {E E1:Env} {w w1:World} (a:AtE j E w E1 w1):Kept j gb E w E1 w1 :=
  ⟨a.1.toLe,Nat.le_of_eq a.2.size.symm,fun b n _ hw _ _=>a.2.heap b hw,fun b hb x st sm e h=>a.2.run b hb x st sm e h,fun i ad h=>.inl (by rw [← a.1.St']; exact h),fun b h=>.inl (by rw [← a.1.W']; exact h)⟩
theorem Kept.weaken {j:Nat} {gb:Option Nat} {E E1:Env} {w w1:World} (a:Kept j none E w E1 w1):Kept j gb E w E1 w1 :=
  ⟨a.le,a.size,fun b n hb hw _ hl=>a.heap b n hb hw (by simp) hl,a.heapW,a.StN,a.WN⟩
theorem Kept.W_false {j:Nat} {gb:Option Nat} {E E1:Env} {w w1:World} (a:Kept j gb E w E1 w1) {b:Nat} (hl:b < w.heap.size) (h:E.W b=false):E1.W b=false:=by
  cases e:E1.W b with
  | false=>rfl
  | true =>
    rcases a.WN b e with z | z
    · rw [h] at z; cases z
    · omega
structure Prot (σ Λ:Type) where
  M:σ→Env→World→Prop
  next:Λ→Int→σ→σ × Option Λ→Prop
  fits:Λ→σ→Prop
  who:Λ→Nat
  init:Nat→σ→Prop
  mono:∀ l k s s' o l2,fits l s→fits l2 s→who l2≠who l→next l k s (s',o)→fits l2 s'
  fresh:∀ l k s s' l',fits l s→next l k s (s',some l')→fits l' s'∧who l'=who l
  tal:Λ→Int × Int × Int
  closed:∀ s E w E' w',M s E w→(∀ b,b < w.heap.size→E.H b=none→E'.H b=none∧w'.heap[b]?=w.heap[b]?)→M s E' w'
  lax:Prop:=False
def GA (w:World) (rb:Nat) (th:Th) (en fr:Bool) (tl:Int × Int × Int):Prop:=w.heap[th.gb]?=some (gateObj rb th.ct th.cs en fr tl.1 tl.2.1 tl.2.2 108)
structure TKn (h rb:Nat) (home:Goroutine→Prop) (k:Int) (th:Th) (E:Env) (w:World):Prop where
  run:E.role h=.seat th.cs home
  hj:h≠th.j
  j0:0 < th.j
  role:E.role th.j=.gone
  wg:E.wg th.j=some rb
  gW:E.W th.gb=false
  gH:E.H th.gb=some 1
  ctH:E.H th.ct=some 0
  ctW:E.W th.ct=false
  ctC:∃ k',w.heap[th.ct]?=some (.chan 0 #[] false k' k' false)
  stT:E.St th.j ⟨th.gb,1,none⟩=some (.chan (some th.ct))
  stB:E.St th.j ⟨th.box,0,none⟩=some (.pointer (some ⟨th.gb,0,none⟩))
  bW:E.W th.box=false
  bL:th.box < w.heap.size
  gL:th.gb < w.heap.size
  noSt:∀ i o,3≤o→E.St i ⟨th.gb,o,none⟩=none
  noT:∀ x home,x≠th.j→E.role x≠.seat th.ct home
  rW:E.W rb=true
  rL:Live rb w
  pick:w.cell? ⟨rb,0,none⟩=some (.int .i64 k)
  mode:∀ b,E.mode b=0
theorem live_kept {j:Nat} {gb:Option Nat} {E E1:Env} {w w1:World} (a:Kept j gb E w E1 w1) {rb:Nat} (hW:E.W rb=true) (h:Live rb w):Live rb w1:=by
  obtain ⟨st,sm,x,e,hx⟩:=h
  obtain ⟨st',sm',h1⟩:=a.heapW rb hW x st sm e hx
  exact ⟨st',sm',x,e,h1⟩
theorem pick_kept {j:Nat} {gb:Option Nat} {E E1:Env} {w w1:World} (a:Kept j gb E w E1 w1) {rb:Nat} {v:Value} (hW:E.W rb=true) (h:Live rb w) (hc:w.cell? ⟨rb,0,none⟩=some v):w1.cell? ⟨rb,0,none⟩=some v:=by
  obtain ⟨st,sm,x,e,hx⟩:=h
  obtain ⟨st',sm',h1⟩:=a.heapW rb hW x st sm e hx
  unfold World.cell? at hc ⊢
  rw [hx] at hc
  rw [h1]
  exact hc
theorem TKn.kept {h rb:Nat} {home:Goroutine→Prop} {k:Int} {th:Th} {E E1:Env} {w w1:World} (t:TKn h rb home k th E w) (a:Kept th.j (some th.gb) E w E1 w1) (hg:th.gb≠th.ct):TKn h rb home k th E1 w1:=by
  obtain ⟨k',hk'⟩:=t.ctC
  have hl:=(Array.getElem?_eq_some_iff.1 hk').1
  exact ⟨(a.le.seat _ _ _).1 t.run,t.hj,t.j0,a.le.roleH.trans t.role,by rw [a.le.wgH]; exact t.wg,a.W_false t.gL t.gW,a.le.H _ _ t.gH,a.le.H _ _ t.ctH,a.W_false hl t.ctW,
    ⟨k',by rw [a.heap _ 0 t.ctH t.ctW (fun e=>hg (Option.some.inj e)) hl]; exact hk'⟩,a.le.St _ _ _ t.stT,a.le.St _ _ _ t.stB,a.W_false t.bL t.bW,Nat.lt_of_lt_of_le t.bL a.size,Nat.lt_of_lt_of_le t.gL a.size,
    fun i o ho=>by
      cases e:E1.St i ⟨th.gb,o,none⟩ with
      | none=>rfl
      | some v =>
        rcases a.StN i _ (by rw [e]; simp) with z | z
        · exact absurd (t.noSt i o ho) z
        · have z':w.heap.size≤th.gb:=z
          have:=t.gL
          omega,
    fun x home' hx e=>t.noT x home' hx ((a.le.seat _ _ _).2 e),a.le.W _ t.rW,live_kept a t.rW t.rL,pick_kept a t.rW t.rL t.pick,fun b=>a.le.mode b (t.mode b)⟩
variable {σ Λ:Type}
def GAo (D:Prot σ Λ) (w:World) (rb:Nat) (th:Th):Option Λ→Prop
  | some ℓ=>GA w rb th false false (D.tal ℓ)
  | none=>∃ fr tl,GA w rb th false fr tl
def Back (D:Prot σ Λ) (h rb:Nat) (home:Goroutine→Prop) (th:Th) (F:Machine→Trace→Prop) (E:Env) (w:World) (s:σ) (o:Option Λ) (r:Role):Prop :=
  ∀ E1 w1 kk g₂,Kept th.j (some th.gb) E w E1 w1→D.M s E1 w1→GAo D w1 rb th o→w1.heap[th.cs]?=some (.chan 0 #[] false kk kk false)→home g₂→HG Try.prog h F (E1.setRole th.j r) (Go.Conc.served g₂ (.bool o.isSome)) (w1.setChan th.cs 0 #[] false (kk+1) (kk+1) false)
def roleOf (S:Λ→Goroutine→Prop) (rb:Nat) (th:Th):Option Λ→Role
  | some ℓ=>.seat th.ct (S ℓ)
  | none=>.ender rb
def Srv (D:Prot σ Λ) (rb:Nat) (th:Th):Nat→Λ→Goroutine→Prop
  | 0,_,_=>D.lax
  | n+1,ℓ,g₂=>∀ (h:Nat) (home:Goroutine→Prop) (k:Int) (F:Machine→Trace→Prop) (E:Env) (w:World) (s:σ),TKn h rb home k th E w→GA w rb th false false (D.tal ℓ)→D.M s E w→D.fits ℓ s →
      ((∀ s' o,D.next ℓ k s (s',o)→Back D h rb home th F E w s' o (roleOf (Srv D rb th n) rb th o))→HG Try.prog th.j F E (Go.Conc.served g₂ (.bool true)) w) ∧
      (Back D h rb home th F E w s none (.ender rb)→HG Try.prog th.j F E (Go.Conc.served g₂ (.bool false)) w)
def Born (D:Prot σ Λ) (t n:Nat) (start:σ→σ × Option Λ→Prop) (fb:FuncId) (fn:Func) (caps:Array Value):Prop :=
  ∀ (h rb:Nat) (home:Goroutine→Prop) (th:Th) (F:Machine→Trace→Prop) (E:Env) (w:World) (s:σ) (b₀:Frame) (a₀:Act) (ops₀:Array Oper) (i₀:Nat) (rest₀:List Nat) (k₀:List Item) (cl:List Frame),
    TKn h rb home 0 th E w→GA w rb th false false (0,0,0)→D.M s E w→D.init t s→LiveRet th.gb th.box rb b₀ a₀ ops₀ i₀ rest₀ k₀ cl →
    (∀ s' o,start s (s',o)→Back D h rb home th F E w s' o (roleOf (Srv D rb th n) rb th o))→HG Try.prog th.j F E (entry fb fn (#[.pointer (some ⟨th.gb,0,none⟩)] ++ caps) (b₀.at a₀ (.inRegion ops₀ (i₀ :: rest₀) :: k₀) :: cl)) w
theorem GA.kept {j:Nat} {E E1:Env} {w w1:World} {rb:Nat} {th:Th} {en fr:Bool} {tl:Int × Int × Int} (a:Kept j none E w E1 w1) (g:GA w rb th en fr tl) (hH:E.H th.gb=some 1) (hW:E.W th.gb=false):GA w1 rb th en fr tl:=by
  unfold GA at g ⊢
  rw [a.heap _ 1 hH hW (by simp) (Array.getElem?_eq_some_iff.1 g).1]; exact g
end Go.Proofs.Ytimlbbleblijnaa.Co

namespace Go.Proofs.Ytimlbbleblijnaa.Co
open Go Go.Conc
open Go.ConcN (sumTo upd sumTo_upd upd_ne upd_same sumTo_congr le_sumTo)
structure Mv (h rb:Nat) (th:Th) (E:Env) (w:World) (E':Env) (w':World):Prop where
  seat:∀ x c home,x≠th.j→x≠h→(E.role x=.seat c home ↔ E'.role x=.seat c home)
  gone:∀ x,x≠th.j→x≠h→E.role x=.gone→E'.role x=.gone
  St:∀ x a v,E.St x a=some v→E'.St x a=some v
  StN:∀ i a,E'.St i a≠none→E.St i a≠none∨(a.block=th.gb∧a.off < 3)∨w.heap.size≤a.block
  W:∀ b,E.W b=true→E'.W b=true
  WN:∀ b,E'.W b=true→E.W b=true∨w.heap.size≤b
  H:∀ b n,E.H b=some n→E'.H b=some n
  wg:∀ x b,x≠th.j→E'.wg x=some b→E.wg x=some b
  wgH:E'.wg h=E.wg h
  wgS:∀ x,x≠th.j→x≠h→(E.role x).sits=true→E'.wg x=E.wg x
  wgj:∀ b,E'.wg th.j=some b→E.wg th.j=some b∨b=rb
  ex:∀ b,b≠rb→E'.ex b=E.ex b
  mode:∀ b,E.mode b=0→E'.mode b=0
  size:w.heap.size≤w'.heap.size
  heap:∀ b n,E.H b=some n→E.W b=false→b≠th.gb→b≠th.ct→b≠th.cs→b < w.heap.size→w'.heap[b]?=w.heap[b]?
  heapW:∀ b,E.W b=true→b≠rb→∀ x st sm e,w.heap[b]?=some (runObj x st sm e)→∃ st' sm',w'.heap[b]?=some (runObj x st' sm' e)
  io:E'.io=E.io
section
variable {h rb:Nat} {th:Th} {E E' E'':Env} {w w' w'':World}
theorem Mv.refl (h rb:Nat) (th:Th) (E:Env) (w:World):Mv h rb th E w E w :=
  ⟨fun _ _ _ _ _=>Iff.rfl,fun _ _ _ e=>e,fun _ _ _ e=>e,fun _ _ e=>.inl e,fun _ e=>e,fun _ e=>.inl e,fun _ _ e=>e,fun _ _ _ e=>e,rfl,fun _ _ _ _=>rfl,fun _ e=>.inl e,fun _ _=>rfl,fun _ e=>e,Nat.le_refl _,fun _ _ _ _ _ _ _ _=>rfl,fun _ _ _ x st sm e hx=>⟨st,sm,hx⟩,by first | rfl | exact m.io | exact a.io | exact a.le.io | exact b.io.trans a.io | exact a.1.io⟩
theorem Mv.W_false (a:Mv h rb th E w E' w') {b:Nat} (hl:b < w.heap.size) (hb:E.W b=false):E'.W b=false:=by
  cases e:E'.W b with
  | false=>rfl
  | true =>
    rcases a.WN b e with z | z
    · rw [hb] at z; cases z
    · omega
theorem Mv.sits (a:Mv h rb th E w E' w') {x:Nat} (hj:x≠th.j) (hh:x≠h):(E'.role x).sits=(E.role x).sits:=by
  cases e:E.role x with
  | seat c home=>rw [(a.seat x c home hj hh).1 e]
  | _ =>
    cases e':E'.role x with
    | seat c home=>have:=(a.seat x c home hj hh).2 e'; rw [e] at this; cases this
    | _=>rfl
theorem Mv.trans (a:Mv h rb th E w E' w') (b:Mv h rb th E' w' E'' w''):Mv h rb th E w E'' w'':=by
  refine ⟨fun x c home h1 h2=>(a.seat x c home h1 h2).trans (b.seat x c home h1 h2),fun x h1 h2 e=>b.gone x h1 h2 (a.gone x h1 h2 e),fun x ad v e=>b.St x ad v (a.St x ad v e),fun i ad e=>?_,fun x e=>b.W x (a.W x e),fun c e=>?_,fun x n e=>b.H x n (a.H x n e),fun x c h1 e=>a.wg x c h1 (b.wg x c h1 e),b.wgH.trans a.wgH,
    fun x h1 h2 e=>(b.wgS x h1 h2 (by rw [a.sits h1 h2]; exact e)).trans (a.wgS x h1 h2 e),fun c e=>?_,fun c hc=>(b.ex c hc).trans (a.ex c hc),fun c e=>b.mode c (a.mode c e),Nat.le_trans a.size b.size,fun c n h1 h2 h3 h4 h5 h6=>?_,fun c h1 h2 x st sm e hx=>?_,by first | rfl | exact m.io | exact a.io | exact a.le.io | exact b.io.trans a.io | exact a.1.io⟩
  · rcases b.StN i ad e with z | z | z
    · exact a.StN i ad z
    · exact .inr (.inl z)
    · exact .inr (.inr (Nat.le_trans a.size z))
  · rcases b.WN c e with z | z
    · exact a.WN c z
    · exact .inr (Nat.le_trans a.size z)
  · rcases b.wgj c e with z | z
    · exact a.wgj c z
    · exact .inr z
  · rw [b.heap c n (a.H c n h1) (a.W_false h6 h2) h3 h4 h5 (Nat.lt_of_lt_of_le h6 a.size),a.heap c n h1 h2 h3 h4 h5 h6]
  · obtain ⟨st',sm',h3⟩:=a.heapW c h1 h2 x st sm e hx
    exact b.heapW c (a.W c h1) h2 x st' sm' e h3
theorem Kept.mv {j:Nat} {gb:Option Nat} (a:Kept j gb E w E' w') (hg:gb=some th.gb∨gb=none) (hh:j=h∨(E.role h).sits=true):Mv h rb th E w E' w' :=
  ⟨fun x c home _ _=>a.le.seat x c home,fun x _ _ e=>a.le.gone x e,a.le.St,fun i ad e=>(a.StN i ad e).imp id .inr,a.le.W,a.WN,a.le.H,fun x b _ e=>a.le.wg x b e,by
    rcases hh with rfl | hh
    · exact a.le.wgH
    · exact a.le.wgS h hh,fun x _ _ e=>a.le.wgS x e,fun b e=>.inl (a.le.wg _ b e),fun b _=>congrFun a.le.ex b,a.le.mode,a.size,fun b n h1 h2 h3 _ _ h6=>a.heap b n h1 h2 (by rcases hg with rfl | rfl <;> simp; exact fun e=>h3 e.symm) h6,fun b h1 _ x st sm e hx=>a.heapW b h1 x st sm e hx,by first | rfl | exact m.io | exact a.io | exact a.le.io | exact b.io.trans a.io | exact a.1.io⟩
theorem AtE.mv {j:Nat} (a:AtE j E w E' w') (hh:j=h∨(E.role h).sits=true):Mv h rb th E w E' w':=(Kept.of_at (gb:=none) a).mv (.inr rfl) hh
theorem Mv.role {x:Nat} (r:Role) (hx:x=th.j∨x=h):Mv h rb th E w (E.setRole x r) w:=by
  have key:∀ y,y≠th.j→y≠h→(E.setRole x r).role y=E.role y:=fun y h1 h2=>upd_ne _ _ (by rcases hx with rfl | rfl <;> assumption)
  exact ⟨fun y c home h1 h2=>by rw [key y h1 h2],fun y h1 h2 e=>by rw [key y h1 h2]; exact e,fun _ _ _ e=>e,fun _ _ e=>.inl e,fun _ e=>e,fun _ e=>.inl e,fun _ _ e=>e,fun _ _ _ e=>e,rfl,fun _ _ _ _=>rfl,fun _ e=>.inl e,fun _ _=>rfl,fun _ e=>e,Nat.le_refl _,fun _ _ _ _ _ _ _ _=>rfl,fun _ _ _ x st sm e hx=>⟨st,sm,hx⟩,by first | rfl | exact m.io | exact a.io | exact a.le.io | exact b.io.trans a.io | exact a.1.io⟩
theorem Mv.world (hsz:w'.heap.size=w.heap.size) (hh:∀ b,b≠th.gb→b≠th.ct→b≠th.cs→b≠rb→w'.heap[b]?=w.heap[b]?) (hr:E.W rb=true) (hgW:E.W th.gb=false) (hctW:E.W th.ct=false) (hcsW:E.W th.cs=false):Mv h rb th E w E w' :=
  ⟨fun _ _ _ _ _=>Iff.rfl,fun _ _ _ e=>e,fun _ _ _ e=>e,fun _ _ e=>.inl e,fun _ e=>e,fun _ e=>.inl e,fun _ _ e=>e,fun _ _ _ e=>e,rfl,fun _ _ _ _=>rfl,fun _ e=>.inl e,fun _ _=>rfl,fun _ e=>e,Nat.le_of_eq hsz.symm,fun b n _ h2 h3 h4 h5 _=>hh b h3 h4 h5 (fun e=>by rw [e,hr] at h2; cases h2),fun b h1 h2 x st sm e hx=>⟨st,sm,by
    rw [hh b (fun e=>by rw [e,hgW] at h1; cases h1) (fun e=>by rw [e,hctW] at h1; cases h1) (fun e=>by rw [e,hcsW] at h1; cases h1) h2]; exact hx⟩,by first | rfl | exact m.io | exact a.io | exact a.le.io | exact b.io.trans a.io | exact a.1.io⟩
theorem Mv.hire {S:Addr→Option Value} {r:Role} (hSt:∀ a,E.St th.j a=none) (hjh:th.j≠h) (hS:∀ a,S a≠none→a.block=th.gb∧a.off < 3):Mv h rb th E w (E.hireE h r th.j rb S) w:=by
  have hr:∀ y,y≠h→(E.hireE h r th.j rb S).role y=E.role y:=fun y h2=>upd_ne _ _ h2
  have hst:∀ y,y≠th.j→(E.hireE h r th.j rb S).St y=E.St y:=fun y h1=>upd_ne _ _ h1
  have hstj:(E.hireE h r th.j rb S).St th.j=S:=upd_same ..
  have hwg:∀ y,y≠th.j→(E.hireE h r th.j rb S).wg y=E.wg y:=fun y h1=>upd_ne _ _ h1
  have hwgj:(E.hireE h r th.j rb S).wg th.j=some rb:=upd_same ..
  refine ⟨fun y c home h1 h2=>by rw [hr y h2],fun y h1 h2 e=>by rw [hr y h2]; exact e,fun y a v e=>?_,fun i a e=>?_,fun _ e=>e,fun _ e=>.inl e,fun _ _ e=>e,fun y b h1 e=>by rw [hwg y h1] at e; exact e,hwg h (fun e=>hjh e.symm),fun y h1 _ _=>hwg y h1,fun b e=>?_,fun b hb=>upd_ne _ _ hb,fun _ e=>e,Nat.le_refl _,fun _ _ _ _ _ _ _ _=>rfl,fun _ _ _ x st sm e hx=>⟨st,sm,hx⟩,by first | rfl | exact m.io | exact a.io | exact a.le.io | exact b.io.trans a.io | exact a.1.io⟩
  · by_cases h1:y=th.j
    · rw [h1,hSt a] at e; cases e
    · rw [hst y h1]; exact e
  · by_cases h1:i=th.j
    · rw [h1,hstj] at e; exact .inr (.inl (hS a e))
    · rw [hst i h1] at e; exact .inl e
  · rw [hwgj] at e; exact .inr (Option.some.inj e).symm
theorem Mv.hide {x:Nat} {H':Nat→Option Nat} {S':Addr→Option Value} (hH:∀ b n,E.H b=some n→H' b=some n) (hS:∀ a v,E.St x a=some v→S' a=some v) (hS2:∀ a,S' a≠none→E.St x a≠none∨(a.block=th.gb∧a.off < 3)∨w.heap.size≤a.block) (hsz:w.heap.size≤w'.heap.size) (hh:∀ b,b < w.heap.size→w'.heap[b]?=w.heap[b]?) :
    Mv h rb th E w { E with H:=H',St:=upd E.St x S' } w':=by
  refine ⟨fun _ _ _ _ _=>Iff.rfl,fun _ _ _ e=>e,fun y a v e=>?_,fun i a e=>?_,fun _ e=>e,fun _ e=>.inl e,hH,fun _ _ _ e=>e,rfl,fun _ _ _ _=>rfl,fun _ e=>.inl e,fun _ _=>rfl,fun _ e=>e,hsz,fun b _ _ _ _ _ _ h6=>hh b h6,fun b h1 _ x st sm e hx=>⟨st,sm,by rw [hh b (Array.getElem?_eq_some_iff.1 hx).1]; exact hx⟩,by first | rfl | exact m.io | exact a.io | exact a.le.io | exact b.io.trans a.io | exact a.1.io⟩
  · show upd E.St x S' y a=some v
    by_cases h1:y=x
    · subst h1; rw [upd_same]; exact hS a v e
    · rw [upd_ne _ _ h1]; exact e
  · have e':upd E.St x S' i a≠none:=e
    by_cases h1:i=x
    · subst h1; rw [upd_same] at e'; exact hS2 a e'
    · rw [upd_ne _ _ h1] at e'; exact .inl e'
end
structure Base (h rb:Nat) (J:Nat→Prop) (E0:Env) (w0:World) (E:Env) (w:World):Prop where
  seat:∀ x c home,¬ J x→x≠h→(E0.role x=.seat c home ↔ E.role x=.seat c home)
  gone:∀ x,¬ J x→x≠h→E0.role x=.gone→E.role x=.gone
  newR:∀ x,J x→(E0.role x).sits=false∧(∀ a,E0.St x a=none)∧x≠h
  role0:E0.role h=.gone
  St:∀ x a v,E0.St x a=some v→E.St x a=some v
  StN:∀ i a,E.St i a≠none→E0.St i a≠none∨w0.heap.size≤a.block
  W:∀ b,E0.W b=true→E.W b=true
  WN:∀ b,E.W b=true→E0.W b=true∨w0.heap.size≤b
  H:∀ b n,E0.H b=some n→E.H b=some n
  wg:∀ x b,¬ J x→E.wg x=some b→E0.wg x=some b
  wgH:E.wg h=E0.wg h
  wgS:∀ x,¬ J x→x≠h→(E0.role x).sits=true→E.wg x=E0.wg x
  wgJ:∀ x b,J x→E.wg x=some b→b=rb
  ex:∀ b,b≠rb→E.ex b=E0.ex b
  mode0:∀ b,E0.mode b=0
  mode:∀ b,E.mode b=0
  size:w0.heap.size≤w.heap.size
  heap:∀ b n,E0.H b=some n→E0.W b=false→b < w0.heap.size→w.heap[b]?=w0.heap[b]?
  heapW:∀ b,E0.W b=true→∀ x st sm e,w0.heap[b]?=some (runObj x st sm e)→∃ st' sm',w.heap[b]?=some (runObj x st' sm' e)
  rN:w0.heap.size≤rb
  rW0:E0.W rb=false
  rX0:E0.ex rb=0
  io:E.io=E0.io
theorem Base.mv {h rb:Nat} {J:Nat→Prop} {E0:Env} {w0:World} {E E':Env} {w w':World} {th:Th} (B:Base h rb J E0 w0 E w) (m:Mv h rb th E w E' w') (hg:w0.heap.size≤th.gb) (hct:w0.heap.size≤th.ct) (hcs:w0.heap.size≤th.cs)
    (hj:J th.j∨((E0.role th.j).sits=false∧(∀ a,E0.St th.j a=none)∧th.j≠h∧∀ b,E.wg th.j=some b→b=rb)):Base h rb (fun x=>J x∨x=th.j) E0 w0 E' w':=by
  refine ⟨fun x c home h1 h2=>?_,fun x h1 h2 e=>?_,fun x h1=>?_,B.role0,fun x a v e=>m.St x a v (B.St x a v e),fun i a e=>?_,fun b e=>m.W b (B.W b e),fun b e=>?_,fun b n e=>m.H b n (B.H b n e),fun x b h1 e=>?_,m.wgH.trans B.wgH,fun x h1 h2 e=>?_,fun x b h1 e=>?_,fun b hb=>(m.ex b hb).trans (B.ex b hb),B.mode0,fun b=>m.mode b (B.mode b),Nat.le_trans B.size m.size,fun b n h1 h2 h3=>?_,fun b h1 x st sm e hx=>?_,B.rN,B.rW0,B.rX0,by first | exact B.io | exact m.io.trans B.io | exact a.1.io.trans B.io | exact B1.io | rfl⟩
  · exact (B.seat x c home (fun z=>h1 (.inl z)) h2).trans (m.seat x c home (fun z=>h1 (.inr z)) h2)
  · exact m.gone x (fun z=>h1 (.inr z)) h2 (B.gone x (fun z=>h1 (.inl z)) h2 e)
  · rcases h1 with h1 | rfl
    · exact B.newR x h1
    · rcases hj with hj | ⟨j1,j2,j3,_⟩
      · exact B.newR _ hj
      · exact ⟨j1,j2,j3⟩
  · rcases m.StN i a e with z | ⟨z,_⟩ | z
    · exact B.StN i a z
    · exact .inr (by rw [z]; exact hg)
    · exact .inr (Nat.le_trans B.size z)
  · rcases m.WN b e with z | z
    · exact B.WN b z
    · exact .inr (Nat.le_trans B.size z)
  · exact B.wg x b (fun z=>h1 (.inl z)) (m.wg x b (fun z=>h1 (.inr z)) e)
  · have hx1:x≠th.j:=fun z=>h1 (.inr z)
    have hs:(E.role x).sits=true:=by
      cases er:E0.role x with
      | seat c home=>rw [(B.seat x c home (fun z=>h1 (.inl z)) h2).1 er]; rfl
      | _=>rw [er] at e; cases e
    exact (m.wgS x hx1 h2 hs).trans (B.wgS x (fun z=>h1 (.inl z)) h2 e)
  · by_cases hx:x=th.j
    · subst hx
      rcases m.wgj b e with z | z
      · rcases hj with hj | ⟨_,_,_,j4⟩
        · exact B.wgJ _ b hj z
        · exact j4 b z
      · exact z
    · exact B.wgJ x b (h1.resolve_right hx) (m.wg x b hx e)
  · have hW:E.W b=false:=by
      cases e:E.W b with
      | false=>rfl
      | true =>
        rcases B.WN b e with z | z
        · rw [h2] at z; cases z
        · omega
    rw [m.heap b n (B.H b n h1) hW (by omega) (by omega) (by omega) (Nat.lt_of_lt_of_le h3 B.size),B.heap b n h1 h2 h3]
  · obtain ⟨st',sm',h3⟩:=B.heapW b h1 x st sm e hx
    exact m.heapW b (B.W b h1) (fun z=>by rw [z,B.rW0] at h1; cases h1) x st' sm' e h3
def Th.bl (a:Th):List Nat:=[a.gb,a.ct,a.cs]
structure Apart (a b:Th):Prop where
  j:a.j≠b.j
  bl:∀ x ∈ a.bl,∀ y ∈ b.bl,x≠y
theorem Apart.symm {a b:Th} (h:Apart a b):Apart b a:=⟨fun e=>h.j e.symm,fun x hx y hy e=>h.bl y hy x hx e.symm⟩
structure TB (h rb:Nat) (th:Th) (E:Env) (w:World):Prop where
  hj:th.j≠h
  j0:0 < th.j
  gW:E.W th.gb=false
  gH:E.H th.gb=some 1
  ctH:E.H th.ct=some 0
  ctW:E.W th.ct=false
  ctC:∃ k',w.heap[th.ct]?=some (.chan 0 #[] false k' k' false)
  csH:E.H th.cs=some 0
  csW:E.W th.cs=false
  csC:∃ k',w.heap[th.cs]?=some (.chan 0 #[] false k' k' false)
  stT:E.St th.j ⟨th.gb,1,none⟩=some (.chan (some th.ct))
  stS:E.St h ⟨th.gb,2,none⟩=some (.chan (some th.cs))
  stB:E.St th.j ⟨th.box,0,none⟩=some (.pointer (some ⟨th.gb,0,none⟩))
  bW:E.W th.box=false
  bL:th.box < w.heap.size
  gL:th.gb < w.heap.size
  noSt:∀ i o,3≤o→E.St i ⟨th.gb,o,none⟩=none
  noT:∀ x home,x≠th.j→E.role x≠.seat th.ct home
  noS:∀ x home,x≠h→E.role x≠.seat th.cs home
theorem TB.mv {h rb:Nat} {th th':Th} {E E':Env} {w w':World} (T:TB h rb th' E w) (m:Mv h rb th E w E' w') (hct:∃ k',w'.heap[th'.ct]?=some (.chan 0 #[] false k' k' false)) (hcs:∃ k',w'.heap[th'.cs]?=some (.chan 0 #[] false k' k' false))
    (r1:∀ home,th.j≠th'.j→E'.role th.j≠.seat th'.ct home) (r2:∀ home,E'.role th.j≠.seat th'.cs home) (r3:∀ home,E'.role h≠.seat th'.ct home):TB h rb th' E' w':=by
  obtain ⟨k1,c1⟩:=T.ctC
  obtain ⟨k2,c2⟩:=T.csC
  refine ⟨T.hj,T.j0,m.W_false T.gL T.gW,m.H _ _ T.gH,m.H _ _ T.ctH,m.W_false (Array.getElem?_eq_some_iff.1 c1).1 T.ctW,hct,m.H _ _ T.csH,m.W_false (Array.getElem?_eq_some_iff.1 c2).1 T.csW,hcs,m.St _ _ _ T.stT,m.St _ _ _ T.stS,m.St _ _ _ T.stB,m.W_false T.bL T.bW,Nat.lt_of_lt_of_le T.bL m.size,Nat.lt_of_lt_of_le T.gL m.size,fun i o ho=>?_,fun x home hx e=>?_,fun x home hx e=>?_⟩
  · cases e:E'.St i ⟨th'.gb,o,none⟩ with
    | none=>rfl
    | some v =>
      rcases m.StN i _ (by rw [e]; simp) with z | ⟨_,z⟩ | z
      · exact absurd (T.noSt i o ho) z
      · have z':o < 3:=z
        omega
      · have z':w.heap.size≤th'.gb:=z
        have:=T.gL
        omega
  · by_cases h1:x=th.j
    · subst h1
      exact r1 home hx e
    · by_cases h2:x=h
      · subst h2; exact r3 home e
      · exact T.noT x home hx ((m.seat x _ _ h1 h2).2 e)
  · by_cases h1:x=th.j
    · subst h1
      exact r2 home e
    · exact T.noS x home hx ((m.seat x _ _ h1 hx).2 e)
section
variable {σ Λ:Type} (D:Prot σ Λ)
def TS (rb:Nat) (th:Th) (E:Env) (w:World):Option (Nat × Λ)→Prop
  | some (n,ℓ)=>E.role th.j=.seat th.ct (Srv D rb th n ℓ)∧E.wg th.j=some rb∧GA w rb th false false (D.tal ℓ)
  | none=>(E.role th.j).sits=false∧∃ fr tl,GA w rb th true fr tl
theorem TS.mv {D:Prot σ Λ} {h rb:Nat} {th th':Th} {E E':Env} {w w':World} {o:Option (Nat × Λ)} (S:TS D rb th' E w o) (T:TB h rb th' E w) (ap:Apart th' th) (m:Mv h rb th E w E' w'):TS D rb th' E' w' o:=by
  have hg:∀ en fr tl,GA w rb th' en fr tl→GA w' rb th' en fr tl:=fun en fr tl g=>by
    unfold GA at g ⊢
    rw [m.heap th'.gb 1 T.gH T.gW (ap.bl _ (by simp [Th.bl]) _ (by simp [Th.bl])) (ap.bl _ (by simp [Th.bl]) _ (by simp [Th.bl])) (ap.bl _ (by simp [Th.bl]) _ (by simp [Th.bl])) T.gL]; exact g
  match o,S with
  | some (n,ℓ),⟨s1,s2,s3⟩=>exact ⟨(m.seat _ _ _ ap.j T.hj).1 s1,(m.wgS _ ap.j T.hj (by rw [s1]; rfl)).trans s2,hg _ _ _ s3⟩
  | none,⟨s1,fr,tl,s2⟩=>exact ⟨(m.sits ap.j T.hj).trans s1,fr,tl,hg _ _ _ s2⟩
structure Phase (h rb:Nat) (E0:Env) (w0:World) (Pv:Nat→Option Obj) (ths:List Th) (st:List (Option (Nat × Λ))) (s:σ) (k:Int) (E:Env) (w:World):Prop where
  base:Base h rb (fun x=>∃ th ∈ ths,x=th.j) E0 w0 E w
  role:E.role h=.gone
  len:st.length=ths.length
  tb:∀ th ∈ ths,TB h rb th E w
  new:∀ th ∈ ths,w0.heap.size≤th.gb∧w0.heap.size≤th.ct∧w0.heap.size≤th.cs
  apart:∀ (t t':Nat) (th th':Th),t≠t'→ths[t]?=some th→ths[t']?=some th'→Apart th th'
  self:∀ th ∈ ths,th.gb≠th.ct∧th.gb≠th.cs∧th.ct≠th.cs
  ts:∀ (t:Nat) (th:Th) (o:Option (Nat × Λ)),ths[t]?=some th→st[t]?=some o→TS D rb th E w o
  ex:E.ex rb=0
  rW:E.W rb=true
  rL:Live rb w
  pick:w.cell? ⟨rb,0,none⟩=some (.int .i64 k)
  M:D.M s E w
  pv:∀ b o,Pv b=some o→w.heap[b]?=some o∧E.H b=some 0∧E.W b=false∧(∀ th ∈ ths,b ∉ th.bl)∧∀ i a,a.block=b→E.St i a=none
  fits:∀ (t m:Nat) (ℓ:Λ),st[t]?=some (some (m,ℓ))→D.fits ℓ s∧D.who ℓ=t
variable {D} {Pv:Nat→Option Obj} {h rb:Nat} {E0 E E':Env} {w0 w w':World} {ths:List Th} {st:List (Option (Nat × Λ))} {s:σ} {k:Int} {J:Nat→Prop} {t n:Nat} {th:Th} {o:Option Λ}
theorem Phase.after (B:Base h rb J E0 w0 E w) (hJ:∀ x,(J x∨x=th.j) ↔ ∃ th ∈ ths,x=th.j) (hj:J th.j∨((E0.role th.j).sits=false∧(∀ a,E0.St th.j a=none)∧th.j≠h∧∀ b,E.wg th.j=some b→b=rb))
    (hlen:st.length=ths.length) (hnew:∀ th ∈ ths,w0.heap.size≤th.gb∧w0.heap.size≤th.ct∧w0.heap.size≤th.cs) (hap:∀ (t t':Nat) (th th':Th),t≠t'→ths[t]?=some th→ths[t']?=some th'→Apart th th') (hself:∀ th ∈ ths,th.gb≠th.ct∧th.gb≠th.cs∧th.ct≠th.cs)
    (ho:∀ t' th',t'≠t→ths[t']?=some th'→TB h rb th' E w∧∀ o,st[t']?=some o→TS D rb th' E w o)
    (m:Mv h rb th E w E' w') (hr:E'.role h=.gone) (hrj:E'.role th.j=roleOf (Srv D rb th n) rb th o) (htb:TB h rb th E' w') (hts:TS D rb th E' w' (o.map (fun ℓ=>(n,ℓ)))) (ht:ths[t]?=some th) (hst:st[t]?=some (o.map (fun ℓ=>(n,ℓ))))
    (hex:E'.ex rb=0) (hrW:E'.W rb=true) (hrL:Live rb w') (hpick:w'.cell? ⟨rb,0,none⟩=some (.int .i64 k)) (hM:D.M s E' w') (hpv:∀ b o,Pv b=some o→w.heap[b]?=some o∧E.H b=some 0∧E.W b=false∧(∀ th ∈ ths,b ∉ th.bl)∧∀ i a,a.block=b→E.St i a=none) (hfits:∀ (t m:Nat) (ℓ:Λ),st[t]?=some (some (m,ℓ))→D.fits ℓ s∧D.who ℓ=t):Phase D h rb E0 w0 Pv ths st s k E' w':=by
  have hmem:th ∈ ths:=List.mem_of_getElem? ht
  obtain ⟨n1,n2,n3⟩:=hnew th hmem
  have hB:=B.mv m n1 n2 n3 hj
  have hJ':(fun x=>J x∨x=th.j)=(fun x=>∃ th ∈ ths,x=th.j):=funext fun x=>propext (hJ x)
  rw [hJ'] at hB
  have hoth:∀ t' th',t'≠t→ths[t']?=some th'→TB h rb th' E' w'∧∀ o,st[t']?=some o→TS D rb th' E' w' o:=fun t' th' hne e=>by
    obtain ⟨T,hS⟩:=ho t' th' hne e
    have ap:=hap t' t th' th hne e ht
    obtain ⟨k1,c1⟩:=T.ctC
    obtain ⟨k2,c2⟩:=T.csC
    have q:∀ x ∈ th'.bl,x≠th.gb∧x≠th.ct∧x≠th.cs:=fun x hx=>⟨ap.bl x hx _ (by simp [Th.bl]),ap.bl x hx _ (by simp [Th.bl]),ap.bl x hx _ (by simp [Th.bl])⟩
    obtain ⟨a1,a2,a3⟩:=q th'.ct (by simp [Th.bl])
    obtain ⟨b1,b2,b3⟩:=q th'.cs (by simp [Th.bl])
    refine ⟨T.mv m ⟨k1,by rw [m.heap _ 0 T.ctH T.ctW a1 a2 a3 (Array.getElem?_eq_some_iff.1 c1).1]; exact c1⟩ ⟨k2,by rw [m.heap _ 0 T.csH T.csW b1 b2 b3 (Array.getElem?_eq_some_iff.1 c2).1]; exact c2⟩ (fun home _ e=>?_) (fun home e=>?_) (fun home e=>by rw [hr] at e; cases e),fun o ho=>(hS o ho).mv T ap m⟩
    · rw [hrj] at e
      cases o with
      | none=>cases e
      | some ℓ =>
        have e':Role.seat th.ct (Srv D rb th n ℓ)=.seat th'.ct home:=e
        injection e' with z _
        exact a2 z.symm
    · rw [hrj] at e
      cases o with
      | none=>cases e
      | some ℓ =>
        have e':Role.seat th.ct (Srv D rb th n ℓ)=.seat th'.cs home:=e
        injection e' with z _
        exact b2 z.symm
  refine ⟨hB,hr,hlen,fun th' hm=>?_,hnew,hap,hself,fun t' th' o' e1 e2=>?_,hex,hrW,hrL,hpick,hM,fun b o e=>?_,hfits⟩
  · obtain ⟨t',ht'⟩:=List.mem_iff_getElem?.1 hm
    by_cases e:t'=t
    · subst e
      rw [ht] at ht'
      obtain rfl:=Option.some.inj ht'
      exact htb
    · exact (hoth t' th' e ht').1
  · by_cases e:t'=t
    · subst e
      rw [ht] at e1
      obtain rfl:=Option.some.inj e1
      rw [hst] at e2
      obtain rfl:=Option.some.inj e2
      exact hts
    · exact (hoth t' th' e e1).2 o' e2
  · obtain ⟨p1,p2,p3,p4,p5⟩:=hpv b o e
    have hb:=p4 th hmem
    refine ⟨?_,m.H _ _ p2,m.W_false (Array.getElem?_eq_some_iff.1 p1).1 p3,p4,fun i a ea=>?_⟩
    rotate_left
    · cases e':E'.St i a with
      | none=>rfl
      | some v =>
        rcases m.StN i a (by rw [e']; simp) with z | ⟨z,_⟩ | z
        · exact absurd (p5 i a ea) z
        · exact absurd (show b ∈ th.bl by rw [← ea,z]; simp [Th.bl]) hb
        · have:=(Array.getElem?_eq_some_iff.1 p1).1
          omega
    rw [m.heap b 0 p2 p3 (fun e=>hb (by simp [Th.bl,e])) (fun e=>hb (by simp [Th.bl,e])) (fun e=>hb (by simp [Th.bl,e])) (Array.getElem?_eq_some_iff.1 p1).1]
    exact p1
end
structure TX (h:Nat) (th:Th) (E:Env) (w:World):Prop where
  csH:E.H th.cs=some 0
  csW:E.W th.cs=false
  csL:th.cs < w.heap.size
  stS:E.St h ⟨th.gb,2,none⟩=some (.chan (some th.cs))
  noS:∀ x home,x≠h→E.role x≠.seat th.cs home
theorem TX.kept {h:Nat} {th:Th} {gb:Option Nat} {E E1:Env} {w w1:World} (x:TX h th E w) (a:Kept th.j gb E w E1 w1):TX h th E1 w1 :=
  ⟨a.le.H _ _ x.csH,a.W_false x.csL x.csW,Nat.lt_of_lt_of_le x.csL a.size,a.le.St _ _ _ x.stS,fun y home hy e=>x.noS y home hy ((a.le.seat _ _ _).2 e)⟩
section
variable {σ Λ:Type} {D:Prot σ Λ} {Pv:Nat→Option Obj} {h rb:Nat} {E0 E E2:Env} {w0 w w2:World} {ths:List Th} {st:List (Option (Nat × Λ))} {s':σ} {k:Int} {J:Nat→Prop} {t n:Nat} {th:Th} {o:Option Λ} {home:Goroutine→Prop} {F:Machine→Trace→Prop}
  {b₀:Frame} {a₀:Act} {ops₀:Array Oper} {i₀:Nat} {rest₀:List Nat} {k₀:List Item} {cl:List Frame}
theorem back_hg (B:Base h rb J E0 w0 E w) (hJ:∀ x,(J x∨x=th.j) ↔ ∃ th ∈ ths,x=th.j) (hj:J th.j∨((E0.role th.j).sits=false∧(∀ a,E0.St th.j a=none)∧th.j≠h∧∀ b,E.wg th.j=some b→b=rb))
    (hlen:st.length=ths.length) (hnew:∀ th ∈ ths,w0.heap.size≤th.gb∧w0.heap.size≤th.ct∧w0.heap.size≤th.cs) (hap:∀ (t t':Nat) (th th':Th),t≠t'→ths[t]?=some th→ths[t']?=some th'→Apart th th') (hself:∀ th ∈ ths,th.gb≠th.ct∧th.gb≠th.cs∧th.ct≠th.cs)
    (ho:∀ t' th',t'≠t→ths[t']?=some th'→TB h rb th' E w∧∀ o,st[t']?=some o→TS D rb th' E w o)
    (m2:Mv h rb th E w E2 w2) (T2:TKn h rb home k th E2 w2) (X2:TX h th E2 w2) (ht:ths[t]?=some th) (hst:st[t]?=some (o.map (fun ℓ=>(n,ℓ)))) (hex:E2.ex rb=0)
    (hpv:∀ b o,Pv b=some o→w.heap[b]?=some o∧E.H b=some 0∧E.W b=false∧(∀ th ∈ ths,b ∉ th.bl)∧∀ i a,a.block=b→E.St i a=none)
    (hfits:∀ (t m:Nat) (ℓ:Λ),st[t]?=some (some (m,ℓ))→D.fits ℓ s'∧D.who ℓ=t)
    (hcont:∀ E' w',Phase D h rb E0 w0 Pv ths st s' k E' w'→HG Try.prog h F E' (G (b₀.at (a₀.put ((ops₀[i₀]?).bind (·.dst)) (.tuple #[])) (.inRegion ops₀ rest₀ :: k₀)) cl) w')
    (hhome:∀ g,home g→AtWait th.gb b₀ a₀ ops₀ i₀ rest₀ k₀ cl g):Back D h rb home th F E2 w2 s' o (roleOf (Srv D rb th n) rb th o):=by
  intro E3 w3 kk g₃ hK hM3 hG3 hcs3 hg3
  have hmem:th ∈ ths:=List.mem_of_getElem? ht
  obtain ⟨q1,q2,q3⟩:=hself th hmem
  have T3:=T2.kept hK q1
  have X3:=X2.kept hK
  have hgcs:th.gb≠th.cs:=q2
  obtain ⟨fr,tl,hga,htl⟩:∃ fr tl,GA w3 rb th false fr tl∧∀ ℓ,o=some ℓ→fr=false∧tl=D.tal ℓ:=by
    cases o with
    | none=>obtain ⟨fr,tl,z⟩:=hG3; exact ⟨fr,tl,z,fun ℓ e=>by cases e⟩
    | some ℓ=>exact ⟨false,D.tal ℓ,hG3,fun ℓ' e=>by cases e; exact ⟨rfl,rfl⟩⟩
  generalize hr:roleOf (Srv D rb th n) rb th o=r
  have hrseat:∀ c hm,r=.seat c hm→c=th.ct:=fun c hm e=>by
    rw [← hr] at e
    cases o with
    | none=>cases e
    | some ℓ =>
      have e':Role.seat th.ct (Srv D rb th n ℓ)=.seat c hm:=e
      injection e' with z _
      exact z.symm
  refine HG.clear ?_
  generalize hE4:(E3.setRole th.j r).setRole h .gone=E4
  have hrole4:∀ x,E4.role x=if x=h then .gone else if x=th.j then r else E3.role x:=fun x=>by
    rw [← hE4]
    show upd (upd E3.role th.j r) h .gone x=_
    by_cases e1:x=h
    · rw [if_pos e1,e1,upd_same]
    · rw [if_neg e1,upd_ne _ _ e1]
      by_cases e2:x=th.j
      · rw [if_pos e2,e2,upd_same]
      · rw [if_neg e2,upd_ne _ _ e2]
  have hW4:E4.W=E3.W:=by rw [← hE4]; rfl
  have hH4:E4.H=E3.H:=by rw [← hE4]; rfl
  have hSt4:E4.St=E3.St:=by rw [← hE4]; rfl
  have hwg4:E4.wg=E3.wg:=by rw [← hE4]; rfl
  have hex4:E4.ex=E3.ex:=by rw [← hE4]; rfl
  have hmo4:E4.mode=E3.mode:=by rw [← hE4]; rfl
  generalize hw4:w3.setChan th.cs 0 #[] false (kk+1) (kk+1) false=w4
  have h4ne:∀ b,b≠th.cs→w4.heap[b]?=w3.heap[b]?:=fun b hb=>by rw [← hw4]; exact heap_setChan_ne w3 _ _ _ _ _ _ (fun z=>hb z.symm)
  have h4cs:w4.heap[th.cs]?=some (.chan 0 #[] false (kk+1) (kk+1) false):=by rw [← hw4]; exact heap_setChan_self w3 hcs3 ..
  have h4sz:w4.heap.size=w3.heap.size:=by rw [← hw4]; simp [World.setChan]
  have hga4:GA w4 rb th false fr tl:=by unfold GA; rw [h4ne _ hgcs]; exact hga
  refine (hhome g₃ hg3).go o.isSome hga4 (by rw [hW4]; exact T3.gW) (by rw [hrole4,if_pos rfl]) (fun i x hx=>by rw [hSt4]; exact T3.noSt i x hx) (hcont _ _ ?_)
  generalize hw5:w4.setCell ⟨th.gb,3,none⟩ (.bool !o.isSome)=w5
  have h5ne:∀ b,b≠th.gb→w5.heap[b]?=w4.heap[b]?:=fun b hb=>by rw [← hw5]; exact heap_setCell_ne (fun z=>hb z.symm)
  have h5sz:w5.heap.size=w4.heap.size:=by rw [← hw5]; simp [World.setCell]
  have hga5:GA w5 rb th (!o.isSome) fr tl:=by
    rw [← hw5]
    exact heap_set (a:=⟨th.gb,3,none⟩) rfl hga4
  have hgb:∀ {b},E3.W b=true→b≠th.gb∧b≠th.cs:=fun hb=>⟨fun e=>(by rw [e,T3.gW] at hb; cases hb),fun e=>(by rw [e,X3.csW] at hb; cases hb)⟩
  have h53:∀ b,b≠th.gb→b≠th.cs→w5.heap[b]?=w3.heap[b]?:=fun b h1 h2=>(h5ne b h1).trans (h4ne b h2)
  have hhs:(E2.role h).sits=true:=by rw [T2.run]; rfl
  have m5:Mv h rb th E w E4 w5:=by
    have a1:Mv h rb th E2 w2 E3 w3:=hK.mv (.inl rfl) (.inr hhs)
    have a2:Mv h rb th E3 w3 (E3.setRole th.j r) w3:=.role r (.inl rfl)
    have a3:Mv h rb th (E3.setRole th.j r) w3 ((E3.setRole th.j r).setRole h .gone) w3:=.role .gone (.inr rfl)
    rw [hE4] at a3
    have a4:Mv h rb th E4 w3 E4 w5:=.world (by rw [h5sz,h4sz]) (fun b h1 _ h3 _=>h53 b h1 h3) (by rw [hW4]; exact T3.rW) (by rw [hW4]; exact T3.gW) (by rw [hW4]; exact T3.ctW) (by rw [hW4]; exact X3.csW)
    exact (((m2.trans a1).trans a2).trans a3).trans a4
  obtain ⟨kc,hkc⟩:=T3.ctC
  have htb:TB h rb th E4 w5:=by
    refine ⟨fun e=>T3.hj e.symm,T3.j0,by rw [hW4]; exact T3.gW,by rw [hH4]; exact T3.gH,by rw [hH4]; exact T3.ctH,by rw [hW4]; exact T3.ctW,⟨kc,by rw [h53 _ q1.symm q3]; exact hkc⟩,by rw [hH4]; exact X3.csH,by rw [hW4]; exact X3.csW,⟨kk+1,by rw [h5ne _ q2.symm]; exact h4cs⟩,by rw [hSt4]; exact T3.stT,by rw [hSt4]; exact X3.stS,by rw [hSt4]; exact T3.stB,by rw [hW4]; exact T3.bW,by rw [h5sz,h4sz]; exact T3.bL,by rw [h5sz,h4sz]; exact T3.gL,fun i x hx=>by rw [hSt4]; exact T3.noSt i x hx,fun x hm hx e=>?_,fun x hm hx e=>?_⟩
    · rw [hrole4] at e
      by_cases e1:x=h
      · rw [if_pos e1] at e; cases e
      · rw [if_neg e1,if_neg hx] at e
        exact T3.noT x hm hx e
    · rw [hrole4,if_neg hx] at e
      by_cases e2:x=th.j
      · rw [if_pos e2] at e
        exact q3 (hrseat _ _ e).symm
      · rw [if_neg e2] at e
        exact X3.noS x hm hx e
  have hrj:E4.role th.j=r:=by rw [hrole4,if_neg (fun e=>T3.hj e.symm),if_pos rfl]
  have hts:TS D rb th E4 w5 (o.map (fun ℓ=>(n,ℓ))):=by
    cases o with
    | none=>exact ⟨by rw [hrj,← hr]; rfl,fr,tl,hga5⟩
    | some ℓ =>
      obtain ⟨rfl,rfl⟩:=htl ℓ rfl
      exact ⟨by rw [hrj,← hr]; rfl,by rw [hwg4]; exact T3.wg,hga5⟩
  have hrb:rb≠th.gb∧rb≠th.cs:=hgb T3.rW
  refine Phase.after B hJ hj hlen hnew hap hself ho m5 (by rw [hrole4,if_pos rfl]) (by rw [hrj,← hr]) htb hts ht hst (by rw [hex4,hK.le.ex]; exact hex) (by rw [hW4]; exact T3.rW) ?_ ?_ ?_ hpv hfits
  · obtain ⟨st',sm',x,e,hx⟩:=T3.rL
    exact ⟨st',sm',x,e,by rw [h53 _ hrb.1 hrb.2]; exact hx⟩
  · have:=T3.pick
    unfold World.cell? at this ⊢
    rw [h53 _ hrb.1 hrb.2]; exact this
  · refine D.closed _ _ _ _ _ hM3 fun b hb hn=>⟨by rw [hH4]; exact hn,h53 b (fun e=>?_) (fun e=>?_)⟩
    · rw [e,T3.gH] at hn; cases hn
    · rw [e,X3.csH] at hn; cases hn
end
end Go.Proofs.Ytimlbbleblijnaa.Co
