/- Lemmas for the laws of this seat, laid together of PGn, PGp, PGq, PGr, PGs. -/
import Derived.Test.YtimlbbleblijnaaX04

set_option linter.unusedVariables false
set_option linter.unusedSimpArgs false
set_option maxRecDepth 100000
set_option maxHeartbeats 4000000
namespace Go.Proofs.Ytimlbbleblijnaa.Co
open Go.Conc
open Go.ConcN (sumTo upd sumTo_upd upd_ne upd_same sumTo_congr le_sumTo)
section
variable {P:Program} {E:Env} {h dh:Nat} {T:Trace} {gs:Array Goroutine} {w:World} {q:Nat→Nat}
theorem Co.picked (C:Co P E h dh T gs w q) {a:Goroutine} {sl:Option (Nat × Nat)} (ha:gs[h]?=some a) (hrun:a.status=.running) :
  ∃ N gs₁ w₁ sl₁ w₂ sl₂ T₁ q₁ E1,runNT P N (crowd gs w sl) T=(.next (crowd gs₁ w₁ sl₁),T₁)∧stepT P (crowd gs₁ w₁ sl₁)=runT P (crowd gs₁ w₂ sl₂) h∧gs₁.size=gs.size∧gs₁[h]?=some a∧Aw E.W w w₂∧E.Eq h E1∧Co P E1 h dh T₁ gs₁ w₂ q₁:=by
 obtain ⟨N,m',T',hr,gs₁,w₁,sl₁,w₂,sl₂,q₁,E1,rfl,h1,h2,h3,h4,h5,h6⟩:=runs_until (P:=P)
  (Inv:=fun μ m t=>∃ gs₁ w₁ sl₁ q₁ E1,m=crowd gs₁ w₁ sl₁∧gs₁.size=gs.size∧gs₁[h]?=some a∧Aw E.W w w₁∧E.Eq h E1∧Co P E1 h dh t gs₁ w₁ q₁∧μ=sumTo gs₁.size q₁)
  (Done:=fun m t=>∃ gs₁ w₁ sl₁ w₂ sl₂ q₁ E1,m=crowd gs₁ w₁ sl₁∧stepT P (crowd gs₁ w₁ sl₁)=runT P (crowd gs₁ w₂ sl₂) h∧gs₁.size=gs.size∧gs₁[h]?=some a∧Aw E.W w w₂∧E.Eq h E1∧Co P E1 h dh t gs₁ w₂ q₁)
  (fun μ m t ⟨gs₁,w₁,sl₁,q₁,E1,hm,hsz,ha₁,hA,hE,C₁,hμ⟩=>by
   subst hm
   obtain ⟨i,gi,d,sl',hi,hg,hst⟩:=crowd_pick (P:=P) (w:=w₁) (sl:=sl₁) (C₁.awake ha₁ (.inl hrun)) ⟨h,a,ha₁,hrun⟩
   have hA':Aw E.W w (w₁.at d):=hA.trans _ _ _ (Aw.draw _ _ d)
   by_cases e:i=h
   ·subst e
    exact .inl ⟨gs₁,w₁,sl₁,w₁.at d,sl',q₁,E1,rfl,hst,hsz,ha₁,hA',hE,C₁.drew d⟩
   ·refine .inr ?_
    obtain ⟨gs',ops,w',E',q',hr,hsz',hh',_,_,hAw,hLe,C',hlt,_,_,_,hW,hSt,hH⟩:=(C₁.drew d).by_step (sl:=sl') hi e hg (fun c home g₂ _ _ gh hgh=>by rw [ha₁] at hgh; obtain rfl:=Option.some.inj hgh; exact offers_running hrun c)
    have ha':gs'[h]?=some a:=by
     rcases hh' with z | z
     ·rw [z,ha₁]
     ·rw [z,ha₁,Option.map_some,again_of_running (.inl hrun)]
    exact ⟨_,_,sumTo gs'.size q',by rw [hst]; exact hr,by rw [hsz',hμ]; exact hlt,gs',w',sl',q',E',rfl,hsz'.trans hsz,ha',hA'.trans _ _ _ (by rw [← hE.W']; exact hAw),hE.trans ⟨hLe,hW,hSt,hH⟩,C',rfl⟩)
  _ _ T ⟨gs,w,sl,q,E,rfl,rfl,ha,Aw.refl _ _,.refl h E,C,rfl⟩
 exact ⟨N,gs₁,w₁,sl₁,w₂,sl₂,T',q₁,E1,hr,h1,h2,h3,h4,h5,h6⟩
theorem Co.step1 (C:Co P E h dh T gs w q) {a:Goroutine} {sl:Option (Nat × Nat)} (ha:gs[h]?=some a) (hrun:a.status=.running) {R:Env→World→Machine→Trace→Prop}
  (hstep:∀ gs₁ w₂ sl₂ T₁ q₁ E1,gs₁.size=gs.size→gs₁[h]?=some a→Aw E.W w w₂→E.Eq h E1→Co P E1 h dh T₁ gs₁ w₂ q₁→∃ m' ops,runT P (crowd gs₁ w₂ sl₂) h=(.next m',ops)∧R E1 w₂ m' (T₁ ++ ops)) :
  ∃ N m' T' E1 w₂,runNT P N (crowd gs w sl) T=(.next m',T')∧Aw E.W w w₂∧E.Eq h E1∧R E1 w₂ m' T':=by
 obtain ⟨N,gs₁,w₁,sl₁,w₂,sl₂,T₁,q₁,E1,h1,h2,h3,h4,h5,h6,h7⟩:=C.picked (sl:=sl) ha hrun
 obtain ⟨m',ops,h8,h9⟩:=hstep gs₁ w₂ sl₂ T₁ q₁ E1 h3 h4 h5 h6 h7
 exact ⟨N+1,m',_,E1,w₂,runNT_cat h1 (runNT_one (h2.trans h8)),h5,h6,h9⟩
theorem Co.markStep (C:Co P E h dh T gs w q) {dh':Nat} {a a':Goroutine} (ha:gs[h]?=some a) (m:Mark) (hm:m=.disable∧dh'=dh+1∨m=.enable∧dh'=dh - 1) :
  Co P E h dh' (T ++ MemOp.ofEvents h a.frame.fn a.frame.place #[mkE m]) ((gs.map (Go.Conc.woken P a a' w)).setIfInBounds h a') w q∧((gs.map (Go.Conc.woken P a a' w)).setIfInBounds h a')[h]?=some a':=by
 refine ⟨C.hold (by simp) (C.woken fun _ _=>rfl) ofE_g (Nat.le_refl _) (fun _ _=>rfl) (fun _ _=>rfl) (fun _ _ x _ _ _ hx=>⟨x,hx⟩) C.fit ?_ (SameIo.refl _),Array.getElem?_setIfInBounds_self_of_lt (by simpa using C.lt)⟩
 refine C.past.appH ofE_g (fun op hop b hb=>?_) ?_ (fun op hop=>?_)
 ·obtain ⟨e,he,rfl⟩:=Go.Conc.mem_ofEvents hop
  simp only [List.mem_toArray,List.mem_cons,List.not_mem_nil,or_false] at he
  subst he
  rcases hm with ⟨rfl,_⟩ | ⟨rfl,_⟩ <;> simp [mkE,MemAct.ofEvent,MemAct.touch?] at hb
 ·rw [Deaf_own,C.past.hearsH]
  rcases hm with ⟨rfl,rfl⟩ | ⟨rfl,rfl⟩ <;> rfl
 ·obtain ⟨e,he,rfl⟩:=Go.Conc.mem_ofEvents hop
  simp only [List.mem_toArray,List.mem_cons,List.not_mem_nil,or_false] at he
  subst he
  rcases hm with ⟨rfl,_⟩ | ⟨rfl,_⟩ <;> trivial
theorem evG_atom {S:Addr→Prop} {W:Nat→Bool} {B b:Nat} (hS:∀ a,S a→W a.block=false) (hW:W b=true) (hb:b < B) {e:Event} (he:e=rdE (stZ b)∨e=wrE (stZ b)∨e=rdE (smZ b)∨e=wrE (smZ b)):EvG S W B e:=by
 have key:∀ (ad:Addr) (wr:Bool),ad.block=b→EvG S W B ⟨.cell ad,wr,true⟩:=fun ad wr hab=>by
  refine ⟨fun t ht=>?_,by simp,by simp,by cases wr <;> (show ad.block < B; rw [hab]; exact hb)⟩
  have ht':t=⟨.cell ad,wr,.atomic⟩:=by cases wr <;> (simp [MemAct.ofEvent,MemAct.touch?] at ht; exact ht.symm)
  subst ht'
  refine ⟨fun a e hs=>?_,fun _=>by simp⟩
  cases e
  rw [← hab,hS _ hs] at hW
  cases hW
 rcases he with rfl | rfl | rfl | rfl <;> exact key _ _ rfl
theorem Co.S_dis (C:Co P E h dh T gs w q):∀ a,E.S a→E.W a.block=false:=fun a ⟨i,hi⟩=>C.dis i a hi
theorem Co.addStep (C:Co P E h dh T gs w q) {a a':Goroutine} {b v:Nat} (ha:gs[h]?=some a) (hW:E.W b=true) (hm:E.mode b=0) (hv:cnt E gs.size b+E.ex b=v) (hv2:v < 1000) {es:Array Event} (hes:∀ e ∈ es,e=rdE (stZ b)∨e=wrE (stZ b)) :
  Co P { E with ex:=upd E.ex b (E.ex b+1) } h dh (T ++ MemOp.ofEvents h a.frame.fn a.frame.place es) ((gs.map (Go.Conc.woken P a a' (w.setCell (stZ b) (.int .u64 (((v:Int)+1) * KK))))).setIfInBounds h a') (w.setCell (stZ b) (.int .u64 (((v:Int)+1) * KK))) q ∧
   ((gs.map (Go.Conc.woken P a a' (w.setCell (stZ b) (.int .u64 (((v:Int)+1) * KK))))).setIfInBounds h a')[h]?=some a':=by
 have hgrp:=C.groups b hW
 have hA:=aw_set hgrp hW (.int .u64 (((v:Int)+1) * KK)) (.inl ⟨rfl,_,rfl⟩)
 have hpast:PastZ (ShZ E.W) (StZ E) (MemZ E h gs.size) (LooseZ E h gs.size) w.heap.size h dh (T ++ MemOp.ofEvents h a.frame.fn a.frame.place es) :=
  C.past_own (Nat.le_refl _) fun e he=>evG_atom C.S_dis hW hgrp.lt ((hes e he).elim .inl fun x=>.inr (.inl x))
 have hoth:∀ x,x≠h→((gs.map (Go.Conc.woken P a a' (w.setCell (stZ b) (.int .u64 (((v:Int)+1) * KK))))).setIfInBounds h a')[x]?=gs[x]?:=fun x hx=>by
  rw [Array.getElem?_setIfInBounds_ne (fun e=>hx e.symm),Array.getElem?_map]
  cases e:gs[x]? with
  | none=>rfl
  | some y=>rw [Option.map_some,woken_of_again (C.fixed hx e hA.heap)]
 have hsz:((gs.map (Go.Conc.woken P a a' (w.setCell (stZ b) (.int .u64 (((v:Int)+1) * KK))))).setIfInBounds h a').size=gs.size:=by simp
 refine ⟨⟨by rw [hsz]; exact C.lt,fun x y hx hy=>?_,fun x c home hx hl e=>?_,fun x x' c home home' hx hx' hl hl'=>C.inj x x' c home home' hx hx' (hsz ▸ hl) (hsz ▸ hl'),fun j hj=>?_,fun x=>(C.keep x).aw (C.dis x) hA,C.dis,C.fit.aw hA,C.hidS,C.hidC,by rw [hsz,hA.size]; exact hpast,fun x b hl=>C.wgW x b (hsz ▸ hl),by rw [hsz]; exact C.fresh,fun c hc=>?_,fun c hc=>?_,fun c hc=>?_,by rw [hsz]; exact C.lastEx,fun c hc=>?_,fun x x' b f f' hx hx' hl hl'=>C.one x x' b f f' hx hx' (hsz ▸ hl) (hsz ▸ hl'),⟨C.io.1,C.io.2⟩⟩,Array.getElem?_setIfInBounds_self_of_lt (by simpa using C.lt)⟩
 ·rw [hoth x hx] at hy
  exact idle_other hx ofE_g rfl rfl rfl (fun _ hb=>hb) (fun _ _ _=>rfl) (C.idle x y hx hy)
 ·obtain ⟨k,hk⟩:=C.chans x c home hx (hsz ▸ hl) e
  exact ⟨k,by rw [hA.heap c (C.chan_notW (k:=0) hk (by intro cs e f hh; cases hh))]; exact hk⟩
 ·rw [hsz] at hj
  have:h≠j:=by have:=C.lt; omega
  rw [Deaf_other T this _ ofE_g]
  exact C.above j hj
 ·rw [hsz]
  by_cases ec:c=b
  ·subst ec
   obtain ⟨x,e,hx⟩:=hgrp
   refine ⟨x,e,?_⟩
   have e1:stv { E with ex:=upd E.ex c (E.ex c+1) } gs.size c=((v:Int)+1) * KK:=by
    unfold stv
    simp only [upd_same,hm]
    have:cnt { E with ex:=upd E.ex c (E.ex c+1) } gs.size c+(E.ex c+1)=v+1:=by
     have:cnt { E with ex:=upd E.ex c (E.ex c+1) } gs.size c=cnt E gs.size c:=rfl
     omega
    rw [this]
    simp
   have e2:smv { E with ex:=upd E.ex c (E.ex c+1) } c=smv E c:=rfl
   rw [e1,e2]
   exact heap_setCell_run hx _
  ·have e1:stv { E with ex:=upd E.ex b (E.ex b+1) } gs.size c=stv E gs.size c:=by
    unfold stv
    simp only [upd_ne _ _ ec]
    rfl
   rw [e1]
   exact (C.groups c hc).same (heap_setCell_ne (by exact fun z=>ec z.symm))
 ·rw [hsz]
  show cnt E gs.size c+upd E.ex b (E.ex b+1) c≤1000
  by_cases ec:c=b
  ·subst ec; rw [upd_same]; omega
  ·rw [upd_ne _ _ ec]; exact C.few c hc
 ·rw [hsz]
  show E.mode c≤4∧(E.mode c=1→1≤cnt E gs.size c+upd E.ex b (E.ex b+1) c)∧(2≤E.mode c→cnt E gs.size c+upd E.ex b (E.ex b+1) c=0)
  by_cases ec:c=b
  ·subst ec; rw [hm]; exact ⟨by omega,fun e=>by omega,fun e=>by omega⟩
  ·rw [upd_ne _ _ ec]; exact C.modes c hc
 ·have ec:c≠b:=fun e=>by
   rw [e] at hc
   have hc':E.W b=false:=hc
   rw [hW] at hc'; cases hc'
  show upd E.ex b (E.ex b+1) c=0∧E.mode c=0
  rw [upd_ne _ _ ec]
  exact C.zero c hc
end
theorem fit_grow {H H':Nat→Option Nat} {W:Nat→Bool} {w:World} (hf:Fit H W w) (h1:∀ b n,H b=some n→H' b=some n)
  (h2:∀ b n,H' b=some n→H b=some n∨((∃ c e f,w.heap[b]?=some (.cells c e f))∨∃ c bf l s r m,w.heap[b]?=some (.chan c bf l s r m))):Fit H' W w:=by
 refine ⟨fun b o ho=>?_,fun b hb=>?_,fun b n o hD ho=>?_,hf.ok,fun b hb=>h1 b 1 (hf.sub b hb)⟩
 ·cases hD:H' b with
  | none =>
    have hn:H b=none:=by
     cases e:H b with
     | none=>rfl
     | some n=>rw [h1 b n e] at hD; cases hD
    rw [vw_get_none hD] at ho
    exact hf.fair b o (by rw [vw_get_none hn]; exact ho)
  | some n =>
    rw [vw_get_some hD] at ho
    rcases h2 b n hD with e | ⟨c,e,f,e1⟩ | ⟨c,bf,l,s,r,m,e1⟩
    ·exact hf.fair b o (by rw [vw_get_some e]; exact ho)
    ·rw [e1] at ho; cases ho; rfl
    ·rw [e1] at ho; cases ho; rfl
 ·cases hD:H' b with
  | none=>rfl
  | some n =>
    rcases h2 b n hD with e | ⟨c,e,f,e1⟩ | ⟨c,bf,l,s,r,m,e1⟩
    ·rw [hf.bound b hb] at e; cases e
    ·have:=(Array.getElem?_eq_some_iff.1 e1).1; omega
    ·have:=(Array.getElem?_eq_some_iff.1 e1).1; omega
 ·rcases h2 b n hD with e | ⟨c,e,f,e1⟩ | ⟨c,bf,l,s,r,m,e1⟩
  ·exact hf.hides b n o e ho
  ·rw [e1] at ho; cases ho; exact .inl ⟨_,_,_,rfl⟩
  ·rw [e1] at ho; cases ho; exact .inr (.inr (.inl ⟨_,_,_,_,_,_,rfl⟩))
theorem stz_known {Sh:Loc→Prop} {St:Nat→Loc→Prop} {Mem Loose:Nat→Prop} {B h dh:Nat} {t:Trace} (H:PastZ Sh St Mem Loose B h dh t) {i:Nat} {a:Touch} (ha:touchAt t i=some a) (hw:a.write=true) (hm:a.loc.isMemory=true) (hs:¬ Sh a.loc):Knows t h i:=by
 rcases H.known i a ha hm with z | ⟨z,_⟩ | ⟨z,_⟩
 ·exact z
 ·rw [hw] at z; cases z
 ·exact absurd z hs
section
variable {P:Program} {E:Env} {h dh:Nat} {T:Trace} {gs:Array Goroutine} {w:World} {q:Nat→Nat}
theorem Co.S_lt (C:Co P E h dh T gs w q) {i:Nat} {a:Addr} (hs:(E.St i a).isSome=true):a.block < w.heap.size:=by
 obtain ⟨v,hv⟩:=Option.isSome_iff_exists.1 hs
 exact lt_of_cell (C.keep i a v hv)
theorem Co.newRun (C:Co P E h dh T gs w q) {a a':Goroutine} {ty:TypeId} {w':World} (ha:gs[h]?=some a) (hw':w'.heap=w.heap.push (runObj (.int .i64 0) 0 0 ty)) (hio:SameIo w w':=by exact ⟨rfl,rfl⟩) :
  Co P { E with W:=upd E.W w.heap.size true,H:=upd E.H w.heap.size (some 1) } h dh (T ++ MemOp.ofEvents h a.frame.fn a.frame.place #[]) ((gs.map (Go.Conc.woken P a a' w')).setIfInBounds h a') w' q∧((gs.map (Go.Conc.woken P a a' w')).setIfInBounds h a')[h]?=some a':=by
 have hget:∀ b,b < w.heap.size→w'.heap[b]?=w.heap[b]?:=fun b hb=>by rw [hw',Array.getElem?_push,if_neg (by omega)]
 have hnew:w'.heap[w.heap.size]?=some (runObj (.int .i64 0) 0 0 ty):=by rw [hw',Array.getElem?_push,if_pos rfl]
 have hWn:E.W w.heap.size=false:=by
  cases e:E.W w.heap.size with
  | false=>rfl
  | true=>exact absurd (C.groups _ e).lt (Nat.lt_irrefl _)
 have hlt:∀ b o,w.heap[b]?=some o→b < w.heap.size:=fun b o e=>(Array.getElem?_eq_some_iff.1 e).1
 have hWlt:∀ b,E.W b=true→b < w.heap.size:=fun b hb=>(C.groups b hb).lt
 have hoth:∀ x,x≠h→((gs.map (Go.Conc.woken P a a' w')).setIfInBounds h a')[x]?=gs[x]?:=C.woken fun c ⟨i,home,e⟩=>by
  refine hget c (Nat.lt_of_not_le fun hle=>?_)
  have:=C.fit.bound c hle
  rw [C.hidC i c home e] at this; cases this
 have hsz:((gs.map (Go.Conc.woken P a a' w')).setIfInBounds h a').size=gs.size:=by simp
 have hcnt:cnt E gs.size w.heap.size=0:=by
  unfold cnt
  have:∀ n,n≤gs.size→sumTo n (fun i=>if E.wg i=some w.heap.size then 1 else 0)=0:=by
   intro n hn
   induction n with
   | zero=>rfl
   | succ n ih =>
     simp only [sumTo,ih (by omega)]
     rw [if_neg (fun e=>by have:=C.wgW n _ (by omega) e; rw [hWn] at this; cases this)]
  exact this _ (Nat.le_refl _)
 obtain ⟨hex0,hmo0⟩:=C.zero _ hWn
 have hWup:∀ b,(upd E.W w.heap.size true) b=true→b=w.heap.size∨E.W b=true:=fun b hb=>by
  by_cases e:b=w.heap.size
  ·exact .inl e
  ·rw [upd_ne _ _ e] at hb; exact .inr hb
 refine ⟨⟨by rw [hsz]; exact C.lt,fun x y hx hy=>?_,fun x c home hx hl e=>?_,fun x x' c home home' hx hx' hl hl'=>C.inj x x' c home home' hx hx' (hsz ▸ hl) (hsz ▸ hl'),fun j hj=>?_,fun x ad v e=>?_,fun x ad hs=>?_,?_,fun x ad hs=>?_,fun x c home e=>?_,?_,fun x b hl e=>?_,by rw [hsz]; exact C.fresh,fun b hb=>?_,fun b hb=>?_,fun b hb=>?_,fun b hb hx=>?_,fun b hb=>?_,fun x x' b f f' hx hx' hl hl'=>C.one x x' b f f' hx hx' (hsz ▸ hl) (hsz ▸ hl'),C.io.trans hio⟩,Array.getElem?_setIfInBounds_self_of_lt (by simpa using C.lt)⟩
 ·rw [hoth x hx] at hy
  exact idle_other (E:=E) hx ofE_g rfl rfl rfl (fun b hb=>by
   show upd E.W w.heap.size true b=true
   by_cases e:b=w.heap.size
   ·subst e; rw [upd_same]
   ·rw [upd_ne _ _ e]; exact hb) (fun _ _ _=>rfl) (C.idle x y hx hy)
 ·obtain ⟨k,hk⟩:=C.chans x c home hx (hsz ▸ hl) e
  exact ⟨k,by rw [hget c (hlt _ _ hk)]; exact hk⟩
 ·rw [hsz] at hj
  have:h≠j:=by have:=C.lt; omega
  rw [Deaf_other T this _ ofE_g]
  exact C.above j hj
 ·have:=C.keep x ad v e
  rw [cell_same (hget _ (lt_of_cell this))]; exact this
 ·show upd E.W w.heap.size true ad.block=false
  have:=C.S_lt hs
  rw [upd_ne _ _ (by omega)]
  exact C.dis x ad hs
 ·refine ⟨fun b o ho=>?_,fun b hb=>?_,fun b n o hD ho=>?_,fun b hb=>?_,fun b hb=>?_⟩
  ·by_cases e:b=w.heap.size
   ·subst e
    rw [vw_get_some (n:=1) (upd_same ..),hnew] at ho
    cases ho; rfl
   ·have hb:b < w.heap.size:=by
     have:=(Array.getElem?_eq_some_iff.1 ho).1
     rw [vw_size,hw',Array.size_push] at this
     omega
    refine C.fit.fair b o ?_
    rw [vw_get] at ho ⊢
    rw [hget b hb] at ho
    unfold hideAt at ho ⊢
    simp only [upd_ne _ _ e] at ho
    exact ho
  ·rw [hw',Array.size_push] at hb
   show upd E.H w.heap.size (some 1) b=none
   rw [upd_ne _ _ (by omega)]
   exact C.fit.bound b (by omega)
  ·by_cases e:b=w.heap.size
   ·subst e; rw [hnew] at ho; cases ho; exact .inl ⟨_,_,_,rfl⟩
   ·simp only [upd_ne _ _ e] at hD
    have hb:b < w.heap.size:=Nat.lt_of_not_le fun hle=>by rw [C.fit.bound b hle] at hD; cases hD
    rw [hget b hb] at ho
    exact C.fit.hides b n o hD ho
  ·rcases hWup b hb with rfl | hb'
   ·exact ⟨_,_,_,_,hnew⟩
   ·obtain ⟨x,st,sm,e,hx⟩:=C.fit.ok b hb'
    exact ⟨x,st,sm,e,by rw [hget b (hWlt b hb')]; exact hx⟩
  ·rcases hWup b hb with rfl | hb'
   ·exact upd_same ..
   ·show upd E.H w.heap.size (some 1) b=some 1
    rw [upd_ne _ _ (by have:=hWlt b hb'; omega)]
    exact C.fit.sub b hb'
 ·obtain ⟨n,h1,h2⟩:=C.hidS x ad hs
  have:=C.S_lt hs
  exact ⟨n,by show upd E.H w.heap.size (some 1) ad.block=some n; rw [upd_ne _ _ (by omega)]; exact h1,h2⟩
 ·have h1:=C.hidC x c home e
  have hc:c < w.heap.size:=Nat.lt_of_not_le fun hle=>by rw [C.fit.bound c hle] at h1; cases h1
  show upd E.H w.heap.size (some 1) c=some 0
  rw [upd_ne _ _ (by omega)]
  exact h1
 ·rw [hsz]
  have h1:PastZ (ShZ (upd E.W w.heap.size true)) (StZ E) (MemZ E h gs.size) (LooseZ E h gs.size) w.heap.size h dh T:=C.past.shunMore (fun l ⟨ad,e,hw,ho⟩=>⟨ad,e,by
    rw [upd_ne _ _ (by have:=hWlt _ hw; omega)]; exact hw,ho⟩) (fun l ⟨ad,e,hw,ho⟩ hn=>⟨ad,e,by
    rcases hWup _ hw with z | z
    ·omega
    ·exact absurd ⟨ad,e,z,ho⟩ hn⟩)
  have h2:=h1.appH (u:=MemOp.ofEvents h a.frame.fn a.frame.place #[]) (dh':=dh) ofE_g (fun op hop b hb=>by obtain ⟨e,he,rfl⟩:=Go.Conc.mem_ofEvents hop; simp at he) (by rw [Deaf_own,C.past.hearsH]; rfl) (fun op hop=>by obtain ⟨e,he,rfl⟩:=Go.Conc.mem_ofEvents hop; simp at he)
  exact h2.mono (by rw [hw',Array.size_push]; omega)
 ·have hb:=C.wgW x b (hsz ▸ hl) e
  show upd E.W w.heap.size true b=true
  rw [upd_ne _ _ (by have:=hWlt b hb; omega)]
  exact hb
 ·rw [hsz]
  rcases hWup b hb with rfl | hb'
  ·refine ⟨.int .i64 0,ty,?_⟩
   have e1:stv { E with W:=upd E.W w.heap.size true,H:=upd E.H w.heap.size (some 1) } gs.size w.heap.size=0:=by
    unfold stv
    have:cnt { E with W:=upd E.W w.heap.size true,H:=upd E.H w.heap.size (some 1) } gs.size w.heap.size=0:=hcnt
    simp only [this,hex0,hmo0]
    simp
   have e2:smv { E with W:=upd E.W w.heap.size true,H:=upd E.H w.heap.size (some 1) } w.heap.size=0:=by
    unfold smv
    simp only [hmo0]
    rfl
   rw [e1,e2]
   exact hnew
  ·exact (C.groups b hb').same (hget b (hWlt b hb'))
 ·rw [hsz]
  rcases hWup b hb with rfl | hb'
  ·show cnt E gs.size _+E.ex _≤1000
   omega
  ·exact C.few b hb'
 ·rw [hsz]
  rcases hWup b hb with rfl | hb'
  ·show E.mode _≤4∧(E.mode _=1→1≤cnt E gs.size _+E.ex _)∧(2≤E.mode _→cnt E gs.size _+E.ex _=0)
   rw [hmo0]
   exact ⟨by omega,fun e=>by omega,fun e=>by omega⟩
  ·exact C.modes b hb'
 ·rw [hsz]
  rcases hWup b hb with rfl | hb'
  ·have hx':E.mode w.heap.size=2∨E.mode w.heap.size=3:=hx
   rw [hmo0] at hx'; omega
  ·exact C.lastEx b hb' hx
 ·have e:b≠w.heap.size:=fun e=>by
   rw [e] at hb
   have hb':upd E.W w.heap.size true w.heap.size=false:=hb
   rw [upd_same] at hb'; cases hb'
  have hb':upd E.W w.heap.size true b=false:=hb
  rw [upd_ne _ _ e] at hb'
  exact C.zero b hb'
theorem Co.grow (C:Co P E h dh T gs w q) {H':Nat→Option Nat} {S':Addr→Option Value} (hH:∀ b n,E.H b=some n→H' b=some n) (hfit:Fit H' E.W w) (hS:∀ a v,E.St h a=some v→S' a=some v)
  (hS2:∀ a v,S' a=some v→w.cell? a=some v∧E.W a.block=false∧∃ n,H' a.block=some n∧n≤a.off):Co P { E with H:=H',St:=upd E.St h S' } h dh T gs w q:=by
 have hne:∀ x,x≠h→(upd E.St h S') x=E.St x:=fun x hx=>upd_ne _ _ hx
 have hall:∀ x a,((upd E.St h S') x a).isSome=true→(x=h∧∃ v,S' a=some v)∨(E.St x a).isSome=true:=fun x a hs=>by
  by_cases e:x=h
  ·subst e; rw [upd_same] at hs; exact .inl ⟨rfl,Option.isSome_iff_exists.1 hs⟩
  ·rw [hne x e] at hs; exact .inr hs
 refine ⟨C.lt,fun x y hx hy=>?_,C.chans,C.inj,C.above,fun x a v e=>?_,fun x a hs=>?_,hfit,fun x a hs=>?_,fun x c home e=>hH c 0 (C.hidC x c home e),?_,C.wgW,fun x hx=>?_,C.groups,C.few,C.modes,C.lastEx,C.zero,C.one,⟨C.io.1,C.io.2⟩⟩
 ·have:=C.idle x y hx hy
  unfold Idle at this ⊢
  simp only [hne x hx]
  exact this
 ·by_cases ex:x=h
  ·subst ex
   have e':S' a=some v:=by have:upd E.St x S' x a=some v:=e; rwa [upd_same] at this
   exact (hS2 a v e').1
  ·have e':E.St x a=some v:=by have:upd E.St h S' x a=some v:=e; rwa [hne x ex] at this
   exact C.keep x a v e'
 ·rcases hall x a hs with ⟨_,v,hv⟩ | hs'
  ·exact (hS2 a v hv).2.1
  ·exact C.dis x a hs'
 ·rcases hall x a hs with ⟨_,v,hv⟩ | hs'
  ·exact (hS2 a v hv).2.2
  ·obtain ⟨n,h1,h2⟩:=C.hidS x a hs'
   exact ⟨n,hH _ _ h1,h2⟩
 ·refine C.past.still (fun g l ⟨a,e,hs⟩=>⟨a,e,?_⟩) (fun i a ha hw g hg hst hn=>?_)
  ·show (upd E.St h S' g a).isSome=true
   by_cases ex:g=h
   ·subst ex
    obtain ⟨v,hv⟩:=Option.isSome_iff_exists.1 hs
    rw [upd_same,hS a v hv]; rfl
   ·rw [hne g ex]; exact hs
  ·obtain ⟨ad,e,hs⟩:=hst
   rcases hall g ad hs with ⟨rfl,v,hv⟩ | hs'
   ·exact stz_known C.past ha hw (by rw [e]; rfl) (fun ⟨ad',e',hw',_⟩=>by
     rw [e] at e'; cases e'
     rw [(hS2 ad v hv).2.1] at hw'; cases hw')
   ·exact absurd ⟨ad,e,hs'⟩ hn
 ·obtain ⟨f1,f2,f3⟩:=C.fresh x hx
  have hxh:x≠h:=by have:=C.lt; omega
  exact ⟨f1,f2,fun a=>by show upd E.St h S' x a=none; rw [hne x hxh]; exact f3 a⟩
end
def Env.hireE (E:Env) (h:Nat) (r':Role) (n b:Nat) (S:Addr→Option Value):Env :=
 { E with role:=upd E.role h r',wg:=upd E.wg n (some b),ex:=upd E.ex b (E.ex b - 1),St:=upd E.St n S }
theorem cnt_hire {E:Env} {h n b c:Nat} {r':Role} {S:Addr→Option Value}:cnt (E.hireE h r' n b S) (n+1) c=cnt E n c+(if c=b then 1 else 0):=by
 unfold cnt
 simp only [sumTo]
 have e:sumTo n (fun i=>if (E.hireE h r' n b S).wg i=some c then 1 else 0)=sumTo n (fun i=>if E.wg i=some c then 1 else 0):=sumTo_congr fun i hi=>by
  have:(E.hireE h r' n b S).wg i=E.wg i:=upd_ne _ _ (by omega)
  rw [this]
 rw [e]
 have e2:(E.hireE h r' n b S).wg n=some b:=upd_same ..
 rw [e2]
 by_cases ec:c=b
 ·subst ec; simp
 ·rw [if_neg ec,if_neg (fun e=>ec (by simpa using e.symm))]
section
variable {P:Program} {E:Env} {h dh:Nat} {T:Trace} {gs:Array Goroutine} {w:World} {q:Nat→Nat}
theorem Co.hire (C:Co P E h 0 T gs w q) {a a' child:Goroutine} {es:Array Event} {sl:Option (Nat × Nat)} (ha:gs[h]?=some a) (hrun:a.status=.running) (hgo:∀ w',Aw E.W w w'→stepG P (h == 0) a w'=.spawn a' child w' es)
  (hes:∀ e ∈ es,EvG E.S E.W w.heap.size e) {r':Role} {n' b:Nat} {S:Addr→Option Value} (hWb:E.W b=true) (hex:1≤E.ex b) (hmode:E.mode b=0)
  (hafter:∀ T',Deaf T' h=0→Idle P (E.hireE h r' gs.size b S) T' h n' a')
  (hr1:∀ c' home',r'=.seat c' home'→(∃ k,w.heap[c']?=some (.chan 0 #[] false k k false))∧E.H c'=some 0∧∀ x home'',x≠h→x < gs.size→E.role x=.seat c' home''→False) (hr2:∀ b f,r'≠.last b f)
  (hS:∀ a v,S a=some v→w.cell? a=some v∧E.W a.block=false∧∃ n,E.H a.block=some n∧n≤a.off) :
  ∃ N gs' w' sl' T' q' E1,runNT P N (crowd gs w sl) T=(.next (crowd gs' w' sl'),T')∧gs'.size=gs.size+1∧gs'[gs.size]?=some child∧Aw E.W w w'∧E.Eq h E1∧Co P (E1.hireE h r' gs.size b S) gs.size 0 T' gs' w' q':=by
 obtain ⟨N,gs₁,w₁,sl₁,w₂,sl₂,T₁,q₁,E1,h1,h2,hsz,ha₁,hA,hEq,C₁⟩:=C.picked (sl:=sl) ha hrun
 have hst:=runT_crowd_spawn (P:=P) (sl:=sl₂) ha₁ (hgo w₂ hA)
 have hpush:((MemOp.ofEvents h a.frame.fn a.frame.place es).push { g:=h,fn:=a.frame.fn,pos:=a.frame.place,act:=.go gs₁.size } |>.push { g:=gs₁.size,fn:=child.frame.fn,pos:=a.frame.place,act:=.start }) =
   MemOp.ofEvents h a.frame.fn a.frame.place es ++ #[{ g:=h,fn:=a.frame.fn,pos:=a.frame.place,act:=.go gs₁.size },{ g:=gs₁.size,fn:=child.frame.fn,pos:=a.frame.place,act:=.start }]:=by
  apply Array.ext'; simp
 rw [hpush] at hst
 refine ⟨N+1,(gs₁.setIfInBounds h a').push child,w₂,sl₂,_,upd q₁ h n',E1,runNT_cat h1 (runNT_one (h2.trans hst)),by simp [hsz],by rw [← hsz,Array.getElem?_push,if_pos (by simp)],hA,hEq,?_⟩
 rw [← hsz] at hafter ⊢
 generalize hn:gs₁.size=n at *
 have hlt:h < n:=by have:=C₁.lt; omega
 have hhn:h≠n:=by omega
 obtain ⟨fr1,fr2,fr3⟩:=C₁.fresh n (by omega)
 have hrole:∀ x,x≠h→(E1.hireE h r' n b S).role x=E1.role x:=fun x hx=>upd_ne _ _ hx
 have hroleh:(E1.hireE h r' n b S).role h=r':=upd_same ..
 have hSt:∀ x,x≠n→(E1.hireE h r' n b S).St x=E1.St x:=fun x hx=>upd_ne _ _ hx
 have hwg:∀ x,x≠n→(E1.hireE h r' n b S).wg x=E1.wg x:=fun x hx=>upd_ne _ _ hx
 have hgs:∀ x,x≠h→x < n→((gs₁.setIfInBounds h a').push child)[x]?=gs₁[x]?:=fun x hx hl=>by
  rw [Array.getElem?_push,if_neg (by simp; omega),Array.getElem?_setIfInBounds_ne (fun e=>hx e.symm)]
 have hszn:((gs₁.setIfInBounds h a').push child).size=n+1:=by simp [hn]
 have hex1:1≤E1.ex b:=by rw [hEq.ex]; exact hex
 have hWb1:E1.W b=true:=by rw [hEq.W']; exact hWb
 have hev:∀ e ∈ es,EvG E1.S E1.W w₂.heap.size e:=by rw [hEq.S,hEq.W',hA.size]; exact hes
 have hp1:=C₁.past_own (fn:=a.frame.fn) (pos:=a.frame.place) (Nat.le_refl _) hev
 have hS1:∀ a v,S a=some v→w₂.cell? a=some v∧E1.W a.block=false∧∃ n,E1.H a.block=some n∧n≤a.off:=fun ad v e=>by
  obtain ⟨s1,s2,s3⟩:=hS ad v e
  rw [hEq.W',hEq.H']
  exact ⟨by rw [cell_same (hA.heap _ s2)]; exact s1,s2,s3⟩
 have hD1:∀ x,Deaf (T₁ ++ MemOp.ofEvents h a.frame.fn a.frame.place es) x=Deaf T₁ x:=fun x=>by
  by_cases e:x=h
  ·subst e; rw [hp1.hearsH,C₁.past.hearsH]
  ·exact Deaf_other T₁ (fun z=>e z.symm) _ ofE_g
 have p2:=hp1.hire (c:=n) (fun e=>hhn e.symm) (by rw [hD1]; exact C₁.above n (by omega)) (fun hm=>hm.elim (fun e=>hhn e.symm) (fun e=>by rw [fr1] at e; exact absurd e.2 (by simp [Role.sits])))
  (fun l ⟨ad,_,hs⟩=>by rw [fr3 ad] at hs; cases hs) a.frame.fn a.frame.place child.frame.fn
 rw [Array.append_assoc] at p2
 have hD2:∀ x,Deaf (T₁ ++ (MemOp.ofEvents h a.frame.fn a.frame.place es ++ #[{ g:=h,fn:=a.frame.fn,pos:=a.frame.place,act:=.go n },{ g:=n,fn:=child.frame.fn,pos:=a.frame.place,act:=.start }])) x=Deaf T₁ x:=fun x=>by
  rw [← Array.append_assoc,Deaf_quiet (fun op hop d=>by
   simp only [List.mem_toArray,List.mem_cons,List.not_mem_nil,or_false] at hop
   rcases hop with rfl | rfl <;> rfl),hD1]
 have hall:∀ x ad,((E1.hireE h r' n b S).St x ad).isSome=true→(x=n∧∃ v,S ad=some v)∨(x≠n∧(E1.St x ad).isSome=true):=fun x ad hs=>by
  by_cases e:x=n
  ·subst e
   have hs':(upd E1.St x S x ad).isSome=true:=hs
   rw [upd_same] at hs'
   exact .inl ⟨rfl,Option.isSome_iff_exists.1 hs'⟩
  ·rw [hSt x e] at hs; exact .inr ⟨e,hs⟩
 have htot:∀ c,E1.W c=true→cnt (E1.hireE h r' n b S) (n+1) c+(E1.hireE h r' n b S).ex c=cnt E1 n c+E1.ex c:=fun c hc=>by
  rw [cnt_hire]
  show _+upd E1.ex b (E1.ex b - 1) c=_
  by_cases ec:c=b
  ·subst ec; rw [upd_same,if_pos rfl]; omega
  ·rw [upd_ne _ _ ec,if_neg ec]; omega
 have hc2:n≠h:=fun e=>hhn e.symm
 refine ⟨by rw [hszn]; omega,fun x y hx hy=>?_,fun x c home hx hl e=>?_,fun x x' c home home' hx hx' hl hl' e e'=>?_,fun x hx=>?_,fun x ad v e=>?_,fun x ad hs=>?_,C₁.fit,fun x ad hs=>?_,fun x c home e=>?_,?_,fun x c hl e=>?_,fun x hx=>?_,fun c hc=>?_,fun c hc=>?_,fun c hc=>?_,fun c hc hx=>?_,fun c hc=>?_,fun x x' c f f' hx hx' hl hl' e e'=>?_,⟨C₁.io.1,C₁.io.2⟩⟩
 ·have hxl:x < n:=by
   have:=(Array.getElem?_eq_some_iff.1 hy).1
   rw [hszn] at this; omega
  by_cases e:x=h
  ·subst e
   rw [Array.getElem?_push,if_neg (by simp; omega),Array.getElem?_setIfInBounds_self_of_lt (by omega)] at hy
   obtain rfl:=Option.some.inj hy
   rw [upd_same]
   have:=hafter (T₁ ++ (MemOp.ofEvents x a.frame.fn a.frame.place es ++ #[{ g:=x,fn:=a.frame.fn,pos:=a.frame.place,act:=.go n },{ g:=n,fn:=child.frame.fn,pos:=a.frame.place,act:=.start }])) (by rw [hD2]; exact C₁.past.hearsH)
   unfold Idle at this ⊢
   rw [hroleh]
   rw [show (E.hireE x r' n b S).role x=r' from upd_same ..] at this
   rw [hwg x hhn,hSt x hhn,hEq.St',hEq.wgH]
   rw [show (E.hireE x r' n b S).wg x=E.wg x from upd_ne _ _ hhn,show (E.hireE x r' n b S).St x=E.St x from upd_ne _ _ hhn] at this
   cases r' with
   | last b f=>exact absurd rfl (hr2 b f)
   | _=>exact this
  ·rw [hgs x e hxl] at hy
   rw [upd_ne q₁ n' e]
   have hid:=C₁.idle x y e hy
   unfold Idle at hid ⊢
   rw [hrole x e,hD2,hSt x (by omega),hwg x (by omega)]
   exact hid
 ·rw [hszn] at hl
  by_cases ex:x=h
  ·subst ex
   rw [hroleh] at e
   obtain ⟨⟨k,hk⟩,_,_⟩:=hr1 c home e
   have hw':E.W c=false:=C.chan_notW (k:=0) hk (by intro cs e f hh; cases hh)
   exact ⟨k,by rw [hA.heap c hw']; exact hk⟩
  ·rw [hrole x ex] at e
   exact C₁.chans x c home ex (by omega) e
 ·rw [hszn] at hl hl'
  by_cases ex:x=h
  ·by_cases ex':x'=h
   ·rw [ex,ex']
   ·subst ex
    rw [hroleh] at e; rw [hrole x' ex'] at e'
    exact ((hr1 c home e).2.2 x' home' ex' (by omega) ((hEq.seat x' c home').2 e')).elim
  ·by_cases ex':x'=h
   ·subst ex'
    rw [hroleh] at e'; rw [hrole x ex] at e
    exact ((hr1 c home' e').2.2 x home ex (by omega) ((hEq.seat x c home).2 e)).elim
   ·rw [hrole x ex] at e; rw [hrole x' ex'] at e'
    exact C₁.inj x x' c home home' ex ex' (by omega) (by omega) e e'
 ·rw [hszn] at hx
  rw [hD2]; exact C₁.above x (by omega)
 ·by_cases ex:x=n
  ·subst ex
   have e':S ad=some v:=by have:upd E1.St x S x ad=some v:=e; rwa [upd_same] at this
   exact (hS1 ad v e').1
  ·rw [hSt x ex] at e; exact C₁.keep x ad v e
 ·rcases hall x ad hs with ⟨_,v,hv⟩ | ⟨_,hs'⟩
  ·exact (hS1 ad v hv).2.1
  ·exact C₁.dis x ad hs'
 ·rcases hall x ad hs with ⟨_,v,hv⟩ | ⟨_,hs'⟩
  ·exact (hS1 ad v hv).2.2
  ·exact C₁.hidS x ad hs'
 ·by_cases ex:x=h
  ·subst ex
   rw [hroleh] at e
   show E1.H c=some 0
   rw [hEq.H']
   exact (hr1 c home e).2.1
  ·rw [hrole x ex] at e; exact C₁.hidC x c home e
 ·rw [hszn]
  have q1:PastZ (ShZ E1.W) (StZ (E1.hireE h r' n b S)) (fun g=>MemZ E1 h n g∨g=n) (LooseZ E1 h n) w₂.heap.size n 0 (T₁ ++ (MemOp.ofEvents h a.frame.fn a.frame.place es ++ #[{ g:=h,fn:=a.frame.fn,pos:=a.frame.place,act:=.go n },{ g:=n,fn:=child.frame.fn,pos:=a.frame.place,act:=.start }])):=by
   rw [hn] at p2
   refine p2.still (fun g l ⟨ad,e,hs⟩=>⟨ad,e,?_⟩) (fun i t ht hw g hg hst hns=>?_)
   ·by_cases ex:g=n
    ·subst ex; rw [fr3 ad] at hs; cases hs
    ·rw [hSt g ex]; exact hs
   ·obtain ⟨ad,e,hs⟩:=hst
    rcases hall g ad hs with ⟨rfl,v,hv⟩ | ⟨hgn,hs'⟩
    ·exact stz_known p2 ht hw (by rw [e]; rfl) (fun ⟨ad',e',hw',_⟩=>by
      rw [e] at e'; cases e'
      rw [(hS1 ad v hv).2.1] at hw'; cases hw')
    ·exact absurd ⟨ad,e,hs'⟩ hns
  refine (q1.fewer fun g hg=>?_).loosen fun g hg=>?_
  ·rcases hg with rfl | ⟨hl,hs⟩
   ·exact .inr rfl
   ·by_cases ex:g=n
    ·exact .inr ex
    ·by_cases exh:g=h
     ·exact .inl (.inl exh)
     ·rw [hrole g exh] at hs; exact .inl (.inr ⟨by omega,hs⟩)
  ·obtain ⟨g1,g2,g3⟩:=hg
   exact ⟨by omega,by omega,by rw [hrole g g1]; exact g3⟩
 ·rw [hszn] at hl
  by_cases ex:x=n
  ·subst ex
   have e':(some b:Option Nat)=some c:=by have:upd E1.wg x (some b) x=some c:=e; rwa [upd_same] at this
   cases e'
   exact hWb1
  ·rw [hwg x ex] at e; exact C₁.wgW x c (by omega) e
 ·rw [hszn] at hx
  obtain ⟨f1,f2,f3⟩:=C₁.fresh x (by omega)
  exact ⟨by rw [hrole x (by omega)]; exact f1,by rw [hwg x (by omega)]; exact f2,fun ad=>by rw [hSt x (by omega)]; exact f3 ad⟩
 ·rw [hszn]
  have hg:=C₁.groups c hc
  rw [hn] at hg
  have e1:stv (E1.hireE h r' n b S) (n+1) c=stv E1 n c:=by
   unfold stv
   rw [htot c hc]
   rfl
  rw [e1]
  exact hg
 ·rw [hszn,htot c hc,← hn]; exact C₁.few c hc
 ·rw [hszn]
  have:=C₁.modes c hc
  rw [hn] at this
  rw [htot c hc]
  exact this
 ·obtain ⟨x,f,x1,x2,x3⟩:=C₁.lastEx c hc hx
  exact ⟨x,f,by omega,by omega,by rw [hrole x x1]; exact x3⟩
 ·have hz:=C₁.zero c hc
  have ec:c≠b:=fun e=>by
   rw [e] at hc
   have hc':E1.W b=false:=hc
   rw [hWb1] at hc'; cases hc'
  exact ⟨by show upd E1.ex b (E1.ex b - 1) c=0; rw [upd_ne _ _ ec]; exact hz.1,hz.2⟩
 ·rw [hszn] at hl hl'
  by_cases ex:x=h
  ·subst ex; rw [hroleh] at e; exact absurd e (hr2 c f)
  ·by_cases ex':x'=h
   ·subst ex'; rw [hroleh] at e'; exact absurd e' (hr2 c f')
   ·rw [hrole x ex] at e; rw [hrole x' ex'] at e'
    exact C₁.one x x' c f f' ex ex' (by omega) (by omega) e e'
end
theorem GoesW.robust {P:Program} {main:Bool} {R:World→World→Prop} {D:World→World→Array Event→Prop} {Stop:Goroutine→World→Prop} (trans:∀ a b c,R a b→R b c→R a c) {g:Goroutine} {w:World} (h:GoesW P main R D Stop g w) :
  GoesW P main R D (fun g w=>∀ w₁,R w w₁→Stop g w₁) g w:=by
 induction h with
 | stop h=>exact .stop fun w₁ h1 w₂ h2=>h w₂ (trans _ _ _ h1 h2)
 | step hs ng nw ne h ih ihh=>exact .step hs ng nw ne h ihh
section
variable (P:Program) (main:Bool) (W:Nat→Bool) (D:World→World→Array Event→Prop) (b:Nat) (Fin Anch:Goroutine→World→Prop)
abbrev GW (S:Goroutine→World→Prop) (g:Goroutine) (w:World):Prop:=GoesW P main (Aw W) D S g w
def AtW4 (g:Goroutine) (w:World):Prop:=g.status=.running∧(GroupAt b w 0 0→∃ g',stepG P main g w=.go g' w #[rdE (stZ b)]∧GW P main W D Fin g' w)
def AtW3 (g:Goroutine) (w:World):Prop :=
 g.status=.running∧g.offers=none∧((∃ st,GroupAt b w st 0)→stepG P main g w=.go { g with status:=.blocked } w #[]) ∧
  (GroupAt b w 0 1→∃ g',stepG P main g w=.go g' (w.setCell (smZ b) (.int .u32 0)) (semEvents (smZ b))∧GW P main W D (AtW4 P main W D b Fin) g' (w.setCell (smZ b) (.int .u32 0)))
def AtW2 (v:Nat) (g:Goroutine) (w:World):Prop :=
 g.status=.running∧∀ v':Nat,v' < 2147483648→GroupAt b w ((v':Int) * KK) 0 →
  (v'=v→∃ g',stepG P main g w=.go g' (w.setCell (stZ b) (.int .u64 ((v:Int) * KK+1))) #[rdE (stZ b),wrE (stZ b)]∧GW P main W D (AtW3 P main W D b Fin) g' (w.setCell (stZ b) (.int .u64 ((v:Int) * KK+1)))) ∧
  (v'≠v→∃ g',stepG P main g w=.go g' w #[rdE (stZ b)]∧GW P main W D Anch g' w)
def AtW1 (g:Goroutine) (w:World):Prop :=
 g.status=.running∧∀ v:Nat,v < 2147483648→GroupAt b w ((v:Int) * KK) 0→∃ g',stepG P main g w=.go g' w #[rdE (stZ b)] ∧
  (v=0→GW P main W D Fin g' w)∧(v≠0→GW P main W D (AtW2 P main W D b Fin Anch v) g' w)
end
section
variable {P:Program} {E:Env} {h dh:Nat} {T:Trace} {gs:Array Goroutine} {w:World} {q:Nat→Nat}
theorem Co.words (C:Co P E h dh T gs w q) {a a':Goroutine} {b m':Nat} {w':World} (ha:gs[h]?=some a) (hW:E.W b=true) (hm:E.mode b≠2∧E.mode b≠3) (hm':m'≠2∧m'≠3) {ops:Array MemOp} (hops:∀ op ∈ ops,op.g=h) (hA:Aw E.W w w') (hother:∀ c,c≠b→w'.heap[c]?=w.heap[c]?)
  (hgrp:GroupAt b w' (stv { E with mode:=upd E.mode b m' } gs.size b) (smv { E with mode:=upd E.mode b m' } b)) (hmodes:m'≤4∧(m'=1→1≤cnt E gs.size b+E.ex b)∧(2≤m'→cnt E gs.size b+E.ex b=0))
  (hpast:PastZ (ShZ E.W) (StZ E) (MemZ E h gs.size) (LooseZ E h gs.size) w.heap.size h dh (T ++ ops)) :
  Co P { E with mode:=upd E.mode b m' } h dh (T ++ ops) ((gs.map (Go.Conc.woken P a a' w')).setIfInBounds h a') w' q∧((gs.map (Go.Conc.woken P a a' w')).setIfInBounds h a')[h]?=some a':=by
 have hoth:∀ x,x≠h→((gs.map (Go.Conc.woken P a a' w')).setIfInBounds h a')[x]?=gs[x]?:=fun x hx=>by
  rw [Array.getElem?_setIfInBounds_ne (fun e=>hx e.symm),Array.getElem?_map]
  cases e:gs[x]? with
  | none=>rfl
  | some y=>rw [Option.map_some,woken_of_again (C.fixed hx e hA.heap)]
 have hsz:((gs.map (Go.Conc.woken P a a' w')).setIfInBounds h a').size=gs.size:=by simp
 have hnl:∀ x f,x≠h→x < gs.size→E.role x≠.last b f:=fun x f hx hl e=>by
  have:=C.idle x _ hx (Array.getElem?_eq_getElem hl)
  unfold Idle at this
  rw [e] at this
  have:=this.2.2.2.2.1
  cases f <;> simp at this
  ·exact hm.1 this
  ·exact hm.2 this
 refine ⟨⟨by rw [hsz]; exact C.lt,fun x y hx hy=>?_,fun x c home hx hl e=>?_,fun x x' c home home' hx hx' hl hl'=>C.inj x x' c home home' hx hx' (hsz ▸ hl) (hsz ▸ hl'),fun j hj=>?_,fun x=>(C.keep x).aw (C.dis x) hA,C.dis,C.fit.aw hA,C.hidS,C.hidC,by rw [hsz,hA.size]; exact hpast,fun x b hl=>C.wgW x b (hsz ▸ hl),by rw [hsz]; exact C.fresh,fun c hc=>?_,by rw [hsz]; exact C.few,fun c hc=>?_,fun c hc hx=>?_,fun c hc=>?_,fun x x' b f f' hx hx' hl hl'=>C.one x x' b f f' hx hx' (hsz ▸ hl) (hsz ▸ hl'),by first | exact ⟨C.io.1,C.io.2⟩ | exact C.io.trans ⟨hA.os,hA.output⟩ | exact C.io.trans hio⟩,Array.getElem?_setIfInBounds_self_of_lt (by simpa using C.lt)⟩
 ·rw [hoth x hx] at hy
  have hl:=(Array.getElem?_eq_some_iff.1 hy).1
  exact idle_other (E:=E) hx hops rfl rfl rfl (fun _ hb=>hb) (fun c f e=>by
   have ec:c≠b:=fun z=>hnl x f hx hl (z ▸ e)
   exact upd_ne _ _ ec) (C.idle x y hx hy)
 ·obtain ⟨k,hk⟩:=C.chans x c home hx (hsz ▸ hl) e
  exact ⟨k,by rw [hA.heap c (C.chan_notW (k:=0) hk (by intro cs e f hh; cases hh))]; exact hk⟩
 ·rw [hsz] at hj
  have:h≠j:=by have:=C.lt; omega
  rw [Deaf_other T this _ hops]
  exact C.above j hj
 ·rw [hsz]
  by_cases ec:c=b
  ·subst ec; exact hgrp
  ·have e1:stv { E with mode:=upd E.mode b m' } gs.size c=stv E gs.size c:=by
    unfold stv
    simp only [upd_ne _ _ ec]
    rfl
   have e2:smv { E with mode:=upd E.mode b m' } c=smv E c:=by
    unfold smv
    simp only [upd_ne _ _ ec]
   rw [e1,e2]
   exact (C.groups c hc).same (hother c ec)
 ·rw [hsz]
  show upd E.mode b m' c≤4∧(upd E.mode b m' c=1→1≤cnt E gs.size c+E.ex c)∧(2≤upd E.mode b m' c→cnt E gs.size c+E.ex c=0)
  by_cases ec:c=b
  ·subst ec; rw [upd_same]; exact hmodes
  ·rw [upd_ne _ _ ec]; exact C.modes c hc
 ·rw [hsz]
  have hx':upd E.mode b m' c=2∨upd E.mode b m' c=3:=hx
  by_cases ec:c=b
  ·subst ec; rw [upd_same] at hx'; omega
  ·rw [upd_ne _ _ ec] at hx'; exact C.lastEx c hc hx'
 ·have hc':E.W c=false:=hc
  have ec:c≠b:=fun e=>by rw [e,hW] at hc'; cases hc'
  show E.ex c=0∧upd E.mode b m' c=0
  rw [upd_ne _ _ ec]
  exact C.zero c hc'
structure Spent (E:Env) (h n b:Nat):Prop where
 W:E.W b=true
 ex:E.ex b=0
 mode:E.mode b=0
 self:E.wg h≠some b
 none:∀ x,x≠h→x < n→(E.role x).sits=true→E.wg x≠some b
theorem Spent.eq {E E':Env} {h n b:Nat} (s:Spent E h n b) (k:E.Eq h E'):Spent E' h n b :=
 ⟨by rw [k.W']; exact s.W,by rw [k.ex]; exact s.ex,k.mode b s.mode,by rw [k.wgH]; exact s.self,fun x hx hl hs=>by
  rw [k.sits x] at hs
  rw [k.wgS x hs]; exact s.none x hx hl hs⟩
theorem cnt_eq_le {E E':Env} {h n b:Nat} (k:E.Le h E'):cnt E' n b≤cnt E n b:=by
 unfold cnt
 induction n with
 | zero=>exact Nat.le_refl _
 | succ n ih =>
   simp only [sumTo]
   by_cases e:E'.wg n=some b
   ·rw [if_pos e,if_pos (k.wg n b e)]; omega
   ·rw [if_neg e]; omega
theorem Co.counted (C:Co P E h dh T gs w q) {b:Nat} (hself:E.wg h≠some b) (hnone:∀ x,x≠h→x < gs.size→(E.role x).sits=true→E.wg x≠some b) (hc:1≤cnt E gs.size b):∃ (i:Nat) (g:Goroutine),i≠h∧gs[i]?=some g∧g.status=.running:=by
 have key:∀ n,n≤gs.size→1≤sumTo n (fun i=>if E.wg i=some b then 1 else 0)→∃ i,i < n∧E.wg i=some b:=by
  intro n hn hs
  induction n with
  | zero=>simp [sumTo] at hs
  | succ n ih =>
    by_cases e:E.wg n=some b
    ·exact ⟨n,by omega,e⟩
    ·simp only [sumTo,if_neg e,Nat.add_zero] at hs
     obtain ⟨i,hi,he⟩:=ih (by omega) hs
     exact ⟨i,by omega,he⟩
 obtain ⟨i,hi,he⟩:=key _ (Nat.le_refl _) hc
 have hih:i≠h:=fun e=>hself (e ▸ he)
 refine ⟨i,gs[i],hih,Array.getElem?_eq_getElem hi,?_⟩
 have hid:=C.idle i _ hih (Array.getElem?_eq_getElem hi)
 unfold Idle at hid
 cases hr:E.role i with
 | seat c home=>exact absurd he (hnone i hih hi (by rw [hr]; rfl))
 | ender b'=>rw [hr] at hid; exact hid.2.1.status
 | last b' f=>rw [hr] at hid; rw [hid.2.2.2.2.2] at he; cases he
 | gone=>rw [hr] at hid; rw [hid.2.2] at he; cases he
theorem Co.walkR (C:Co P E h dh T gs w q) {Stop:Goroutine→World→Prop} {a:Goroutine} {sl:Option (Nat × Nat)} (hG:GoesW P (h == 0) (Aw E.W) E.D Stop a w) (ha:gs[h]?=some a) :
  ∃ N gs' a' w' sl' T' E' q',runNT P N (crowd gs w sl) T=(.next (crowd gs' w' sl'),T')∧gs'.size=gs.size∧gs'[h]?=some a'∧(∀ w₁,Aw E.W w' w₁→Stop a' w₁)∧E.Eq h E'∧Co P E' h dh T' gs' w' q' :=
 Co.walk (hG.robust Aw.trans) (.refl h E) (Aw.refl _ _) C ha
theorem stv0 {E:Env} {n b:Nat} (hm:E.mode b=0) (hex:E.ex b=0):stv E n b=(cnt E n b:Int) * KK:=by
 unfold stv
 rw [hm,hex]
 simp
theorem smv0 {E:Env} {b:Nat} (hm:E.mode b≠4):smv E b=0:=by unfold smv; rw [if_neg hm]
theorem PastZ.sem {Sh:Loc→Prop} {St:Nat→Loc→Prop} {Mem Loose:Nat→Prop} {B h dh b:Nat} {t:Trace} {fn:FuncId} {pos:String} (H:PastZ Sh St Mem Loose B h dh t) (hdis:∀ g l,St g l→¬ Sh l) (hs:Sh (.cell (smZ b))) (hb:b < B) :
  PastZ Sh St Mem Loose B h dh (t ++ MemOp.ofEvents h fn pos (semEvents (smZ b))):=by
 refine H.appH ofE_g (fun op hop x hx=>?_) ?_ (fun op hop=>?_)
 ·obtain ⟨e,he,rfl⟩:=Go.Conc.mem_ofEvents hop
  simp only [semEvents,List.mem_toArray,List.mem_cons,List.not_mem_nil,or_false] at he
  rcases he with rfl | rfl | rfl | rfl
  ·simp [MemAct.ofEvent,MemAct.touch?] at hx
  ·simp only [MemAct.ofEvent,MemAct.touch?,Option.some.injEq] at hx
   subst hx
   exact ⟨fun g hg=>absurd hs (hdis g _ hg),fun _=>by simp⟩
  ·simp only [MemAct.ofEvent,MemAct.touch?,Option.some.injEq] at hx
   subst hx
   exact ⟨fun g hg=>absurd hs (hdis g _ hg),fun _=>by simp⟩
  ·simp [MemAct.ofEvent,MemAct.touch?] at hx
 ·rw [Deaf_own,H.hearsH]
  rfl
 ·obtain ⟨e,he,rfl⟩:=Go.Conc.mem_ofEvents hop
  simp only [semEvents,List.mem_toArray,List.mem_cons,List.not_mem_nil,or_false] at he
  rcases he with rfl | rfl | rfl | rfl
  ·trivial
  ·exact hb
  ·exact hb
  ·trivial
end
def Env.reset (E:Env) (b:Nat):Env:={ E with mode:=upd E.mode b 0 }
theorem reset_self {E:Env} {b:Nat} (h:E.mode b=0):E.reset b=E:=by
 have:upd E.mode b 0=E.mode:=by
  funext c
  by_cases e:c=b
  ·subst e; rw [upd_same,h]
  ·rw [upd_ne _ _ e]
 unfold Env.reset
 rw [this]
theorem reset_set (E:Env) (b m:Nat):Env.reset { E with mode:=upd E.mode b m } b=E.reset b:=by
 have:upd (upd E.mode b m) b 0=upd E.mode b 0:=by
  funext c
  by_cases e:c=b
  ·subst e; rw [upd_same,upd_same]
  ·rw [upd_ne _ _ e,upd_ne _ _ e,upd_ne _ _ e]
 unfold Env.reset
 simp only [this]
theorem reset_eq {E E':Env} {h:Nat} (k:E.Eq h E') (b:Nat):(E.reset b).Eq h (E'.reset b) :=
 ⟨⟨k.seat,k.gone,k.roleH,k.St,k.W,k.H,k.wg,k.wgH,k.wgS,k.ex,fun c hc=>by
   by_cases e:c=b
   ·subst e; exact upd_same ..
   ·have hc':upd E.mode b 0 c=0:=hc
    rw [upd_ne _ _ e] at hc'
    show upd E'.mode b 0 c=0
    rw [upd_ne _ _ e]; exact k.mode c hc',fun c=>by
   show upd E.mode b 0 c≤upd E'.mode b 0 c
   by_cases e:c=b
   ·subst e; rw [upd_same,upd_same]; exact Nat.le_refl _
   ·rw [upd_ne _ _ e,upd_ne _ _ e]; exact k.modeUp c,k.io⟩,k.W',k.St',k.H'⟩
theorem offers_none {g:Goroutine} (h:g.offers=none) (c:Nat) (b:Bool):offersAt { g with status:=.blocked } c b=[]:=by
 unfold offersAt
 simp [h]
theorem again_sem {g:Goroutine} (h1:g.status=.running) (h2:g.offers=none) (w:World):Goroutine.again w { g with status:=.blocked }=g:=by
 obtain ⟨fr,cs,st,dy,off⟩:=g
 simp only at h1 h2
 subst h1 h2
 simp [Goroutine.again]
section
variable {P:Program} {E:Env} {h dh:Nat} {T:Trace} {gs:Array Goroutine} {w:World} {q:Nat→Nat}
def WaitEnd (P:Program) (h dh b:Nat) (Fin:Goroutine→World→Prop) (E:Env) (n:Nat) (m:Machine) (T:Trace):Prop :=
 ∃ N gs' a' w' sl' T' E' q',runNT P N m T=(.next (crowd gs' w' sl'),T')∧gs'.size=n∧gs'[h]?=some a'∧Fin a' w'∧E.Eq h E'∧Co P E' h dh T' gs' w' q'∧cnt E' n b=0
theorem WaitEnd.more {b:Nat} {Fin:Goroutine→World→Prop} {n N:Nat} {m m':Machine} {T T':Trace} {E':Env} (hr:runNT P N m T=(.next m',T')) (hE:E.Eq h E') (g:WaitEnd P h dh b Fin E' n m' T'):WaitEnd P h dh b Fin E n m T:=by
 obtain ⟨N',gs',a',w',sl',T'',E'',q',h1,h2,h3,h4,h5,h6,h7⟩:=g
 exact ⟨N+N',gs',a',w',sl',T'',E'',q',runNT_cat hr h1,h2,h3,h4,hE.trans h5,h6,h7⟩
theorem dg_read {H:Nat→Option Nat} {W:Nat→Bool} {S:Addr→Prop} {Cs:Nat→Prop} {w:World} {b:Nat} {es:Array Event} (hS:∀ a,S a→W a.block=false) (hW:W b=true) (hb:b < w.heap.size) (hes:∀ e ∈ es,e=rdE (stZ b)):DG H W S Cs w w es :=
 ⟨Nat.le_refl _,fun _ _=>rfl,fun _ _=>rfl,fun _ _ x _ _ _ h=>⟨x,h⟩,id,fun e he=>evG_atom hS hW hb (.inl (hes e he)),⟨rfl,rfl⟩⟩
theorem Co.loadStep (C:Co P E h dh T gs w q) {a g':Goroutine} {b:Nat} (ha:gs[h]?=some a) (hW:E.W b=true):Co P E h dh (T ++ MemOp.ofEvents h a.frame.fn a.frame.place #[rdE (stZ b)]) ((gs.map (Go.Conc.woken P a g' w)).setIfInBounds h g') w q∧((gs.map (Go.Conc.woken P a g' w)).setIfInBounds h g')[h]?=some g' :=
 C.own ha (dg_read C.S_dis hW (C.groups b hW).lt (fun e he=>by simpa using he))
theorem Co.waitC (C:Co P E h dh T gs w q) {b:Nat} {Fin:Goroutine→World→Prop} {a:Goroutine} {sl:Option (Nat × Nat)} (hW:E.W b=true) (hex:E.ex b=0) (hm:E.mode b=0) (hc:cnt E gs.size b=0) (ha:gs[h]?=some a)
  (hG:GW P (h == 0) E.W E.D (AtW4 P (h == 0) E.W E.D b Fin) a w):WaitEnd P h dh b Fin E gs.size (crowd gs w sl) T:=by
 obtain ⟨N,gs1,a1,w1,sl1,T1,E1,q1,hr1,hs1,ha1,hst1,hE1,C1⟩:=C.walkR (sl:=sl) hG ha
 obtain ⟨hrun,_⟩:=hst1 w1 (Aw.refl _ _)
 obtain ⟨N2,gs2,w2,sl2,w3,sl3,T2,q2,E2,hr2,hst2,hs2,ha2,hA2,hE2,C2⟩:=C1.picked (sl:=sl1) ha1 hrun
 have hEq:=hE1.trans hE2
 have hc2:cnt E2 gs2.size b=0:=by
  have:=cnt_eq_le (n:=gs2.size) (b:=b) hEq.toLe
  rw [hs2,hs1] at this ⊢
  omega
 have hgrp:GroupAt b w3 0 0:=by
  have:=C2.groups b (by rw [hEq.W']; exact hW)
  rw [stv0 (hEq.mode b hm) (by rw [hEq.ex]; exact hex),smv0 (by rw [hEq.mode b hm]; omega),hc2] at this
  simpa using this
 obtain ⟨_,hld⟩:=hst1 w3 (by rw [← hE1.W']; exact hA2)
 obtain ⟨g',hg',hfin⟩:=hld hgrp
 obtain ⟨C3,ha3⟩:=C2.loadStep (g':=g') ha2 (b:=b) (by rw [hEq.W']; exact hW)
 have hr3:=runNT_one (t:=T2) (hst2.trans (runT_crowd_go (sl:=sl3) ha2 hg'))
 obtain ⟨N4,gs4,a4,w4,sl4,T4,E4,q4,hr4,hs4,ha4,hst4,hE4,C4⟩:=C3.walkR (sl:=sl3) (Stop:=Fin) (by rw [hEq.W',hEq.D]; exact hfin) ha3
 have hsz:gs4.size=gs.size:=by rw [hs4]; simp [hs2,hs1]
 refine ⟨_,gs4,a4,w4,sl4,T4,E4,q4,runNT_cat hr1 (runNT_cat hr2 (runNT_cat hr3 hr4)),hsz,ha4,hst4 _ (Aw.refl _ _),hEq.trans hE4,C4,?_⟩
 have:=cnt_eq_le (n:=gs.size) (b:=b) hE4.toLe
 rw [hs2,hs1] at hc2
 omega
theorem Co.waitB (C:Co P E h dh T gs w q) {b:Nat} {Fin:Goroutine→World→Prop} {a:Goroutine} {sl:Option (Nat × Nat)} (hW:E.W b=true) (hex:E.ex b=0) (hm:1≤E.mode b) (hself:E.wg h≠some b)
  (hnone:∀ x,x≠h→x < gs.size→(E.role x).sits=true→E.wg x≠some b) (ha:gs[h]?=some a) (hG:GW P (h == 0) E.W E.D (AtW3 P (h == 0) E.W E.D b Fin) a w):WaitEnd P h dh b Fin (E.reset b) gs.size (crowd gs w sl) T:=by
 obtain ⟨N,gs1,g,w1,sl1,T1,E1,q1,hr1,hs1,ha1,hst1,hE1,C1⟩:=C.walkR (sl:=sl) hG ha
 obtain ⟨hrun,hoff,_⟩:=hst1 w1 (Aw.refl _ _)
 have hkey:=runs_until (P:=P)
  (Inv:=fun μ m t=>(∃ gs₂ g' w₂ sl₂ q₂ E₂,m=crowd gs₂ w₂ sl₂∧gs₂.size=gs.size∧gs₂[h]?=some g'∧GW P (h == 0) E.W E.D (AtW4 P (h == 0) E.W E.D b Fin) g' w₂∧(E.reset b).Eq h E₂∧Co P E₂ h dh t gs₂ w₂ q₂∧cnt E₂ gs.size b=0) ∨
   ∃ gs₁ w₁ sl₁ q₁ E₁,∃ fl:Bool,m=crowd gs₁ w₁ sl₁∧gs₁.size=gs.size∧gs₁[h]?=some (if fl then { g with status:=.blocked } else g)∧Aw E.W w1 w₁∧E.Eq h E₁∧Co P E₁ h dh t gs₁ w₁ q₁∧(fl=true→E₁.mode b≤3)∧μ=2 * sumTo gs₁.size q₁+(if fl then 0 else 1))
  (Done:=fun m t=>∃ gs₂ g' w₂ sl₂ q₂ E₂,m=crowd gs₂ w₂ sl₂∧gs₂.size=gs.size∧gs₂[h]?=some g'∧GW P (h == 0) E.W E.D (AtW4 P (h == 0) E.W E.D b Fin) g' w₂∧(E.reset b).Eq h E₂∧Co P E₂ h dh t gs₂ w₂ q₂∧cnt E₂ gs.size b=0)
  (fun μ m t hInv=>by
   rcases hInv with hdone | ⟨gs₁,w₀,sl₁,q₁,E₁,fl,rfl,hsz,hag,hA0,hEq,C₀,hfl,hμ⟩
   ·exact .inl hdone
   refine .inr ?_
   have hm1:1≤E₁.mode b:=Nat.le_trans hm (hEq.modeUp b)
   have hW1:E₁.W b=true:=by rw [hEq.W']; exact hW
   have hex1:E₁.ex b=0:=by rw [hEq.ex]; exact hex
   obtain ⟨hm4,hmc1,hmc2⟩:=C₀.modes b hW1
   have hsome:∃ (i:Nat) (g:Goroutine),gs₁[i]?=some g∧g.status=.running:=by
    cases fl with
    | false=>exact ⟨h,g,hag,hrun⟩
    | true =>
      have h3:=hfl rfl
      by_cases h1:E₁.mode b=1
      ·have hc:=hmc1 h1
       obtain ⟨i,gi,_,hgi,hst⟩:=C₀.counted (b:=b) (by rw [hEq.wgH]; exact hself) (fun x hx hl hs=>by
        rw [hEq.sits x] at hs
        rw [hEq.wgS x hs]; exact hnone x hx (by omega) hs) (by omega)
       exact ⟨i,gi,hgi,hst⟩
      ·obtain ⟨i,f,hih,hil,hri⟩:=C₀.lastEx b hW1 (by omega)
       have hid:=C₀.idle i _ hih (Array.getElem?_eq_getElem hil)
       unfold Idle at hid
       rw [hri] at hid
       exact ⟨i,_,Array.getElem?_eq_getElem hil,hid.2.1.status⟩
   obtain ⟨i,gi,d,sl',hi,hg,hst⟩:=crowd_pick (P:=P) (w:=w₀) (sl:=sl₁) (C₀.awake hag (by cases fl <;> simp [hrun])) hsome
   have C₁:=C₀.drew d
   generalize hw₁:w₀.at d=w₁ at hst C₁
   have hA:Aw E.W w1 w₁:=hA0.trans _ _ _ (by rw [← hw₁]; exact Aw.draw _ _ d)
   have hgrp:=C₁.groups b hW1
   by_cases e:i=h
   ·subst e
    cases fl with
    | true=>rw [hag] at hi; obtain rfl:=Option.some.inj hi; cases hg
    | false =>
      obtain rfl:gi=g:=by rw [hag] at hi; exact (Option.some.inj hi).symm
      obtain ⟨_,_,hblk,hacq⟩:=hst1 w₁ hA
      by_cases h4:E₁.mode b=4
      ·
       have hz:=hmc2 (by omega)
       have hg01:GroupAt b w₁ 0 1:=by
        have e1:stv E₁ gs₁.size b=0:=by unfold stv; rw [hz,h4]; simp
        have e2:smv E₁ b=1:=by unfold smv; rw [h4]; rfl
        rw [e1,e2] at hgrp
        exact hgrp
       obtain ⟨g',hstep,hG4⟩:=hacq hg01
       have hAw:=aw_set hg01 hW1 (.int .u32 0) (.inr ⟨rfl,_,rfl⟩)
       have hpast:=PastZ.sem (fn:=gi.frame.fn) (pos:=gi.frame.place) C₁.past (stz_dis C₁) ⟨smZ b,rfl,hW1,Nat.le_succ 1⟩ hg01.lt
       have hcnt0:cnt E₁ gs₁.size b=0:=by omega
       have e1:stv { E₁ with mode:=upd E₁.mode b 0 } gs₁.size b=0:=by
        have:cnt { E₁ with mode:=upd E₁.mode b 0 } gs₁.size b=0:=hcnt0
        unfold stv
        simp only [this,upd_same,hex1]
        simp
       have e2:smv { E₁ with mode:=upd E₁.mode b 0 } b=0:=by unfold smv; simp only [upd_same]; rfl
       obtain ⟨C',ha'⟩:=C₁.words (a':=g') (m':=0) hi hW1 ⟨by omega,by omega⟩ ⟨by omega,by omega⟩ ofE_g hAw (fun c hc=>heap_setCell_ne (by exact fun z=>hc z.symm)) (by
        rw [e1,e2]
        obtain ⟨x,ty,hx⟩:=hg01
        exact ⟨x,ty,heap_setCell_sem hx 0⟩) ⟨by omega,fun z=>by omega,fun z=>by omega⟩ hpast
       refine ⟨_,_,0,by rw [hst]; exact runT_crowd_go (sl:=sl') hi hstep,by rw [hμ]; simp,.inl ⟨_,g',_,sl',q₁,_,rfl,by simpa using hsz,ha',hG4,?_,C',?_⟩⟩
       ·have:=reset_eq hEq b
        exact this
       ·rw [← hsz]; exact hcnt0
      ·
       have hstep:=hblk ⟨stv E₁ gs₁.size b,by
        have e2:smv E₁ b=0:=smv0 h4
        rw [e2] at hgrp
        exact hgrp⟩
       obtain ⟨C',ha'⟩:=C₁.own (a':={ gi with status:=.blocked }) hi (DG.idle ..)
       refine ⟨_,_,2 * sumTo gs₁.size q₁+0,by rw [hst]; exact runT_crowd_go (sl:=sl') hi hstep,by rw [hμ]; simp,.inr ⟨_,w₁,sl',q₁,E₁,true,rfl,by simpa using hsz,ha',hA,hEq,C',fun _=>by omega,by simp⟩⟩
   ·obtain ⟨gs',ops,w',E',q',hr,hsz',hh',_,_,hAw,hLe,C',hlt,_,hmd,h34,hW',hSt,hH⟩:=C₁.by_step (sl:=sl') hi e hg (fun c home g₂ _ _ gh hgh=>by
     rw [hag] at hgh; obtain rfl:=Option.some.inj hgh
     cases fl with
     | false=>exact offers_running hrun c
     | true=>exact offers_none hoff c true)
    have hEq':E.Eq h E':=hEq.trans ⟨hLe,hW',hSt,hH⟩
    have hA':Aw E.W w1 w':=hA.trans _ _ _ (by rw [← hEq.W']; exact hAw)
    have hcase:(fl=true∧gs'[h]?=gs₁[h]?∧E'.mode b≤3)∨gs'[h]?=some g:=by
     cases fl with
     | false =>
       right
       rcases hh' with z | z
       ·rw [z,hag]; rfl
       ·rw [z,hag,Option.map_some,if_neg (by simp),again_of_running (.inl hrun)]
     | true =>
       have hag':gs₁[h]?=some { g with status:=.blocked }:=hag
       by_cases h4:E'.mode b≤3
       ·rcases hh' with z | z
        ·exact .inl ⟨rfl,z,h4⟩
        ·right; rw [z,hag',Option.map_some,again_sem hrun hoff]
       ·right
        have h3:=hfl rfl
        have hx:E₁.mode b=3∧E'.mode b=4:=by
         rcases hmd b with z | ⟨_,z⟩ <;> omega
        rw [h34 ⟨b,hx⟩,hag',Option.map_some,again_sem hrun hoff]
    rcases hcase with ⟨rfl,z1,z2⟩ | z
    ·refine ⟨_,_,2 * sumTo gs'.size q'+0,by rw [hst]; exact hr,by rw [hμ,hsz']; simp; omega,.inr ⟨gs',w',sl',q',E',true,rfl,hsz'.trans hsz,by rw [z1]; exact hag,hA',hEq',C',fun _=>z2,by simp⟩⟩
    ·refine ⟨_,_,2 * sumTo gs'.size q'+1,by rw [hst]; exact hr,by rw [hμ,hsz']; split <;> omega,.inr ⟨gs',w',sl',q',E',false,rfl,hsz'.trans hsz,by rw [z]; rfl,hA',hEq',C',(fun hx=>by cases hx),by simp⟩⟩)
  _ (crowd gs1 w1 sl1) T1 (.inr ⟨gs1,w1,sl1,q1,E1,false,rfl,hs1,ha1,Aw.refl _ _,hE1,C1,(fun hx=>by cases hx),rfl⟩)
 obtain ⟨N2,m2,T2,hr2,gs₂,g',w₂,sl₂,q₂,E₂,rfl,hsz2,hag2,hG2,hEq2,C2,hc2⟩:=hkey
 have h0:(E.reset b).mode b=0:=upd_same ..
 have hend:=C2.waitC (sl:=sl₂) (Fin:=Fin) (b:=b) (by rw [hEq2.W']; exact hW) (by rw [hEq2.ex]; exact hex) (hEq2.mode b h0) (by rw [hsz2]; exact hc2) hag2 (by rw [hEq2.W',hEq2.D]; exact hG2)
 rw [hsz2] at hend
 have hend':=hend.more hr2 hEq2
 obtain ⟨N',gs',a',w',sl',T'',E'',q',f1,f2,f3,f4,f5,f6,f7⟩:=hend'
 exact ⟨N+N',gs',a',w',sl',T'',E'',q',runNT_cat hr1 f1,f2,f3,f4,f5,f6,f7⟩
end
end Go.Proofs.Ytimlbbleblijnaa.Co
