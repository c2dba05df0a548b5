/- Lemmas for the laws of this seat, laid together of PGk, PGl, PGm. -/
import Derived.Test.YtimlbbleblijnaaX03

set_option linter.unusedVariables false
set_option linter.unusedSimpArgs false
set_option maxRecDepth 100000
set_option maxHeartbeats 4000000
namespace Go.Proofs.Ytimlbbleblijnaa.Co
open Go.Conc
open Go.ConcN (sumTo upd sumTo_upd upd_ne upd_same sumTo_congr le_sumTo)
section
variable {P:Program} {E:Env} {h dh:Nat} {T:Trace} {gs:Array Goroutine} {w:World} {q:Nat→Nat}
theorem stz_dis (C:Co P E h dh T gs w q):∀ g l,StZ E g l→¬ ShZ E.W l:=fun g l ⟨a,e,hs⟩ ⟨a',e',hw,_⟩=>by
 rw [e] at e'; cases e'
 rw [C.dis g a hs] at hw; cases hw
theorem GroupAt.lt {b:Nat} {w:World} {st sm:Int} (h:GroupAt b w st sm):b < w.heap.size:=by
 obtain ⟨x,e,h⟩:=h
 exact (Array.getElem?_eq_some_iff.1 h).1
theorem Co.past_atom (C:Co P E h dh T gs w q) {i b:Nat} {fn:FuncId} {pos:String} {es:Array Event} (hih:i≠h) (hs:(E.role i).sits=false) (hW:E.W b=true) (hes:∀ e ∈ es,e=rdE (stZ b)∨e=wrE (stZ b)) (hd:0 < Deaf T i) :
  PastZ (ShZ E.W) (StZ E) (MemZ E h gs.size) (LooseZ E h gs.size) w.heap.size h dh (T ++ MemOp.ofEvents i fn pos es)∧Deaf (T ++ MemOp.ofEvents i fn pos es) i=Deaf T i:=by
 have hq:∀ e ∈ es,e.loc≠.mark .disable∧e.loc≠.mark .enable:=fun e he=>by rcases hes e he with rfl | rfl <;> exact ⟨by simp [rdE,wrE],by simp [rdE,wrE]⟩
 refine ⟨C.past.appAtom (stz_dis C) hih (C.memNot hih hs) ofE_g (fun op hop x hx=>?_) (fun j hj=>?_) (fun op hop=>?_),by rw [Deaf_own]; exact deafBehind_still hq _⟩
 ·obtain ⟨e,he,rfl⟩:=Go.Conc.mem_ofEvents hop
  rcases hes e he with rfl | rfl <;> (simp only [rdE,wrE,MemAct.ofEvent,MemAct.touch?,Option.some.injEq] at hx; subst hx; exact ⟨⟨stZ b,rfl,hW,Nat.le_refl _⟩,rfl⟩)
 ·rw [ofEvents_eq,Array.size_map] at hj
  have:=Go.Conc.deaf_inside T i fn pos es j (Nat.le_of_lt hj)
  rw [this,deafBehind_still (fun e he=>hq e (by
   obtain ⟨m,hm1,hm2⟩:=Array.mem_iff_getElem.1 he
   rw [← hm2]
   simp only [Array.getElem_extract]
   exact Array.getElem_mem _))]
  exact hd
 ·obtain ⟨e,he,rfl⟩:=Go.Conc.mem_ofEvents hop
  rcases hes e he with rfl | rfl <;> exact (C.groups b hW).lt
theorem Co.step_words (C:Co P E h dh T gs w q) {E':Env} {i k b:Nat} {g g':Goroutine} {w':World} {es:Array Event} {sl:Option (Nat × Nat)} (hi:gs[i]?=some g) (hih:i≠h) (hpos:0 < i) (hq:q i=k+1) (hs:(E.role i).sits=false) (hs':(E'.role i).sits=false)
  (hA:Aw E.W w w') (hst:stepG P false g w=.go g' w' es) (hp:PastZ (ShZ E.W) (StZ E) (MemZ E h gs.size) (LooseZ E h gs.size) w.heap.size h dh (T ++ MemOp.ofEvents i g.frame.fn g.frame.place es))
  (hr:∀ x,x≠i→E'.role x=E.role x) (hS:E'.St=E.St) (hwg:∀ x,x≠i→E'.wg x=E.wg x) (hW:E'.W=E.W) (hH:E'.H=E.H) (hex:E'.ex=E.ex) (hwgi:E'.wg i=none) (hmo:∀ c,c≠b→E'.mode c=E.mode c) (hWb:E.W b=true) (hlx:(E'.mode b=2∨E'.mode b=3)→∃ f,E'.role i=.last b f) (hri:∀ c f,c≠b→E.role i≠.last c f) (hng:E.role i≠.gone)
  (hown:∀ x f,x≠i→x≠h→x < gs.size→E.role x≠.last b f)
  (hid:Idle P E' (T ++ MemOp.ofEvents i g.frame.fn g.frame.place es) i k g') (hgroups:∀ b,E.W b=true→GroupAt b w' (stv E' gs.size b) (smv E' b))
  (hmodes:∀ b,E.W b=true→E'.mode b≤4∧(E'.mode b=1→1≤cnt E' gs.size b+E.ex b)∧(2≤E'.mode b→cnt E' gs.size b+E.ex b=0))
  (hone:∀ c f,E'.role i=.last c f→c=b) (hm1:E'.mode b=E.mode b∨(1≤E.mode b∧E'.mode b=E.mode b+1))
  (hm4:E.mode b=3→E'.mode b=4→mayWake P g=true∧g'.status≠.blocked∧g'.status≠.waiting) (hio:E'.io=E.io:=by rfl):After1 P E h dh T gs w q sl i g:=by
 have hlt:i < gs.size:=(Array.getElem?_eq_some_iff.1 hi).1
 have hi0:(i == 0)=false:=by simp; omega
 have hseat:∀ x c home,E.role x=.seat c home ↔ E'.role x=.seat c home:=fun x c home=>by
  by_cases e:x=i
  ·subst e
   constructor
   ·intro e; rw [e] at hs; cases hs
   ·intro e; rw [e] at hs'; cases hs'
  ·rw [hr x e]
 obtain ⟨gs',h1,h2,h3,h4,h5,h6⟩:=own_step (sl:=sl) C hi hih (by rw [hi0]; exact hst) hA
 refine ⟨gs',_,w',E',upd q i k,h1,h2,h3,h4,fun x hx=>upd_ne q k hx,hA,⟨hseat,fun x e=>by rw [hr x fun ex=>hng (ex ▸ e)]; exact e,hr h (Ne.symm hih),fun x a v e=>by rw [hS]; exact e,fun c e=>by rw [hW]; exact e,fun c n e=>by rw [hH]; exact e,fun x c e=>?_,hwg h (Ne.symm hih),fun x e=>?_,hex,fun c e=>?_,fun c=>?_,hio⟩,?_,sum_less hlt hq,fun c home e=>(by rw [e] at hs; cases hs),fun c=>?_,fun ⟨c,e1,e2⟩=>?_,hW,hS,hH⟩
 ·by_cases ex:x=i
  ·subst ex; rw [hwgi] at e; cases e
  ·rw [← hwg x ex]; exact e
 ·by_cases ex:x=i
  ·subst ex; rw [hs] at e; cases e
  ·exact hwg x ex
 ·by_cases ec:c=b
  ·subst ec
   rcases hm1 with z | ⟨z,_⟩
   ·rw [z]; exact e
   ·omega
  ·rw [hmo c ec]; exact e
 ·by_cases ec:c=b
  ·subst ec
   rcases hm1 with z | ⟨_,z⟩ <;> omega
  ·rw [hmo c ec]; exact Nat.le_refl _
 ·exact C.put hih hlt h2 h4 h5 ofE_g hA hr hS hwg hW hH hex (fun x c f hx hxh hxl e=>hmo c (fun ec=>hown x f hx hxh hxl (ec ▸ e))) (.inr ⟨hs',hs⟩) (.inr hwgi) hid hgroups hmodes (fun c hc hx=>by
   by_cases ec:c=b
   ·subst ec; obtain ⟨f,hf⟩:=hlx hx; exact ⟨i,f,hih,hlt,hf⟩
   ·rw [hmo c ec] at hx
    obtain ⟨x,f,hx1,hx2,hx3⟩:=C.lastEx c hc hx
    have hxi:x≠i:=fun e=>by rw [e] at hx3; exact hri c f ec hx3
    exact ⟨x,f,hx1,hx2,by rw [hr x hxi]; exact hx3⟩) (fun c hc=>hmo c fun e=>by rw [e,hWb] at hc; cases hc)
   (fun c f e x f' hx hxh hxl=>by rw [hone c f e]; exact hown x f' hx hxh hxl) hp hio
 ·by_cases ec:c=b
  ·subst ec; exact hm1
  ·exact .inl (hmo c ec)
 ·by_cases ec:c=b
  ·subst ec
   obtain ⟨z1,z2,z3⟩:=hm4 e1 e2
   exact h6 z1 z2 z3
  ·rw [hmo c ec,e1] at e2; cases e2
theorem Co.step_ender (C:Co P E h dh T gs w q) {i b:Nat} {g:Goroutine} {sl:Option (Nat × Nat)} (hi:gs[i]?=some g) (hih:i≠h) (hr:E.role i=.ender b):After1 P E h dh T gs w q sl i g:=by
 have hlt:i < gs.size:=(Array.getElem?_eq_some_iff.1 hi).1
 have hid:=C.idle i g hih hi
 unfold Idle at hid
 rw [hr] at hid
 obtain ⟨hpos,hq,hwg⟩:=hid
 have hsit:(E.role i).sits=false:=by rw [hr]; rfl
 have hW:=C.wgW i b hlt hwg
 have hcnt:=C.cnt_pos hlt hwg
 have hfew:=C.few b hW
 obtain ⟨hm4,hm1,hm2⟩:=C.modes b hW
 have hmode:E.mode b=0∨E.mode b=1:=by
  rcases Nat.lt_or_ge (E.mode b) 2 with z | z
  ·omega
  ·have:=hm2 z; omega
 obtain ⟨wt,hwt,hwt1⟩:∃ wt:Nat,wt=(if E.mode b=1 then 1 else 0)∧wt≤1:=⟨_,rfl,by split <;> omega⟩
 obtain ⟨v,hv⟩:∃ v,cnt E gs.size b+E.ex b=v+1:=⟨cnt E gs.size b+E.ex b - 1,by omega⟩
 have hgrp:GroupAt b w (((v:Int)+1) * KK+wt) 0:=by
  have:=C.groups b hW
  unfold stv smv at this
  rw [hv] at this
  rcases hmode with z | z <;> (rw [z] at this hwt; subst hwt; simpa using this)
 cases hqi:q i with
 | zero=>rw [hqi] at hq; exact hq.elim
 | succ k =>
   rw [hqi] at hq
   obtain ⟨g',w',es,hst,hcase⟩:=hq.2 w v wt (by omega) hwt1 hgrp
   have hidle:∀ (u:Trace) (g':Goroutine),Ends P b k (Deaf u i) g'→Idle P E u i k g':=fun u g' hx=>by unfold Idle; rw [hr]; exact ⟨hpos,hx,hwg⟩
   have hmark:∀ m:Mark,(m=.releaseMerge (stZ b)∨m=.disable)→PastZ (ShZ E.W) (StZ E) (MemZ E h gs.size) (LooseZ E h gs.size) w.heap.size h dh (T ++ MemOp.ofEvents i g.frame.fn g.frame.place #[mkE m]):=fun m hm=>by
    refine C.past.appMute hih ofE_g (fun op hop=>?_) (fun hM=>absurd hM (C.memNot hih hsit)) (fun op hop=>?_)
    all_goals
     obtain ⟨e,he,rfl⟩:=Go.Conc.mem_ofEvents hop
     simp only [List.mem_toArray,List.mem_cons,List.not_mem_nil,or_false] at he
     subst he
    ·rcases hm with rfl | rfl <;> rfl
    ·rcases hm with rfl | rfl
     ·exact hgrp.lt
     ·trivial
   rcases hcase with ⟨rfl,rfl,hx⟩ | ⟨rfl,hd,rfl,hx⟩ | ⟨rfl,hd,rfl,hx⟩ | ⟨hd,rfl,rfl,hx1,hx2⟩
   ·refine C.step_still hi hih hsit hpos hqi hst ?_ (hidle _ _ (by rw [Deaf_own]; exact hx))
    exact C.past.appMute hih ofE_g (fun op hop=>by obtain ⟨e,he,rfl⟩:=Go.Conc.mem_ofEvents hop; simp at he) (fun hM=>absurd hM (C.memNot hih hsit)) (fun op hop=>by obtain ⟨e,he,rfl⟩:=Go.Conc.mem_ofEvents hop; simp at he)
   ·refine C.step_still hi hih hsit hpos hqi hst (hmark _ (.inl rfl)) (hidle _ _ ?_)
    rw [Deaf_own,hd]; exact hx
   ·refine C.step_still hi hih hsit hpos hqi hst (hmark _ (.inr rfl)) (hidle _ _ ?_)
    rw [Deaf_own,hd]; exact hx
   ·have hnolast:∀ x f,x≠i→x≠h→x < gs.size→E.role x≠.last b f:=fun x f hx hxh hxl e=>by
     have:=C.idle x _ hxh (Array.getElem?_eq_getElem hxl)
     unfold Idle at this
     rw [e] at this
     have:=this.2.2.2.2.1
     cases f <;> simp at this <;> omega
    obtain ⟨hpast,hdf⟩:=C.past_atom (i:=i) (b:=b) (fn:=g.frame.fn) (pos:=g.frame.place) (es:=#[rdE (stZ b),wrE (stZ b)]) hih hsit hW (fun e he=>by simpa using he) (by omega)
    have hA:Aw E.W w (w.setCell (stZ b) (.int .u64 ((v:Int) * KK+wt))):=aw_set hgrp hW _ (.inl ⟨rfl,_,rfl⟩)
    by_cases hlast:v=0∧wt=1
    ·have hmb:E.mode b=1:=by
      rcases hmode with z | z
      ·rw [z] at hwt; simp at hwt; omega
      ·exact z
     refine C.step_words (b:=b) (E':={ E with role:=upd E.role i (.last b false),wg:=upd E.wg i none,mode:=upd E.mode b 2 }) hi hih hpos hqi hsit (by simp [upd_same,Role.sits]) hA hst hpast (fun x hx=>upd_ne _ _ hx) rfl (fun x hx=>upd_ne _ _ hx) rfl rfl rfl (upd_same ..) (fun c hc=>upd_ne _ _ hc) hW (fun _=>⟨false,upd_same ..⟩) (fun c f _ e=>by rw [hr] at e; cases e) (fun e=>by rw [hr] at e; cases e) hnolast ?_ (fun c hc=>?_) (fun c hc=>?_) (fun c f e=>?_) (.inr ⟨by omega,by rw [hmb]; exact upd_same ..⟩) (fun e=>by omega)
     ·unfold Idle
      simp only [upd_same]
      exact ⟨hpos,hx1 hlast,by rw [hdf,hd],hW,by simp,trivial⟩
     ·by_cases ec:c=b
      ·subst ec
       obtain ⟨x,e,hx⟩:=hgrp
       have hcd:=cnt_drop (E:=E) (E':={ E with role:=upd E.role i (.last c false),wg:=upd E.wg i none,mode:=upd E.mode c 2 }) hlt (fun x hx=>upd_ne _ _ hx) hwg (upd_same ..)
       refine ⟨x,e,?_⟩
       have e1:stv { E with role:=upd E.role i (.last c false),wg:=upd E.wg i none,mode:=upd E.mode c 2 } gs.size c=(v:Int) * KK+wt:=by
        unfold stv
        simp only [upd_same]
        have:cnt { E with role:=upd E.role i (.last c false),wg:=upd E.wg i none,mode:=upd E.mode c 2 } gs.size c+E.ex c=v:=by omega
        rw [this,hlast.2]
        simp
       have e2:smv { E with role:=upd E.role i (.last c false),wg:=upd E.wg i none,mode:=upd E.mode c 2 } c=0:=by
        unfold smv
        simp only [upd_same]
        rfl
       rw [e1,e2]
       exact heap_setCell_run hx _
      ·have e1:stv { E with role:=upd E.role i (.last b false),wg:=upd E.wg i none,mode:=upd E.mode b 2 } gs.size c=stv E gs.size c:=by
        unfold stv
        simp only [upd_ne _ _ ec]
        rw [cnt_drop_ne (E:=E) (fun x hx=>upd_ne _ _ hx) hwg (upd_same ..) ec]
       have e2:smv { E with role:=upd E.role i (.last b false),wg:=upd E.wg i none,mode:=upd E.mode b 2 } c=smv E c:=by
        unfold smv
        simp only [upd_ne _ _ ec]
       rw [e1,e2]
       exact (C.groups c hc).same (heap_setCell_ne (by exact fun z=>ec z.symm))
     ·by_cases ec:c=b
      ·subst ec
       have hcd:=cnt_drop (E:=E) (E':={ E with role:=upd E.role i (.last c false),wg:=upd E.wg i none,mode:=upd E.mode c 2 }) hlt (fun x hx=>upd_ne _ _ hx) hwg (upd_same ..)
       simp only [upd_same]
       omega
      ·simp only [upd_ne _ _ ec]
       rw [cnt_drop_ne (E:=E) (fun x hx=>upd_ne _ _ hx) hwg (upd_same ..) ec]
       exact C.modes c hc
     ·simp only [upd_same] at e
      injection e with e
      exact e.symm
    ·refine C.step_words (b:=b) (E':={ E with role:=upd E.role i .gone,wg:=upd E.wg i none }) hi hih hpos hqi hsit (by simp [upd_same,Role.sits]) hA hst hpast (fun x hx=>upd_ne _ _ hx) rfl (fun x hx=>upd_ne _ _ hx) rfl rfl rfl (upd_same ..) (fun c hc=>rfl) hW (fun e=>by simp only at e; omega) (fun c f _ e=>by rw [hr] at e; cases e) (fun e=>by rw [hr] at e; cases e) hnolast ?_ (fun c hc=>?_) (fun c hc=>?_) (fun c f e=>?_) (.inl rfl) (fun e=>by omega)
     ·unfold Idle
      simp only [upd_same]
      exact ⟨hpos,by rw [hdf,hd]; exact hx2 hlast,trivial⟩
     ·by_cases ec:c=b
      ·subst ec
       obtain ⟨x,e,hx⟩:=hgrp
       have hcd:=cnt_drop (E:=E) (E':={ E with role:=upd E.role i .gone,wg:=upd E.wg i none }) hlt (fun x hx=>upd_ne _ _ hx) hwg (upd_same ..)
       refine ⟨x,e,?_⟩
       have e1:stv { E with role:=upd E.role i .gone,wg:=upd E.wg i none } gs.size c=(v:Int) * KK+wt:=by
        unfold stv
        have:cnt { E with role:=upd E.role i .gone,wg:=upd E.wg i none } gs.size c+E.ex c=v:=by omega
        simp only [this]
        rcases hmode with z | z <;> (rw [z] at hwt; subst hwt; simp [z])
       have e2:smv { E with role:=upd E.role i .gone,wg:=upd E.wg i none } c=0:=by
        unfold smv
        rcases hmode with z | z <;> simp [z]
       rw [e1,e2]
       exact heap_setCell_run hx _
      ·have e1:stv { E with role:=upd E.role i .gone,wg:=upd E.wg i none } gs.size c=stv E gs.size c:=by
        unfold stv
        rw [cnt_drop_ne (E:=E) (fun x hx=>upd_ne _ _ hx) hwg (upd_same ..) ec]
       rw [e1]
       exact (C.groups c hc).same (heap_setCell_ne (by exact fun z=>ec z.symm))
     ·by_cases ec:c=b
      ·subst ec
       have hcd:=cnt_drop (E:=E) (E':={ E with role:=upd E.role i .gone,wg:=upd E.wg i none }) hlt (fun x hx=>upd_ne _ _ hx) hwg (upd_same ..)
       simp only
       refine ⟨hm4,fun e1=>?_,fun e2=>by omega⟩
       rw [e1] at hwt
       simp at hwt
       omega
      ·simp only
       rw [cnt_drop_ne (E:=E) (fun x hx=>upd_ne _ _ hx) hwg (upd_same ..) ec]
       exact C.modes c hc
     ·simp only [upd_same] at e
      cases e
theorem Co.step_last (C:Co P E h dh T gs w q) {i b:Nat} {f:Bool} {g:Goroutine} {sl:Option (Nat × Nat)} (hi:gs[i]?=some g) (hih:i≠h) (hr:E.role i=.last b f):After1 P E h dh T gs w q sl i g:=by
 have hlt:i < gs.size:=(Array.getElem?_eq_some_iff.1 hi).1
 have hid:=C.idle i g hih hi
 unfold Idle at hid
 rw [hr] at hid
 obtain ⟨hpos,hq,hd,hW,hmo,hwg⟩:=hid
 have hsit:(E.role i).sits=false:=by rw [hr]; rfl
 obtain ⟨hm4,hm1,hm2⟩:=C.modes b hW
 have hz:cnt E gs.size b+E.ex b=0:=hm2 (by rw [hmo]; cases f <;> simp)
 have hgrp:=C.groups b hW
 have hst0:stv E gs.size b=if f then 0 else 1:=by
  unfold stv
  rw [hz,hmo]
  cases f <;> simp
 have hsm0:smv E b=0:=by
  unfold smv
  rw [hmo]
  cases f <;> simp
 rw [hst0,hsm0] at hgrp
 have hnolast:∀ x f',x≠i→x≠h→x < gs.size→E.role x≠.last b f':=fun x f' hx hxh hxl e=>hx (C.one x i b f' f hxh hih hxl hlt e hr)
 have hidle:∀ (u:Trace) (g':Goroutine) (k:Nat),Lasts P b k f g'→Deaf u i=1→Idle P E u i k g':=fun u g' k hx hd=>by unfold Idle; rw [hr]; exact ⟨hpos,hx,hd,hW,hmo,hwg⟩
 have hnil:PastZ (ShZ E.W) (StZ E) (MemZ E h gs.size) (LooseZ E h gs.size) w.heap.size h dh (T ++ MemOp.ofEvents i g.frame.fn g.frame.place #[]) :=
  C.past.appMute hih ofE_g (fun op hop=>by obtain ⟨e,he,rfl⟩:=Go.Conc.mem_ofEvents hop; simp at he) (fun hM=>absurd hM (C.memNot hih hsit)) (fun op hop=>by obtain ⟨e,he,rfl⟩:=Go.Conc.mem_ofEvents hop; simp at he)
 have hnd:Deaf (T ++ MemOp.ofEvents i g.frame.fn g.frame.place #[]) i=1:=by rw [Deaf_own]; exact hd
 have htab:∀ (r:Role) (m:Nat) (st sm:Int) (w':World),(∀ c home,r≠.seat c home)→2 < m→m≤4→GroupAt b w' st sm→st=0→sm=(if m=4 then 1 else 0)→(∀ c,c≠b→w'.heap[c]?=w.heap[c]?) →
   (∀ c,E.W c=true→GroupAt c w' (stv { E with role:=upd E.role i r,mode:=upd E.mode b m } gs.size c) (smv { E with role:=upd E.role i r,mode:=upd E.mode b m } c)) ∧
   (∀ c,E.W c=true→(upd E.mode b m) c≤4∧((upd E.mode b m) c=1→1≤cnt E gs.size c+E.ex c)∧(2≤(upd E.mode b m) c→cnt E gs.size c+E.ex c=0)):=by
  intro r m st sm w' _ h2m hm4' hg hst hsm hother
  refine ⟨fun c hc=>?_,fun c hc=>?_⟩
  ·by_cases ec:c=b
   ·subst ec
    have e1:stv { E with role:=upd E.role i r,mode:=upd E.mode c m } gs.size c=0:=by
     unfold stv
     simp only [upd_same]
     have:cnt { E with role:=upd E.role i r,mode:=upd E.mode c m } gs.size c+E.ex c=0:=hz
     rw [this,if_neg (by omega)]
     simp
    have e2:smv { E with role:=upd E.role i r,mode:=upd E.mode c m } c=(if m=4 then 1 else 0):=by
     unfold smv
     simp only [upd_same]
    rw [e1,e2]
    rw [hst,hsm] at hg
    exact hg
   ·have e1:stv { E with role:=upd E.role i r,mode:=upd E.mode b m } gs.size c=stv E gs.size c:=by
     unfold stv
     simp only [upd_ne _ _ ec]
     rfl
    have e2:smv { E with role:=upd E.role i r,mode:=upd E.mode b m } c=smv E c:=by
     unfold smv
     simp only [upd_ne _ _ ec]
    rw [e1,e2]
    exact (C.groups c hc).same (hother c ec)
  ·by_cases ec:c=b
   ·subst ec
    rw [upd_same]
    exact ⟨hm4',fun e=>by omega,fun _=>hz⟩
   ·rw [upd_ne _ _ ec]; exact C.modes c hc
 cases hqi:q i with
 | zero=>rw [hqi] at hq; exact hq.elim
 | succ k =>
   rw [hqi] at hq
   cases f with
   | false =>
     obtain ⟨g',w',es,hst,hcase⟩:=hq.2 w hgrp
     rcases hcase with ⟨rfl,hes,hx⟩ | ⟨rfl,rfl,hx⟩
     ·rcases hes with rfl | rfl
      ·exact C.step_still hi hih hsit hpos hqi hst hnil (hidle _ _ _ hx hnd)
      ·obtain ⟨hpast,hdf⟩:=C.past_atom (i:=i) (b:=b) (fn:=g.frame.fn) (pos:=g.frame.place) (es:=#[rdE (stZ b)]) hih hsit hW (fun e he=>by simp at he; exact .inl he) (by omega)
       exact C.step_still hi hih hsit hpos hqi hst hpast (hidle _ _ _ hx (by rw [hdf]; exact hd))
     ·obtain ⟨hpast,hdf⟩:=C.past_atom (i:=i) (b:=b) (fn:=g.frame.fn) (pos:=g.frame.place) (es:=#[wrE (stZ b)]) hih hsit hW (fun e he=>by simp at he; exact .inr he) (by omega)
      obtain ⟨x,e,hx0⟩:=id hgrp
      obtain ⟨t1,t2⟩:=htab (.last b true) 3 0 0 _ (fun _ _=>by simp) (by omega) (by omega) ⟨x,e,heap_setCell_run hx0 0⟩ rfl rfl (fun c hc=>heap_setCell_ne (by exact fun z=>hc z.symm))
      refine C.step_words (b:=b) (E':={ E with role:=upd E.role i (.last b true),mode:=upd E.mode b 3 }) hi hih hpos hqi hsit (by simp [upd_same,Role.sits]) (aw_set hgrp hW _ (.inl ⟨rfl,_,rfl⟩)) hst hpast (fun x hx=>upd_ne _ _ hx) rfl (fun x hx=>rfl) rfl rfl rfl hwg (fun c hc=>upd_ne _ _ hc) hW (fun _=>⟨true,upd_same ..⟩) (fun c f' ec e=>by rw [hr] at e; injection e with e; exact ec e.symm) (fun e=>by rw [hr] at e; cases e) hnolast ?_ t1 t2 (fun c f e=>?_) (.inr ⟨by rw [hmo]; simp,by rw [hmo]; exact upd_same ..⟩) (fun e=>by rw [hmo] at e; simp at e)
      ·unfold Idle
       simp only [upd_same]
       exact ⟨hpos,hx,by rw [hdf]; exact hd,hW,by simp,hwg⟩
      ·simp only [upd_same] at e
       injection e with e
       exact e.symm
   | true =>
     obtain ⟨g',w',es,hst,hcase⟩:=hq.2 w hgrp
     rcases hcase with ⟨rfl,rfl,hx⟩ | ⟨rfl,rfl,hmw,hx⟩
     ·exact C.step_still hi hih hsit hpos hqi hst hnil (hidle _ _ _ hx hnd)
     ·have hdf:Deaf (T ++ MemOp.ofEvents i g.frame.fn g.frame.place (semEvents (smZ b))) i=1:=by
       rw [Deaf_own,hd]
       rfl
      have hpast:PastZ (ShZ E.W) (StZ E) (MemZ E h gs.size) (LooseZ E h gs.size) w.heap.size h dh (T ++ MemOp.ofEvents i g.frame.fn g.frame.place (semEvents (smZ b))):=by
       refine C.past.appAtom (stz_dis C) hih (C.memNot hih hsit) ofE_g (fun op hop x hx=>?_) (fun j hj=>?_) (fun op hop=>?_)
       ·obtain ⟨e,he,rfl⟩:=Go.Conc.mem_ofEvents hop
        simp only [semEvents,List.mem_toArray,List.mem_cons,List.not_mem_nil,or_false] at he
        rcases he with rfl | rfl | rfl | rfl
        ·simp [MemAct.ofEvent,MemAct.touch?] at hx
        ·simp only [MemAct.ofEvent,MemAct.touch?,Option.some.injEq] at hx
         subst hx
         exact ⟨⟨smZ b,rfl,hW,Nat.le_succ 1⟩,rfl⟩
        ·simp only [MemAct.ofEvent,MemAct.touch?,Option.some.injEq] at hx
         subst hx
         exact ⟨⟨smZ b,rfl,hW,Nat.le_succ 1⟩,rfl⟩
        ·simp [MemAct.ofEvent,MemAct.touch?] at hx
       ·rw [ofEvents_eq,Array.size_map] at hj
        have:=Go.Conc.deaf_inside T i g.frame.fn g.frame.place (semEvents (smZ b)) j (Nat.le_of_lt hj)
        rw [this,hd]
        have hj4:j < 4:=hj
        match j,hj4 with
        | 0,_=>simp [semEvents,deafBehind]
        | 1,_=>simp [semEvents,deafBehind]
        | 2,_=>simp [semEvents,deafBehind]
        | 3,_=>simp [semEvents,deafBehind]
       ·obtain ⟨e,he,rfl⟩:=Go.Conc.mem_ofEvents hop
        simp only [semEvents,List.mem_toArray,List.mem_cons,List.not_mem_nil,or_false] at he
        rcases he with rfl | rfl | rfl | rfl
        ·trivial
        ·exact hgrp.lt
        ·exact hgrp.lt
        ·trivial
      obtain ⟨x,e,hx0⟩:=id hgrp
      obtain ⟨t1,t2⟩:=htab .gone 4 0 1 _ (fun _ _=>by simp) (by omega) (by omega) ⟨x,e,heap_setCell_sem hx0 1⟩ rfl rfl (fun c hc=>heap_setCell_ne (by exact fun z=>hc z.symm))
      refine C.step_words (b:=b) (E':={ E with role:=upd E.role i .gone,mode:=upd E.mode b 4 }) hi hih hpos hqi hsit (by simp [upd_same,Role.sits]) (aw_set hgrp hW _ (.inr ⟨rfl,_,rfl⟩)) hst hpast (fun x hx=>upd_ne _ _ hx) rfl (fun x hx=>rfl) rfl rfl rfl hwg (fun c hc=>upd_ne _ _ hc) hW (fun e=>by simp only [upd_same] at e; omega) (fun c f' ec e=>by rw [hr] at e; injection e with e; exact ec e.symm) (fun e=>by rw [hr] at e; cases e) hnolast ?_ t1 t2 (fun c f e=>?_) (.inr ⟨by rw [hmo]; simp,by rw [hmo]; exact upd_same ..⟩) (fun _ _=>⟨hmw,?_,?_⟩)
      ·unfold Idle
       simp only [upd_same]
       exact ⟨hpos,by rw [hdf]; exact hx,hwg⟩
      ·simp only [upd_same] at e
       cases e
      ·rcases hx.status with z | z <;> rw [z] <;> simp
      ·rcases hx.status with z | z <;> rw [z] <;> simp
theorem Co.by_step (C:Co P E h dh T gs w q) {i:Nat} {g:Goroutine} {sl:Option (Nat × Nat)} (hi:gs[i]?=some g) (hih:i≠h) (hrun:g.status=.running)
  (hO:∀ c home g₂,E.role i=.seat c home→AtSeat P (i == 0) (E.St i) c home g g₂→∀ gh,gs[h]?=some gh→offersAt gh c true=[]):After1 P E h dh T gs w q sl i g:=by
 cases hr:E.role i with
 | seat c home=>exact stepped_seat C hi hih hrun hr (fun g₂=>hO c home g₂ hr)
 | ender b=>exact C.step_ender hi hih hr
 | last b f=>exact C.step_last hi hih hr
 | gone=>exact C.step_gone hi hih hrun hr
end
def Env.S (E:Env) (a:Addr):Prop:=∃ i,(E.St i a).isSome=true
def Env.Cs (E:Env) (c:Nat):Prop:=∃ i home,E.role i=.seat c home
def EvG (S:Addr→Prop) (W:Nat→Bool) (B:Nat) (e:Event):Prop :=
 (∀ t,(MemAct.ofEvent e).touch?=some t→(∀ a,t.loc=.cell a→S a→t.write=false)∧(ShZ W t.loc→t.kind≠.plain))∧e.loc≠.mark .disable∧e.loc≠.mark .enable∧(MemAct.ofEvent e).low B
structure DG (H:Nat→Option Nat) (W:Nat→Bool) (S:Addr→Prop) (Cs:Nat→Prop) (w w':World) (es:Array Event):Prop where
 size:w.heap.size≤w'.heap.size
 still:∀ a,S a→w'.cell? a=w.cell? a
 chans:∀ c,Cs c→w'.heap[c]?=w.heap[c]?
 run:∀ b,W b=true→∀ x st sm e,w.heap[b]?=some (runObj x st sm e)→∃ x',w'.heap[b]?=some (runObj x' st sm e)
 fit:Fit H W w→Fit H W w'
 ev:∀ e ∈ es,EvG S W w'.heap.size e
 io:SameIo w w'
abbrev Env.D (E:Env):=DG E.H E.W E.S E.Cs
theorem DG.idle (H:Nat→Option Nat) (W:Nat→Bool) (S:Addr→Prop) (Cs:Nat→Prop) (w:World):DG H W S Cs w w #[] :=
 ⟨Nat.le_refl _,fun _ _=>rfl,fun _ _=>rfl,fun _ _ x _ _ _ h=>⟨x,h⟩,id,fun e he=>by simp at he,SameIo.refl _⟩
theorem evN_G {H:Nat→Option Nat} {W:Nat→Bool} {S:Addr→Prop} (hS:∀ a,S a→∃ n,H a.block=some n∧n≤a.off) (hW:∀ b,W b=true→H b=some 1) {B:Nat} {e:Event} (h:EvN H B e):EvG S W B e:=by
 obtain ⟨l,wr,sy⟩:=e
 obtain ⟨h1,h2⟩:=h
 unfold EvV at h1
 cases l with
 | cell a =>
   obtain ⟨hb,hv⟩:=h1
   refine ⟨fun t ht=>?_,by simp,by simp,?_⟩
   ·have ht':t=⟨.cell a,wr,if sy then .atomic else .plain⟩:=by
     cases wr <;> cases sy <;> (simp [MemAct.ofEvent,MemAct.touch?] at ht; exact ht.symm)
    subst ht'
    refine ⟨fun a' e hs=>?_,fun ⟨a',e,hw,hlt⟩=>?_⟩
    ·cases e
     obtain ⟨n,h1,h2⟩:=hS a hs
     exact absurd (hv n h1) (by omega)
    ·cases e
     exact absurd (hv 1 (hW _ hw)) (by omega)
   ·cases wr <;> cases sy <;> exact hb
 | obj r =>
   obtain ⟨hb,hv⟩:=h1
   refine ⟨fun t ht=>?_,by simp,by simp,?_⟩
   ·have ht':t.loc=.obj r:=by
     cases wr <;> cases sy <;> (simp [MemAct.ofEvent,MemAct.touch?] at ht; try (rw [← ht]))
    refine ⟨fun a' e=>?_,fun ⟨a',e,_⟩=>?_⟩ <;> (rw [ht'] at e; cases e)
   ·cases wr <;> cases sy <;> first | exact hb | trivial
 | mark m =>
   rcases h1 with rfl | ⟨f,rfl⟩
   ·refine ⟨fun t ht=>?_,by simp,by simp,?_⟩
    ·cases wr <;> cases sy <;> simp [MemAct.ofEvent,MemAct.touch?] at ht
    ·cases wr <;> cases sy <;> trivial
   ·exact absurd rfl (h2 f)
 | _=>exact h1.elim
theorem lets_dg {H:Nat→Option Nat} {W:Nat→Bool} {S:Addr→Prop} {Cs:Nat→Prop} (hS:∀ a,S a→∃ n,H a.block=some n∧n≤a.off) (hC:∀ c,Cs c→H c=some 0) (hW:∀ b,W b=true→H b=some 1):Lets H W (DG H W S Cs):=fun w w' es hf hf' hk hev=>by
 have hb:∀ b n,H b=some n→b < w.heap.size:=fun b n hb=>Nat.lt_of_not_le fun hle=>by
  have:=hf.bound b hle
  rw [hb] at this; cases this
 refine ⟨hk.size,fun a hs=>?_,fun c hc=>?_,fun b hw x st sm e he=>hk.run (hW b hw) he,fun _=>hf',fun e he=>evN_G hS hW (hev e he),⟨hk.os,hk.output⟩⟩
 ·obtain ⟨n,h1,h2⟩:=hS a hs
  rcases hk.same h1 (hb _ _ h1) with ⟨c,c',e,f,k1,k2,k3,k4⟩ | k1
  ·unfold World.cell?
   rw [k1,k2]
   simp only
   split
   ·rfl
   ·exact k4 _ h2
  ·exact cell_same k1
 ·exact (hk.same (hC c hc) (hb _ _ (hC c hc))).zero
theorem runNT_cat {P:Program} {N N':Nat} {m m₁ m₂:Machine} {t t₁ t₂:Trace} (h:runNT P N m t=(.next m₁,t₁)) (hk:runNT P N' m₁ t₁=(.next m₂,t₂)):runNT P (N+N') m t=(.next m₂,t₂):=by
 rw [runNT_add,h]; exact hk
theorem runNT_one {P:Program} {m m₁:Machine} {t:Trace} {ops:Array MemOp} (h:stepT P m=(.next m₁,ops)):runNT P 1 m t=(.next m₁,t ++ ops):=by
 simp [runNT,h]
structure Env.Eq (h:Nat) (E E':Env):Prop extends E.Le h E' where
 W':E'.W=E.W
 St':E'.St=E.St
 H':E'.H=E.H
theorem Env.Eq.refl (h:Nat) (E:Env):E.Eq h E:=⟨.refl h E,rfl,rfl,rfl⟩
theorem Env.Eq.trans {h:Nat} {E E' E'':Env} (a:E.Eq h E') (b:E'.Eq h E''):E.Eq h E'':=⟨a.toLe.trans b.toLe,b.W'.trans a.W',b.St'.trans a.St',b.H'.trans a.H'⟩
theorem Env.Eq.S {h:Nat} {E E':Env} (a:E.Eq h E'):E'.S=E.S:=by unfold Env.S; rw [a.St']
theorem Env.Le.cs {h:Nat} {E E':Env} (a:E.Le h E'):E'.Cs=E.Cs:=by
 funext c
 apply propext
 constructor
 ·rintro ⟨i,home,e⟩; exact ⟨i,home,(a.seat i c home).2 e⟩
 ·rintro ⟨i,home,e⟩; exact ⟨i,home,(a.seat i c home).1 e⟩
theorem Env.Eq.D {h:Nat} {E E':Env} (a:E.Eq h E'):E'.D=E.D:=by unfold Env.D; rw [a.H',a.W',a.S,a.toLe.cs]
section
variable {P:Program} {E:Env} {h dh:Nat} {T:Trace} {gs:Array Goroutine} {w:World} {q:Nat→Nat}
theorem Co.hold (C:Co P E h dh T gs w q) {dh':Nat} {gs':Array Goroutine} {w':World} {ops:Array MemOp} (hsz:gs'.size=gs.size) (hoth:∀ x,x≠h→gs'[x]?=gs[x]?) (hops:∀ op ∈ ops,op.g=h)
  (hsize:w.heap.size≤w'.heap.size) (hstill:∀ a,E.S a→w'.cell? a=w.cell? a) (hch:∀ c,E.Cs c→w'.heap[c]?=w.heap[c]?) (hrun:∀ b,E.W b=true→∀ x st sm e,w.heap[b]?=some (runObj x st sm e)→∃ x',w'.heap[b]?=some (runObj x' st sm e))
  (hfit:Fit E.H E.W w') (hpast:PastZ (ShZ E.W) (StZ E) (MemZ E h gs.size) (LooseZ E h gs.size) w'.heap.size h dh' (T ++ ops)) (hio:SameIo w w'):Co P E h dh' (T ++ ops) gs' w' q:=by
 refine ⟨by rw [hsz]; exact C.lt,fun x y hx hy=>?_,fun x c home hx hl e=>?_,fun x x' c home home' hx hx' hl hl'=>C.inj x x' c home home' hx hx' (hsz ▸ hl) (hsz ▸ hl'),fun j hj=>?_,fun x a v e=>?_,C.dis,hfit,C.hidS,C.hidC,by rw [hsz]; exact hpast,fun x b hl=>C.wgW x b (hsz ▸ hl),by rw [hsz]; exact C.fresh,fun b hb=>?_,by rw [hsz]; exact C.few,by rw [hsz]; exact C.modes,by rw [hsz]; exact C.lastEx,C.zero,fun x x' b f f' hx hx' hl hl'=>C.one x x' b f f' hx hx' (hsz ▸ hl) (hsz ▸ hl'),C.io.trans hio⟩
 ·rw [hoth x hx] at hy
  exact idle_other hx hops rfl rfl rfl (fun _ hb=>hb) (fun _ _ _=>rfl) (C.idle x y hx hy)
 ·obtain ⟨k,hk⟩:=C.chans x c home hx (hsz ▸ hl) e
  exact ⟨k,by rw [hch c ⟨x,home,e⟩]; exact hk⟩
 ·rw [hsz] at hj
  have:h≠j:=by have:=C.lt; omega
  rw [Deaf_other T this ops hops]
  exact C.above j hj
 ·rw [hstill a ⟨x,by rw [e]; rfl⟩]
  exact C.keep x a v e
 ·obtain ⟨x,e,hx⟩:=C.groups b hb
  obtain ⟨x',hx'⟩:=hrun b hb x _ _ e hx
  rw [hsz]
  exact ⟨x',e,hx'⟩
theorem Co.woken (C:Co P E h dh T gs w q) {a a':Goroutine} {w':World} (hch:∀ c,E.Cs c→w'.heap[c]?=w.heap[c]?) (x:Nat) (hx:x≠h):((gs.map (Go.Conc.woken P a a' w')).setIfInBounds h a')[x]?=gs[x]?:=by
 rw [Array.getElem?_setIfInBounds_ne (fun e=>hx e.symm),Array.getElem?_map]
 cases e:gs[x]? with
 | none=>rfl
 | some y =>
   rw [Option.map_some,woken_of_again]
   have hlt:=(Array.getElem?_eq_some_iff.1 e).1
   rcases C.idle_status hx e with z | ⟨c,home,g₂,hr,rfl⟩
   ·exact again_of_running z w'
   ·obtain ⟨k,hk⟩:=C.chans x c home hx hlt hr
    exact again_recv_open (by rw [hch c ⟨x,home,hr⟩]; exact hk)
theorem Co.past_own (C:Co P E h dh T gs w q) {fn:FuncId} {pos:String} {es:Array Event} {B:Nat} (hB:w.heap.size≤B) (hev:∀ e ∈ es,EvG E.S E.W B e) :
  PastZ (ShZ E.W) (StZ E) (MemZ E h gs.size) (LooseZ E h gs.size) B h dh (T ++ MemOp.ofEvents h fn pos es):=by
 refine (C.past.mono hB).appH ofE_g (fun op hop b hb=>?_) ?_ (fun op hop=>?_)
 ·obtain ⟨e,he,rfl⟩:=Go.Conc.mem_ofEvents hop
  obtain ⟨h1,_⟩:=hev e he
  exact ⟨fun g ⟨a,e1,e2⟩=>(h1 b hb).1 a e1 ⟨g,e2⟩,(h1 b hb).2⟩
 ·rw [Deaf_own,deafBehind_still (fun e he=>⟨(hev e he).2.1,(hev e he).2.2.1⟩)]
  exact C.past.hearsH
 ·obtain ⟨e,he,rfl⟩:=Go.Conc.mem_ofEvents hop
  exact (hev e he).2.2.2
theorem Co.own (C:Co P E h dh T gs w q) {a a':Goroutine} {w':World} {es:Array Event} (ha:gs[h]?=some a) (hd:E.D w w' es) :
  Co P E h dh (T ++ MemOp.ofEvents h a.frame.fn a.frame.place es) ((gs.map (Go.Conc.woken P a a' w')).setIfInBounds h a') w' q∧((gs.map (Go.Conc.woken P a a' w')).setIfInBounds h a')[h]?=some a' :=
 ⟨C.hold (by simp) (C.woken hd.chans) ofE_g hd.size hd.still hd.chans hd.run (hd.fit C.fit) (C.past_own hd.size hd.ev) hd.io,Array.getElem?_setIfInBounds_self_of_lt (by simpa using C.lt)⟩
def Got (P:Program) (h dh:Nat) (Stop:Goroutine→World→Prop) (E:Env) (n:Nat) (m:Machine) (T:Trace):Prop :=
 ∃ N gs' a' w' sl' T' E' q',runNT P N m T=(.next (crowd gs' w' sl'),T')∧gs'.size=n∧gs'[h]?=some a'∧Stop a' w'∧E.Eq h E'∧Co P E' h dh T' gs' w' q'
theorem Got.more {Stop:Goroutine→World→Prop} {n N:Nat} {m m':Machine} {T T':Trace} {E':Env} (hr:runNT P N m T=(.next m',T')) (hE:E.Eq h E') (g:Got P h dh Stop E' n m' T'):Got P h dh Stop E n m T:=by
 obtain ⟨N',gs',a',w',sl',T'',E'',q',h1,h2,h3,h4,h5,h6⟩:=g
 exact ⟨N+N',gs',a',w',sl',T'',E'',q',runNT_cat hr h1,h2,h3,h4,hE.trans h5,h6⟩
theorem offers_running {gh:Goroutine} (h:gh.status=.running) (c:Nat):offersAt gh c true=[]:=offersAt_of_not_blocked (by rw [h]; simp) _ _
theorem Co.walk {Stop:Goroutine→World→Prop} {a:Goroutine} {w0:World} (hG:GoesW P (h == 0) (Aw E.W) E.D Stop a w0):∀ {gs:Array Goroutine} {T:Trace} {q:Nat→Nat} {w:World} {sl:Option (Nat × Nat)} {E1:Env},
  E.Eq h E1→Aw E.W w0 w→Co P E1 h dh T gs w q→gs[h]?=some a→Got P h dh Stop E1 gs.size (crowd gs w sl) T:=by
 induction hG with
 | stop hst =>
   intro gs T q w sl E1 hE hA C ha
   exact ⟨0,gs,_,w,sl,T,E1,q,rfl,rfl,ha,hst w hA,.refl h E1,C⟩
 | @step g w0 hs ng nw ne hh ih ihh =>
   have key:∀ μ,∀ {gs:Array Goroutine} {T:Trace} {q:Nat→Nat} {w:World} {sl:Option (Nat × Nat)} {E1:Env},sumTo gs.size q=μ→E.Eq h E1→Aw E.W w0 w→Co P E1 h dh T gs w q→gs[h]?=some g→Got P h dh Stop E1 gs.size (crowd gs w sl) T:=by
    intro μ
    induction μ using Nat.strongRecOn with
    | _ μ ihμ =>
      intro gs T q w sl E1 hμ hE hA C ha
      obtain ⟨i,gi,d,sl',hi,hg,hst⟩:=crowd_pick (P:=P) (w:=w) (sl:=sl) (C.awake ha (.inl hs)) ⟨h,g,ha,hs⟩
      have hA':Aw E.W w0 (w.at d):=hA.trans _ _ _ (Aw.draw _ _ d)
      have Cd:Co P E1 h dh T gs (w.at d) q :=
       ⟨C.lt,C.idle,C.chans,C.inj,C.above,C.keep,C.dis,C.fit.aw (Aw.draw _ _ d),C.hidS,C.hidC,C.past,C.wgW,C.fresh,C.groups,C.few,C.modes,C.lastEx,C.zero,C.one,⟨C.io.1,C.io.2⟩⟩
      by_cases e:i=h
      ·subst e
       obtain rfl:gi=g:=by rw [ha] at hi; exact (Option.some.inj hi).symm
       obtain ⟨h1,h2⟩:=hh (w.at d) hA'
       obtain ⟨C',ha'⟩:=Cd.own (a':=ng (w.at d)) hi (by rw [hE.D]; exact h2)
       have hr:=runNT_one (t:=T) (hst.trans (runT_crowd_go (sl:=sl') hi h1))
       have:=ihh (w.at d) hA' (sl:=sl') hE (Aw.refl _ _) C' ha'
       rw [show ((gs.map (Go.Conc.woken P gi (ng (w.at d)) (nw (w.at d)))).setIfInBounds i (ng (w.at d))).size=gs.size by simp] at this
       exact this.more hr (.refl _ _)
      ·obtain ⟨gs',ops,w',E',q',hr,hsz,hh',_,_,hAw,hLe,C',hlt,_,_,_,hW,hSt,hH⟩:=Cd.by_step (sl:=sl') hi e hg (fun c home g₂ _ _ gh hgh=>by rw [ha] at hgh; obtain rfl:=Option.some.inj hgh; exact offers_running hs c)
       have ha':gs'[h]?=some g:=by
        rcases hh' with z | z
        ·rw [z,ha]
        ·rw [z,ha,Option.map_some,again_of_running (.inl hs)]
       have hr1:=runNT_one (t:=T) (hst.trans hr)
       have hEq:E1.Eq h E':=⟨hLe,hW,hSt,hH⟩
       have:=ihμ (sumTo gs'.size q') (by rw [hsz,← hμ]; exact hlt) (sl:=sl') rfl (hE.trans hEq) (hA'.trans _ _ _ (by rw [← hE.W']; exact hAw)) C' ha'
       rw [hsz] at this
       exact this.more hr1 hEq
   intro gs T q w sl E1
   exact key _ rfl
end
def Env.setRole (E:Env) (h:Nat) (r:Role):Env:={ E with role:=upd E.role h r }
section
variable {P:Program} {E:Env} {h dh:Nat} {T:Trace} {gs:Array Goroutine} {w:World} {q:Nat→Nat}
theorem fit_chan {H:Nat→Option Nat} {W:Nat→Bool} {w:World} {c cap s r cap' s' r':Nat} {b b':Array Value} {cl cl' tm tm':Bool} (hf:Fit H W w) (hc:w.heap[c]?=some (.chan cap b cl s r tm)) (hH:H c=some 0):Fit H W (w.setChan c cap' b' cl' s' r' tm'):=by
 have hget:∀ x,(w.setChan c cap' b' cl' s' r' tm').heap[x]?=if x=c then some (.chan cap' b' cl' s' r' tm') else w.heap[x]?:=fun x=>by
  by_cases e:x=c
  ·subst e; rw [if_pos rfl]; exact heap_setChan_self w hc ..
  ·rw [if_neg e]; exact heap_setChan_ne w _ _ _ _ _ _ (fun z=>e z.symm)
 have hv:(vw H (w.setChan c cap' b' cl' s' r' tm')).heap=(vw H w).heap:=by
  unfold vw
  apply Array.ext_getElem?
  intro x
  simp only [Array.getElem?_mapIdx,hget]
  by_cases e:x=c
  ·subst e
   rw [if_pos rfl,hc]
   simp [hideAt,hH,hideObj]
  ·rw [if_neg e]
 refine ⟨fun x o ho=>hf.fair x o (by rw [← hv]; exact ho),fun x hx=>hf.bound x (by simpa [World.setChan] using hx),fun x n o hD ho=>?_,fun x hx=>?_,hf.sub⟩
 ·rw [hget] at ho
  by_cases e:x=c
  ·rw [if_pos e] at ho; cases ho; exact .inr (.inr (.inl ⟨_,_,_,_,_,_,rfl⟩))
  ·rw [if_neg e] at ho; exact hf.hides x n o hD ho
 ·obtain ⟨p,st,sm,ty,h1⟩:=hf.ok x hx
  refine ⟨p,st,sm,ty,?_⟩
  rw [hget]
  by_cases e:x=c
  ·subst e; rw [hc] at h1; cases h1
  ·rw [if_neg e]; exact h1
theorem Co.pass (C:Co P E h 0 T gs w q) {j c k n':Nat} {home:Goroutine→Prop} (hjh:j≠h) (hjlt:j < gs.size) (hj:E.role j=.seat c home) (hc:w.heap[c]?=some (.chan 0 #[] false k k false)) {gs':Array Goroutine} {T':Trace} {H':Goroutine} {r':Role}
  (hsz:gs'.size=gs.size) (hoth:∀ x,x≠h→x≠j→gs'[x]?=gs[x]?) (hH:gs'[h]?=some H') (hDeaf:∀ x,Deaf T' x=Deaf T x)
  (hafter:Idle P (E.setRole h r') T' h n' H') (hr1:∀ c' home',r'=.seat c' home'→(∃ k,w.heap[c']?=some (.chan 0 #[] false k k false))∧E.H c'=some 0∧∀ x home'',x≠h→x < gs.size→E.role x=.seat c' home''→False) (hr2:∀ b f,r'≠.last b f)
  (hpast:PastZ (ShZ E.W) (StZ E) (MemZ E h gs.size) (fun g=>LooseZ E h gs.size g∧g≠j) w.heap.size j 0 T') :
  Co P (E.setRole h r') j 0 T' gs' (w.setChan c 0 #[] false (k+1) (k+1) false) (upd q h n'):=by
 have hne:∀ x,x≠h→(E.setRole h r').role x=E.role x:=fun x hx=>upd_ne _ _ hx
 have hself:(E.setRole h r').role h=r':=upd_same ..
 have hcW:=C.chan_notW (k:=0) hc (by intro cs e f hh; cases hh)
 have hheap:∀ b,b≠c→(w.setChan c 0 #[] false (k+1) (k+1) false).heap[b]?=w.heap[b]?:=fun b hb=>heap_setChan_ne w _ _ _ _ _ _ (fun e=>hb e.symm)
 have hH':=C.hidC j c home hj
 refine ⟨by rw [hsz]; exact hjlt,fun x y hx hy=>?_,fun x c' home' hx hl e=>?_,fun x x' c' home' home'' hx hx' hl hl' e e'=>?_,fun x hx=>by rw [hDeaf]; exact C.above x (by omega),fun x a v e=>?_,C.dis,fit_chan C.fit hc hH',C.hidS,fun x c' home' e=>?_,?_,fun x b hl=>C.wgW x b (hsz ▸ hl),fun x hx=>?_,fun b hb=>?_,by rw [hsz]; exact C.few,by rw [hsz]; exact C.modes,fun b hb hx=>?_,C.zero,fun x x' b f f' hx hx' hl hl' e e'=>?_,⟨C.io.1,C.io.2⟩⟩
 ·by_cases e:x=h
  ·subst e
   rw [hH] at hy
   obtain rfl:=Option.some.inj hy
   rw [upd_same]; exact hafter
  ·rw [hoth x e hx] at hy
   rw [upd_ne q n' e]
   have hid:=C.idle x y e hy
   unfold Idle at hid ⊢
   rw [hne x e,hDeaf]
   exact hid
 ·by_cases ec:c'=c
  ·subst ec; exact ⟨k+1,heap_setChan_self w hc ..⟩
  ·rw [hheap c' ec]
   by_cases ex:x=h
   ·subst ex
    rw [hself] at e
    exact (hr1 c' home' e).1
   ·rw [hne x ex] at e
    exact C.chans x c' home' ex (hsz ▸ hl) e
 ·rw [hsz] at hl hl'
  by_cases ex:x=h
  ·by_cases ex':x'=h
   ·rw [ex,ex']
   ·subst ex
    rw [hself] at e; rw [hne x' ex'] at e'
    exact ((hr1 c' home' e).2.2 x' home'' ex' hl' e').elim
  ·by_cases ex':x'=h
   ·subst ex'
    rw [hself] at e'; rw [hne x ex] at e
    exact ((hr1 c' home'' e').2.2 x home' ex hl e).elim
   ·rw [hne x ex] at e; rw [hne x' ex'] at e'
    exact C.inj x x' c' home' home'' ex ex' hl hl' e e'
 ·have hcell:=C.keep x a v e
  have hb:a.block≠c:=fun hb=>by
   unfold World.cell? at hcell
   rw [hb,hc] at hcell
   cases hcell
  rw [cell_same (hheap _ hb)]
  exact hcell
 ·by_cases ex:x=h
  ·subst ex
   rw [hself] at e
   exact (hr1 c' home' e).2.1
  ·rw [hne x ex] at e
   exact C.hidC x c' home' e
 ·rw [show (w.setChan c 0 #[] false (k+1) (k+1) false).heap.size=w.heap.size by simp [World.setChan],hsz]
  have h1:PastZ (ShZ E.W) (StZ E) (MemZ (E.setRole h r') j gs.size) (fun g=>LooseZ E h gs.size g∧g≠j) w.heap.size j 0 T':=hpast.fewer fun g hg=>by
   rcases hg with rfl | ⟨hl,hs⟩
   ·exact .inr ⟨hjlt,by rw [hj]; rfl⟩
   ·by_cases e:g=h
    ·exact .inl e
    ·rw [hne g e] at hs; exact .inr ⟨hl,hs⟩
  exact h1.loosen fun g ⟨⟨g1,g2,g3⟩,g4⟩=>⟨g4,g2,by rw [hne g g1]; exact g3⟩
 ·rw [hsz] at hx
  have hxh:x≠h:=by have:=C.lt; omega
  obtain ⟨f1,f2,f3⟩:=C.fresh x hx
  exact ⟨by rw [hne x hxh]; exact f1,f2,f3⟩
 ·have hbc:b≠c:=fun e=>by
   have hb':E.W b=true:=hb
   rw [e,hcW] at hb'; cases hb'
  rw [hsz]
  exact (C.groups b hb).same (hheap b hbc)
 ·obtain ⟨x,f,x1,x2,x3⟩:=C.lastEx b hb hx
  exact ⟨x,f,(fun e=>by rw [e,hj] at x3; cases x3),by rw [hsz]; exact x2,by rw [hne x x1]; exact x3⟩
 ·rw [hsz] at hl hl'
  by_cases ex:x=h
  ·subst ex; rw [hself] at e; exact absurd e (hr2 b f)
  ·by_cases ex':x'=h
   ·subst ex'; rw [hself] at e'; exact absurd e' (hr2 b f')
   ·rw [hne x ex] at e; rw [hne x' ex'] at e'
    exact C.one x x' b f f' ex ex' hl hl' e e'
def Given (P:Program) (E:Env) (h j c:Nat) (home:Goroutine→Prop) (v:Value) (r':Role) (n:Nat) (w:World) (m:Machine) (T:Trace):Prop :=
 ∃ (gs':Array Goroutine) (g₂:Goroutine) (w₁:World) (k:Nat) (sl':Option (Nat × Nat)) (q':Nat→Nat) (E1:Env),m=crowd gs' (w₁.setChan c 0 #[] false (k+1) (k+1) false) sl'∧gs'.size=n∧gs'[j]?=some (Go.Conc.served g₂ v)∧home g₂∧Aw E.W w w₁ ∧
  w₁.heap[c]?=some (.chan 0 #[] false k k false)∧E.Eq h E1∧Co P (E1.setRole h r') j 0 T gs' (w₁.setChan c 0 #[] false (k+1) (k+1) false) q'
theorem Co.drew (C:Co P E h dh T gs w q) (d:Nat):Co P E h dh T gs (w.at d) q :=
 ⟨C.lt,C.idle,C.chans,C.inj,C.above,C.keep,C.dis,C.fit.aw (Aw.draw _ _ d),C.hidS,C.hidC,C.past,C.wgW,C.fresh,C.groups,C.few,C.modes,C.lastEx,C.zero,C.one,⟨C.io.1,C.io.2⟩⟩
theorem Co.give (C:Co P E h 0 T gs w q) {a a₂:Goroutine} {j c:Nat} {home:Goroutine→Prop} {v z':Value} {es:Array Event} {sl:Option (Nat × Nat)} (hjh:j≠h) (hjlt:j < gs.size) (hj:E.role j=.seat c home) (ha:gs[h]?=some a) (hrun:a.status=.running)
  (hsend:∀ w',Aw E.W w w'→stepG P (h == 0) a w'=.comm a₂ #[scase c v z'] true .send w' es) (hes:∀ e ∈ es,EvG E.S E.W w.heap.size e)
  {r':Role} {n':Nat} (hafter:∀ T',Deaf T' h=0→Idle P (E.setRole h r') T' h n' (Go.Conc.served a₂ undef))
  (hr1:∀ c' home',r'=.seat c' home'→(∃ k,w.heap[c']?=some (.chan 0 #[] false k k false))∧E.H c'=some 0∧∀ x home'',x≠h→x < gs.size→E.role x=.seat c' home''→False) (hr2:∀ b f,r'≠.last b f) :
  ∃ N m' T',runNT P N (crowd gs w sl) T=(.next m',T')∧Given P E h j c home v r' gs.size w m' T':=by
 refine runs_until (P:=P)
  (Inv:=fun μ m t=>Given P E h j c home v r' gs.size w m t∨∃ gs₁ w₁ sl₁ q₁ E1,∃ pk:Bool,m=crowd gs₁ w₁ sl₁∧gs₁.size=gs.size∧Aw E.W w w₁∧E.Eq h E1∧gs₁[h]?=some (if pk then parked a₂ #[scase c v z'] .send else a) ∧
   Co P E1 h 0 t gs₁ w₁ q₁∧(pk=true→0 < q₁ j)∧μ=sumTo gs₁.size q₁+(if pk then 0 else 1))
  (fun μ m t hInv=>?_) _ _ T (.inr ⟨gs,w,sl,q,E,false,rfl,rfl,Aw.refl _ _,.refl h E,ha,C,by simp,rfl⟩)
 rcases hInv with hdone | ⟨gs₁,w₀,sl₁,q₁,E1,pk,rfl,hsz,hA0,hEq,ha₁,C₀,hpk,hμ⟩
 ·exact .inl hdone
 refine .inr ?_
 have hj1:E1.role j=.seat c home:=(hEq.seat j c home).1 hj
 obtain ⟨gj,hgj⟩:∃ gj,gs₁[j]?=some gj:=⟨gs₁[j]'(by omega),Array.getElem?_eq_getElem (by omega)⟩
 have hlth:h < gs₁.size:=(Array.getElem?_eq_some_iff.1 ha₁).1
 have hSj:Sits P (j == 0) (E1.St j) c home (q₁ j) gj:=by have:=C₀.idle j gj hjh hgj; unfold Idle at this; rwa [hj1] at this
 have hsome:∃ (i:Nat) (g:Goroutine),gs₁[i]?=some g∧g.status=.running:=by
  cases pk with
  | false=>exact ⟨h,a,ha₁,hrun⟩
  | true=>exact ⟨j,gj,hgj,(Sits.status (C₀.keep j) hSj).elim (·.1) (fun z=>by have:=hpk rfl; omega)⟩
 obtain ⟨i,g,d',sl',hi,hg,hst⟩:=crowd_pick (P:=P) (w:=w₀) (sl:=sl₁) (C₀.awake ha₁ (by cases pk <;> simp [hrun,parked])) hsome
 have C₁:=C₀.drew d'
 generalize hw₁:w₀.at d'=w₁ at hst C₁
 have hA:Aw E.W w w₁:=hA0.trans _ _ _ (by rw [← hw₁]; exact Aw.draw _ _ d')
 obtain ⟨k,hc⟩:=C₁.chans j c home hjh (by omega) hj1
 have hcW:=C₁.chan_notW (k:=0) hc (by intro cs e f hh; cases hh)
 have hoth:∀ x home',x≠h→x≠j→x < gs₁.size→E1.role x≠.seat c home':=fun x home' hx hxj hl e=>hxj (C₁.inj x j c home' home hx hjh hl (by omega) e hj1)
 have hmet0:∀ (fh:FuncId) (ph:String) (fj:FuncId) (pj:String) (g:Nat),∀ op ∈ met h j fh ph fj pj c k 0,∀ d,deafStep g d op=d:=fun fh ph fj pj g=>met_quiet h j fh ph fj pj c k 0 g
 have hS:E1.S=E.S:=hEq.S
 have fin:∀ (gs':Array Goroutine) (ops₀:Array MemOp) (g₂:Goroutine) (x:Nat),gs'.size=gs₁.size→(∀ x,x≠h→x≠j→gs'[x]?=gs₁[x]?)→gs'[h]?=some (Go.Conc.served a₂ undef)→gs'[j]?=some (Go.Conc.served g₂ v)→home g₂ →
   (∀ op ∈ ops₀,op.g=x)→Deaf (t ++ ops₀) x=Deaf t x→PastZ (ShZ E1.W) (StZ E1) (MemZ E1 h gs₁.size) (LooseZ E1 h gs₁.size) w₁.heap.size h 0 (t ++ ops₀) →
   Given P E h j c home v r' gs.size w (crowd gs' (w₁.setChan c 0 #[] false (k+1) (k+1) false) sl') (t ++ (ops₀ ++ met h j a₂.frame.fn a₂.frame.place g₂.frame.fn g₂.frame.place c k 0)):=by
  intro gs' ops₀ g₂ x hsz' hoth' hH hJ hhome hx hdx p1
  have hD0:∀ y,Deaf (t ++ ops₀) y=Deaf t y:=fun y=>by
   by_cases e:y=x
   ·subst e; exact hdx
   ·exact Deaf_other t (fun z=>e z.symm) _ hx
  have hDeaf:∀ y,Deaf (t ++ (ops₀ ++ met h j a₂.frame.fn a₂.frame.place g₂.frame.fn g₂.frame.place c k 0)) y=Deaf t y:=fun y=>by rw [← Array.append_assoc,Deaf_quiet (hmet0 _ _ _ _ y),hD0]
  have p2:=p1.give hjh (.inr ⟨by omega,by rw [hj1]; rfl⟩) a₂.frame.fn a₂.frame.place g₂.frame.fn g₂.frame.place k 0 (Array.getElem?_eq_some_iff.1 hc).1
  rw [Array.append_assoc] at p2
  refine ⟨gs',g₂,w₁,k,sl',upd q₁ h n',E1,rfl,hsz'.trans hsz,hJ,hhome,hA,hc,hEq,?_⟩
  refine C₁.pass hjh (by omega) hj1 hc hsz' hoth' hH hDeaf ?_ (fun c' home' e=>?_) hr2 p2
  ·have:=hafter (t ++ (ops₀ ++ met h j a₂.frame.fn a₂.frame.place g₂.frame.fn g₂.frame.place c k 0)) (by rw [hDeaf]; exact C₁.past.hearsH)
   unfold Idle at this ⊢
   simp only [Env.setRole,upd_same] at this ⊢
   rw [hEq.St',hEq.wgH,hEq.W']
   cases r' with
   | last b f=>exact absurd rfl (hr2 b f)
   | _=>exact this
  ·obtain ⟨⟨k',hk'⟩,e2,e3⟩:=hr1 c' home' e
   refine ⟨⟨k',?_⟩,by rw [hEq.H']; exact e2,fun y home'' hy hl e'=>e3 y home'' hy (by omega) ((hEq.seat y c' home'').2 e')⟩
   have hw':E.W c'=false:=C.chan_notW (k:=0) hk' (by intro cs e f hh; cases hh)
   rw [hA.heap c' hw']
   exact hk'
 have hμpos:0 < μ:=by
  cases pk with
  | false=>simp at hμ; omega
  | true =>
    have h1:=hpk rfl
    have h2:q₁ j≤sumTo gs₁.size q₁:=le_sumTo (f:=q₁) (by omega)
    simp at hμ; omega
 by_cases e:i=h
 ·
  subst e
  cases pk with
  | true=>rw [ha₁] at hi; obtain rfl:=Option.some.inj hi; cases hg
  | false =>
    obtain rfl:g=a:=by rw [ha₁] at hi; exact (Option.some.inj hi).symm
    have hsd:=hsend w₁ hA
    have hev:∀ e ∈ es,EvG E1.S E1.W w₁.heap.size e:=by rw [hS,hEq.W',hA.size]; exact hes
    have hp1:=C₁.past_own (fn:=g.frame.fn) (pos:=g.frame.place) (Nat.le_refl _) hev
    have hd1:Deaf (t ++ MemOp.ofEvents i g.frame.fn g.frame.place es) i=Deaf t i:=by rw [hp1.hearsH,C₁.past.hearsH]
    have hoff:∀ (x:Nat) (y:Goroutine),x≠j→(gs₁.setIfInBounds i ph)[x]?=some y→offersAt y c false=[]:=by
     intro x y hxj hy
     rcases getElem?_stand gs₁ i x y hy with ⟨_,rfl⟩ | ⟨hx,hy'⟩
     ·exact offersAt_ph _ _
     ·exact C₁.noRecvAt hx hy' fun home'=>hoth x home' hx hxj (Array.getElem?_eq_some_iff.1 hy').1
    rcases hSj with ⟨kk,w0,hq,hG⟩ | ⟨hq0,g₀,g₂,rfl,hat⟩
    ·
     have hjr:gj.status=.running:=(Sits.status (C₀.keep j) (.inl ⟨kk,w0,hq,hG⟩)).elim (·.1) (fun z=>by omega)
     have hp:partners (gs₁.setIfInBounds i ph) c false=[]:=partners_nil fun x y hy=>by
      by_cases hxj:x=j
      ·subst hxj
       rw [stand_get hjh hgj] at hy
       obtain rfl:=Option.some.inj hy
       exact offersAt_of_not_blocked (by rw [hjr]; simp) _ _
      ·exact hoff x y hxj hy
     have hw:∀ cc ∈ #[scase c v z'],NoWays w₁ (gs₁.setIfInBounds i ph) cc:=by
      intro cc hcc
      simp only [List.mem_toArray,List.mem_cons,List.not_mem_nil,or_false] at hcc
      subst hcc
      exact ways_send_none hc (Nat.le_refl _) hp
     refine ⟨_,_,sumTo gs₁.size q₁+0,by rw [hst]; exact crowd_waits (sl:=sl') hi hsd hw,by simp at hμ; omega,.inr ⟨_,w₁,sl',q₁,E1,true,rfl,by simpa using hsz,hA,hEq,Array.getElem?_setIfInBounds_self_of_lt hlth,?_,fun _=>by omega,by simp⟩⟩
     exact C₁.hold (by simp) (fun x hx=>Array.getElem?_setIfInBounds_ne (fun z=>hx z.symm)) ofE_g (Nat.le_refl _) (fun _ _=>rfl) (fun _ _=>rfl) (fun _ _ x _ _ _ hx=>⟨x,hx⟩) C₁.fit hp1 (SameIo.refl _)
    ·
     have hp:partners (gs₁.setIfInBounds i ph) c false=[(j,0)]:=by
      rw [partners_one (stand_get hjh hgj) fun x y hxj hy=>hoff x y hxj hy,offersAt_parked_recv,if_pos rfl]
      rfl
     refine ⟨_,_,0,by rw [hst]; exact crowd_send_meets (sl:=sl') hi hsd hc hjh hgj hp,hμpos,.inl ?_⟩
     exact fin _ _ g₂ i (by simp) (fun x hx hxj=>by rw [Array.getElem?_setIfInBounds_ne (fun z=>hx z.symm),Array.getElem?_setIfInBounds_ne (fun z=>hxj z.symm)]) (Array.getElem?_setIfInBounds_self_of_lt (by simpa using hlth))
      (by rw [Array.getElem?_setIfInBounds_ne (fun z=>hjh z.symm),Array.getElem?_setIfInBounds_self_of_lt (by omega)]; rfl) hat.2.2.2.2.1 ofE_g hd1 hp1
 ·by_cases ej:i=j∧pk=true∧∃ g₂,AtSeat P (i == 0) (E1.St i) c home g g₂
  ·
   obtain ⟨rfl,rfl,g₂,hat⟩:=ej
   obtain ⟨_,_,_,_,hhome,esj,hesj,hstp⟩:=hat
   have hM:MemZ E1 h gs₁.size i:=.inr ⟨by omega,by rw [hj1]; rfl⟩
   have hL:LooseZ E1 h gs₁.size i:=⟨e,by omega,by rw [hj1]; rfl⟩
   have hdj:Deaf (t ++ MemOp.ofEvents i g.frame.fn g.frame.place esj) i=Deaf t i:=by
    rw [Deaf_own]
    exact deafBehind_still (fun e he=>by obtain ⟨a,rfl,_⟩:=hesj e he; exact ⟨by simp,by simp⟩) _
   have hp1:PastZ (ShZ E1.W) (StZ E1) (MemZ E1 h gs₁.size) (LooseZ E1 h gs₁.size) w₁.heap.size h 0 (t ++ MemOp.ofEvents i g.frame.fn g.frame.place esj):=by
    refine C₁.past.appRead (stz_dis C₁) e hM hL ofE_g (fun op hop b hb=>?_) hdj (fun op hop=>?_)
    ·obtain ⟨e,he,rfl⟩:=Go.Conc.mem_ofEvents hop
     obtain ⟨a,rfl,hS⟩:=hesj e he
     simp only [ofEvent_cell0,MemAct.touch?,Option.some.injEq] at hb
     subst hb
     exact ⟨rfl,a,rfl,hS⟩
    ·obtain ⟨e,he,rfl⟩:=Go.Conc.mem_ofEvents hop
     obtain ⟨a,rfl,hS⟩:=hesj e he
     obtain ⟨v,hv⟩:=Option.isSome_iff_exists.1 hS
     rw [ofEvent_cell0]
     exact lt_of_cell (C₁.keep i a v hv)
   have hp:partners (gs₁.setIfInBounds i ph) c true=[(h,0)]:=by
    rw [partners_one (stand_get (Ne.symm hjh) ha₁) fun x y hxh hy=>by
     rcases getElem?_stand gs₁ i x y hy with ⟨_,rfl⟩ | ⟨_,hy'⟩
     ·exact offersAt_ph _ _
     ·exact C₁.noSend hxh hy' _]
    simp [offersAt_parked_send]
   refine ⟨_,_,0,by rw [hst]; exact crowd_recv_meets (sl:=sl') hi (hstp _ (C₁.keep i)) hc (Ne.symm hjh) ha₁ hp,hμpos,.inl ?_⟩
   exact fin _ _ g₂ i (by simp) (fun x hx hxj=>by rw [Array.getElem?_setIfInBounds_ne (fun z=>hxj z.symm),Array.getElem?_setIfInBounds_ne (fun z=>hx z.symm)])
    (by rw [Array.getElem?_setIfInBounds_ne hjh,Array.getElem?_setIfInBounds_self_of_lt hlth]; rfl) (by rw [Array.getElem?_setIfInBounds_self_of_lt (by simp; omega)]; rfl) hhome ofE_g hdj hp1
  ·
   obtain ⟨gs',ops,w',E',q',hr,hsz',hh',_,hqo,hAw,hLe,C',hlt,hq0,_,_,hW,hSt,hH⟩:=C₁.by_step (sl:=sl') hi e hg (fun c' home' g₂ hr hat gh hgh=>by
    rw [ha₁] at hgh; obtain rfl:=Option.some.inj hgh
    cases pk with
    | false=>exact offers_running hrun c'
    | true =>
      simp only [if_true]
      rw [offersAt_parked_send]
      by_cases ecc:c=c'
      ·subst ecc
       exfalso
       by_cases eij:i=j
       ·subst eij
        rw [hj1] at hr
        cases hr
        exact ej ⟨rfl,rfl,g₂,hat⟩
       ·exact hoth i home' e eij (Array.getElem?_eq_some_iff.1 hi).1 hr
      ·rw [if_neg ecc])
   have hEq':E1.Eq h E':=⟨hLe,hW,hSt,hH⟩
   have hc':w'.heap[c]?=some (.chan 0 #[] false k k false):=by rw [hAw.heap c hcW]; exact hc
   have ha':gs'[h]?=some (if pk then parked a₂ #[scase c v z'] .send else a):=by
    rcases hh' with z | z
    ·rw [z,ha₁]
    ·rw [z,ha₁,Option.map_some]
     cases pk with
     | false=>rw [if_neg (by simp)]; rw [again_of_running (.inl hrun)]
     | true=>rw [if_pos rfl,again_send_open hc']
   refine ⟨_,_,sumTo gs'.size q'+(if pk then 0 else 1),by rw [hst]; exact hr,by rw [hsz']; omega,.inr ⟨gs',w',sl',q',E',pk,rfl,hsz'.trans hsz,hA.trans _ _ _ (by rw [← hEq.W']; exact hAw),hEq.trans hEq',ha',C',fun hpk'=>?_,rfl⟩⟩
   by_cases eij:i=j
   ·subst eij
    refine Nat.pos_of_ne_zero fun hz=>?_
    obtain ⟨g₂,hat⟩:=hq0 c home hj1 hz
    exact ej ⟨rfl,hpk',g₂,hat⟩
   ·rw [hqo j (fun z=>eij z.symm)]; exact hpk hpk'
end
end Go.Proofs.Ytimlbbleblijnaa.Co
