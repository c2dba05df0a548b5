/- Lemmas for the laws of this seat, laid together of PGt, PGu. -/
import Derived.Test.YtimlbbleblijnaaX05

set_option linter.unusedVariables false
set_option linter.unusedSimpArgs false
set_option maxRecDepth 100000
set_option maxHeartbeats 4000000
namespace Go.Proofs.Ytimlbbleblijnaa.Co
open Go.Conc
open Go.ConcN (sumTo upd sumTo_upd upd_ne upd_same sumTo_congr le_sumTo)
section
variable {P:Program} {E:Env} {h dh:Nat} {T:Trace} {gs:Array Goroutine} {w:World} {q:Nat→Nat}
theorem Co.wait {b:Nat} {Fin Anch:Goroutine→World→Prop} (hAn:∀ g w,Anch g w→GW P (h == 0) E.W E.D (AtW1 P (h == 0) E.W E.D b Fin Anch) g w) :
  ∀ (m:Nat) {gs:Array Goroutine} {T:Trace} {q:Nat→Nat} {w:World} {sl:Option (Nat × Nat)} {E1:Env} {a:Goroutine},E.Eq h E1→Spent E1 h gs.size b→cnt E1 gs.size b≤m→Co P E1 h dh T gs w q→gs[h]?=some a→GW P (h == 0) E.W E.D Anch a w →
   WaitEnd P h dh b Fin E1 gs.size (crowd gs w sl) T:=by
 intro m
 induction m with
 | zero =>
   intro gs T q w sl E1 a hE s hcm C ha hG
   obtain ⟨N1,gs1,a1,w1,sl1,T1,E2,q1,hr1,hs1,ha1,hst1,hE2,C1⟩:=C.walkR (sl:=sl) (Stop:=Anch) (by rw [hE.W',hE.D]; exact hG) ha
   have hG2:=hAn a1 w1 (hst1 w1 (Aw.refl _ _))
   have hE12:=hE.trans hE2
   obtain ⟨N2,gs2,a2,w2,sl2,T2,E3,q2,hr2,hs2,ha2,hst2,hE3,C2⟩:=C1.walkR (sl:=sl1) (by rw [hE12.W',hE12.D]; exact hG2) ha1
   have hst2':=fun w₁ h1=>hst2 w₁ (by rw [hE12.W']; exact h1)
   obtain ⟨hrun,_⟩:=hst2' w2 (Aw.refl _ _)
   obtain ⟨N3,gs3,w3,sl3,w4,sl4,T3,q3,E4,hr3,hst3,hs3,ha3,hA3,hE4,C3⟩:=C2.picked (sl:=sl2) ha2 hrun
   have hEq:=(hE2.trans hE3).trans hE4
   have hEa:=hE.trans hEq
   have s4:=s.eq hEq
   have hc0:cnt E4 gs3.size b=0:=by
    have:=cnt_eq_le (n:=gs.size) (b:=b) hEq.toLe
    rw [hs3,hs2,hs1]; omega
   have hgrp:GroupAt b w4 (((0:Nat):Int) * KK) 0:=by
    have:=C3.groups b s4.W
    rw [stv0 s4.mode s4.ex,smv0 (by rw [s4.mode]; omega),hc0] at this
    exact this
   obtain ⟨_,hld⟩:=hst2' w4 (by have:=hA3; rwa [(hE12.trans hE3).W'] at this)
   obtain ⟨g',hg',hfin,_⟩:=hld 0 (by decide) hgrp
   obtain ⟨C4,ha4⟩:=C3.loadStep (g':=g') ha3 s4.W
   have hr4:=runNT_one (t:=T3) (hst3.trans (runT_crowd_go (sl:=sl4) ha3 hg'))
   obtain ⟨N5,gs5,a5,w5,sl5,T5,E5,q5,hr5,hs5,ha5,hst5,hE5,C5⟩:=C4.walkR (sl:=sl4) (Stop:=Fin) (by rw [hEa.W',hEa.D]; exact hfin rfl) ha4
   have hsz:gs5.size=gs.size:=by rw [hs5]; simp [hs3,hs2,hs1]
   refine ⟨_,gs5,a5,w5,sl5,T5,E5,q5,runNT_cat hr1 (runNT_cat hr2 (runNT_cat hr3 (runNT_cat hr4 hr5))),hsz,ha5,hst5 _ (Aw.refl _ _),hEq.trans hE5,C5,?_⟩
   have:=cnt_eq_le (n:=gs.size) (b:=b) hE5.toLe
   rw [hs3,hs2,hs1] at hc0
   omega
 | succ m ih =>
   intro gs T q w sl E1 a hE s hcm C ha hG
   obtain ⟨N1,gs1,a1,w1,sl1,T1,E2,q1,hr1,hs1,ha1,hst1,hE2,C1⟩:=C.walkR (sl:=sl) (Stop:=Anch) (by rw [hE.W',hE.D]; exact hG) ha
   have hG2:=hAn a1 w1 (hst1 w1 (Aw.refl _ _))
   have hE12:=hE.trans hE2
   obtain ⟨N2,gs2,a2,w2,sl2,T2,E3,q2,hr2,hs2,ha2,hst2,hE3,C2⟩:=C1.walkR (sl:=sl1) (by rw [hE12.W',hE12.D]; exact hG2) ha1
   have hst2':=fun w₁ h1=>hst2 w₁ (by rw [hE12.W']; exact h1)
   obtain ⟨hrun,_⟩:=hst2' w2 (Aw.refl _ _)
   obtain ⟨N3,gs3,w3,sl3,w4,sl4,T3,q3,E4,hr3,hst3,hs3,ha3,hA3,hE4,C3⟩:=C2.picked (sl:=sl2) ha2 hrun
   have hEq:=(hE2.trans hE3).trans hE4
   have hEa:=hE.trans hEq
   have s4:=s.eq hEq
   obtain ⟨v,hv⟩:∃ v,v=cnt E4 gs3.size b:=⟨_,rfl⟩
   have hsz3:gs3.size=gs.size:=by rw [hs3,hs2,hs1]
   have hvle:v≤m+1:=by
    have:=cnt_eq_le (n:=gs.size) (b:=b) hEq.toLe
    rw [hv,hsz3]; omega
   have hv1000:v < 2147483648:=by
    have:=C3.few b s4.W
    rw [← hv] at this
    omega
   have hgrp:GroupAt b w4 ((v:Int) * KK) 0:=by
    have:=C3.groups b s4.W
    rw [stv0 s4.mode s4.ex,smv0 (by rw [s4.mode]; omega),← hv] at this
    exact this
   obtain ⟨_,hld⟩:=hst2' w4 (by have:=hA3; rwa [(hE12.trans hE3).W'] at this)
   obtain ⟨g',hg',hfin,hcas⟩:=hld v hv1000 hgrp
   obtain ⟨C4,ha4⟩:=C3.loadStep (g':=g') ha3 s4.W
   have hr4:=runNT_one (t:=T3) (hst3.trans (runT_crowd_go (sl:=sl4) ha3 hg'))
   by_cases hv0:v=0
   ·obtain ⟨N5,gs5,a5,w5,sl5,T5,E5,q5,hr5,hs5,ha5,hst5,hE5,C5⟩:=C4.walkR (sl:=sl4) (Stop:=Fin) (by rw [hEa.W',hEa.D]; exact hfin hv0) ha4
    have hsz:gs5.size=gs.size:=by rw [hs5]; simp [hsz3]
    refine ⟨_,gs5,a5,w5,sl5,T5,E5,q5,runNT_cat hr1 (runNT_cat hr2 (runNT_cat hr3 (runNT_cat hr4 hr5))),hsz,ha5,hst5 _ (Aw.refl _ _),hEq.trans hE5,C5,?_⟩
    have:=cnt_eq_le (n:=gs.size) (b:=b) hE5.toLe
    rw [hsz3] at hv
    omega
   ·obtain ⟨N5,gs5,a5,w5,sl5,T5,E5,q5,hr5,hs5,ha5,hst5,hE5,C5⟩:=C4.walkR (sl:=sl4) (by rw [hEa.W',hEa.D]; exact hcas hv0) ha4
    have hEa5:=hEa.trans hE5
    have hst5':=fun w₁ h1=>hst5 w₁ (by rw [hEa.W']; exact h1)
    obtain ⟨hrun5,_⟩:=hst5' w5 (Aw.refl _ _)
    obtain ⟨N6,gs6,w6,sl6,w7,sl7,T6,q6,E6,hr6,hst6,hs6,ha6,hA6,hE6,C6⟩:=C5.picked (sl:=sl5) ha5 hrun5
    have hEq6:=(hEq.trans hE5).trans hE6
    have hEa6:=hE.trans hEq6
    have s6:=s.eq hEq6
    have hsz6:gs6.size=gs.size:=by rw [hs6,hs5]; simp [hsz3]
    obtain ⟨v',hv'⟩:∃ v',v'=cnt E6 gs6.size b:=⟨_,rfl⟩
    have hv'le:v'≤v:=by
     have:=cnt_eq_le (n:=gs.size) (b:=b) (hE5.trans hE6).toLe
     rw [hv',hv,hsz6,hsz3]; exact this
    have hgrp6:GroupAt b w7 ((v':Int) * KK) 0:=by
     have:=C6.groups b s6.W
     rw [stv0 s6.mode s6.ex,smv0 (by rw [s6.mode]; omega),← hv'] at this
     exact this
    have hpre:=runNT_cat hr1 (runNT_cat hr2 (runNT_cat hr3 (runNT_cat hr4 (runNT_cat hr5 hr6))))
    obtain ⟨_,hcs⟩:=hst5' w7 (by have:=hA6; rwa [hEa5.W'] at this)
    obtain ⟨hhit,hmiss⟩:=hcs v' (by omega) hgrp6
    by_cases hvv:v'=v
    ·
     subst hvv
     obtain ⟨g7,hg7,hG7⟩:=hhit rfl
     have hAw:=aw_set hgrp6 s6.W (.int .u64 ((v':Int) * KK+1)) (.inl ⟨rfl,_,rfl⟩)
     have hpast:=C6.past_own (fn:=a5.frame.fn) (pos:=a5.frame.place) (es:=#[rdE (stZ b),wrE (stZ b)]) (Nat.le_refl _) (fun e he=>evG_atom C6.S_dis s6.W hgrp6.lt (by simp at he; exact he.elim .inl fun x=>.inr (.inl x)))
     have e1:stv { E6 with mode:=upd E6.mode b 1 } gs6.size b=(v':Int) * KK+1:=by
      have:cnt { E6 with mode:=upd E6.mode b 1 } gs6.size b=v':=hv'.symm
      unfold stv
      simp only [this,upd_same,s6.ex]
      simp
     have e2:smv { E6 with mode:=upd E6.mode b 1 } b=0:=by unfold smv; simp only [upd_same]; rfl
     obtain ⟨C7,ha7⟩:=C6.words (a':=g7) (m':=1) ha6 s6.W (by rw [s6.mode]; omega) (by omega) ofE_g hAw (fun c hc=>heap_setCell_ne (by exact fun z=>hc z.symm)) (by
      rw [e1,e2]
      obtain ⟨x,ty,hx⟩:=hgrp6
      exact ⟨x,ty,heap_setCell_run hx _⟩) ⟨by omega,fun _=>by omega,fun z=>by omega⟩ hpast
     have hr7:=runNT_one (t:=T6) (hst6.trans (runT_crowd_go (sl:=sl7) ha6 hg7))
     have hB:=C7.waitB (sl:=sl7) (b:=b) (Fin:=Fin) s6.W s6.ex (by show 1≤upd E6.mode b 1 b; rw [upd_same]; exact Nat.le_refl _) s6.self (fun x hx hl hs=>s6.none x hx (by rw [← hsz6]; simpa using hl) hs) ha7 (by
      have hx:=hG7
      rw [← hEa6.W',← hEa6.D] at hx
      exact hx)
     rw [reset_set,reset_self s6.mode] at hB
     have hsz7:((gs6.map (Go.Conc.woken P a5 g7 (w7.setCell (stZ b) (.int .u64 ((v':Int) * KK+1))))).setIfInBounds h g7).size=gs.size:=by simp [hsz6]
     rw [hsz7] at hB
     exact hB.more (runNT_cat hpre hr7) hEq6
    ·
     obtain ⟨g7,hg7,hG7⟩:=hmiss hvv
     obtain ⟨C7,ha7⟩:=C6.loadStep (g':=g7) ha6 s6.W
     have hr7:=runNT_one (t:=T6) (hst6.trans (runT_crowd_go (sl:=sl7) ha6 hg7))
     have hsz7:((gs6.map (Go.Conc.woken P a5 g7 w7)).setIfInBounds h g7).size=gs.size:=by simp [hsz6]
     have hI:=ih (sl:=sl7) hEa6 (by rw [hsz7]; exact s6) (by rw [hsz7]; rw [hsz6] at hv'; omega) C7 ha7 hG7
     rw [hsz7] at hI
     exact hI.more (runNT_cat hpre hr7) hEq6
end
section
variable {P:Program} {E:Env} {h dh:Nat} {T:Trace} {gs:Array Goroutine} {w:World} {q:Nat→Nat}
theorem Co.setH (C:Co P E h dh T gs w q) (r:Role) (hr:∀ c home,r≠.seat c home):Co P (E.setRole h r) h dh T gs w q:=by
 have hne:∀ x,x≠h→(E.setRole h r).role x=E.role x:=fun x hx=>upd_ne _ _ hx
 have hself:(E.setRole h r).role h=r:=upd_same ..
 refine ⟨C.lt,fun x y hx hy=>?_,fun x c home hx hl e=>C.chans x c home hx hl (by rw [← hne x hx]; exact e),fun x x' c home home' hx hx' hl hl' e e'=>C.inj x x' c home home' hx hx' hl hl' (by rw [← hne x hx]; exact e) (by rw [← hne x' hx']; exact e'),C.above,C.keep,C.dis,C.fit,C.hidS,fun x c home e=>?_,?_,C.wgW,fun x hx=>?_,C.groups,C.few,C.modes,
  fun b hb hx=>?_,C.zero,fun x x' b f f' hx hx' hl hl' e e'=>C.one x x' b f f' hx hx' hl hl' (by rw [← hne x hx]; exact e) (by rw [← hne x' hx']; exact e'),by first | exact ⟨C.io.1,C.io.2⟩ | exact C.io.trans ⟨hA.os,hA.output⟩ | exact C.io.trans hio | exact ⟨C₁.io.1,C₁.io.2⟩ | exact C₁.io.trans ⟨hA.os,hA.output⟩⟩
 ·have:=C.idle x y hx hy
  unfold Idle at this ⊢
  rw [hne x hx]; exact this
 ·by_cases ex:x=h
  ·subst ex; rw [hself] at e; exact absurd e (hr c home)
  ·exact C.hidC x c home (by rw [← hne x ex]; exact e)
 ·have e1:MemZ (E.setRole h r) h gs.size=MemZ E h gs.size:=by
   funext x
   unfold MemZ
   by_cases ex:x=h
   ·simp [ex]
   ·rw [hne x ex]
  have e2:LooseZ (E.setRole h r) h gs.size=LooseZ E h gs.size:=by
   funext x
   unfold LooseZ
   by_cases ex:x=h
   ·simp [ex]
   ·rw [hne x ex]
  rw [e1,e2]
  exact C.past
 ·obtain ⟨f1,f2,f3⟩:=C.fresh x hx
  have hxh:x≠h:=by have:=C.lt; omega
  exact ⟨by rw [hne x hxh]; exact f1,f2,f3⟩
 ·obtain ⟨x,f,x1,x2,x3⟩:=C.lastEx b hb hx
  exact ⟨x,f,x1,x2,by rw [hne x x1]; exact x3⟩
def Reach (P:Program) (h:Nat) (Stop:Env→Goroutine→World→Prop) (E:Env) (a:Goroutine) (w:World):Prop :=
 ∀ (gs:Array Goroutine) (T:Trace) (q:Nat→Nat) (sl:Option (Nat × Nat)),Co P E h 0 T gs w q→gs[h]?=some a →
  ∃ N gs' a' w' sl' T' E' q',runNT P N (crowd gs w sl) T=(.next (crowd gs' w' sl'),T')∧gs.size≤gs'.size∧gs'[h]?=some a'∧E.Le h E'∧Co P E' h 0 T' gs' w' q'∧Stop E' a' w'
theorem Reach.here {Stop:Env→Goroutine→World→Prop} {a:Goroutine} (hs:Stop E a w):Reach P h Stop E a w :=
 fun gs T q sl C ha=>⟨0,gs,a,w,sl,T,E,q,rfl,Nat.le_refl _,ha,.refl h E,C,hs⟩
theorem Reach.bind {Stop Stop':Env→Goroutine→World→Prop} {a:Goroutine} (hr:Reach P h Stop E a w) (hb:∀ E' a' w',E.Le h E'→Stop E' a' w'→Reach P h Stop' E' a' w'):Reach P h Stop' E a w:=by
 intro gs T q sl C ha
 obtain ⟨N,gs',a',w',sl',T',E',q',h1,h2,h3,h4,h5,h6⟩:=hr gs T q sl C ha
 obtain ⟨N2,gs2,a2,w2,sl2,T2,E2,q2,k1,k2,k3,k4,k5,k6⟩:=hb E' a' w' h4 h6 gs' T' q' sl' h5 h3
 exact ⟨N+N2,gs2,a2,w2,sl2,T2,E2,q2,runNT_cat h1 k1,Nat.le_trans h2 k2,k3,h4.trans k4,k5,k6⟩
theorem Reach.mono {Stop Stop':Env→Goroutine→World→Prop} {a:Goroutine} (hr:Reach P h Stop E a w) (hb:∀ E' a' w',E.Le h E'→Stop E' a' w'→Stop' E' a' w'):Reach P h Stop' E a w :=
 hr.bind fun E' a' w' hE hs=>.here (hb E' a' w' hE hs)
theorem Reach.goes {Stop:Goroutine→World→Prop} {a:Goroutine} (hG:GoesW P (h == 0) (Aw E.W) E.D Stop a w):Reach P h (fun E' a' w'=>E.Eq h E'∧∀ w₁,Aw E.W w' w₁→Stop a' w₁) E a w:=by
 intro gs T q sl C ha
 obtain ⟨N,gs',a',w',sl',T',E',q',h1,h2,h3,h4,h5,h6⟩:=C.walkR (sl:=sl) hG ha
 exact ⟨N,gs',a',w',sl',T',E',q',h1,by omega,h3,h5.toLe,h6,h5,h4⟩
def RG (P:Program) (h:Nat) (Stop:Env→Goroutine→World→Prop) (E:Env) (a:Goroutine) (w:World):Prop:=∀ E' w₁,E.Eq h E'→Aw E.W w w₁→Reach P h Stop E' a w₁
end
structure Clo (P:Program) (main:Bool) (W:Nat→Bool) (D:World→World→Array Event→Prop) (Good:Goroutine→World→Prop):Prop where
 goes:∀ g w,GoesW P main (Aw W) D Good g w→Good g w
 rely:∀ g w w₁,Aw W w w₁→Good g w→Good g w₁
theorem RG.clo (P:Program) (h:Nat) (Stop:Env→Goroutine→World→Prop) (E:Env):Clo P (h == 0) E.W E.D (RG P h Stop E):=by
 refine ⟨fun g w hg E' w₁ hE hA=>?_,fun g w w₁ hA hg E' w₂ hE hA2=>hg E' w₂ hE (hA.trans _ _ _ hA2)⟩
 have hG:GoesW P (h == 0) (Aw E'.W) E'.D (RG P h Stop E) g w₁:=by rw [hE.W',hE.D]; exact hg.rely Aw.trans hA
 refine (Reach.goes hG).bind fun E'' a' w' hLe ⟨hEq,hs⟩=>?_
 exact (hs w' (Aw.refl _ _)) E'' w' (hE.trans hEq) (Aw.refl _ _)
section
variable {P:Program} {main:Bool} {W:Nat→Bool} {D:World→World→Array Event→Prop} {Good:Goroutine→World→Prop}
theorem Clo.own (c:Clo P main W D Good) {g:Goroutine} {w:World} (hs:g.status=.running) (h:∀ w₁,Aw W w w₁→∃ g' w' es,stepG P main g w₁=.go g' w' es∧D w₁ w' es∧Good g' w'):Good g w :=
 c.goes _ _ (.step' hs fun w₁ h1=>by
  obtain ⟨g',w',es,e1,e2,e3⟩:=h w₁ h1
  exact ⟨g',w',es,e1,e2,.stop fun w₂ h2=>c.rely _ _ _ h2 e3⟩)
theorem Clo.ctl (c:Clo P main W D Good) (hD:∀ w,D w w #[]) {g g':Goroutine} {w:World} (hs:g.status=.running) (h:∀ w₁,stepG P main g w₁=.go g' w₁ #[]) (hg:Good g' w):Good g w :=
 c.own hs fun w₁ h1=>⟨g',w₁,#[],h w₁,hD w₁,c.rely _ _ _ h1 hg⟩
variable {b:Frame} {a:Act} {k:List Item} {cs:List Frame} {w:World}
theorem Clo.skip (c:Clo P main W D Good) (hD:∀ w,D w w #[]) (h:Good (G (b.at a k) cs) w):Good (G (b.at a (.code .skip :: k)) cs) w:=c.ctl hD rfl (fun _=>stepG_skip) h
theorem Clo.label (c:Clo P main W D Good) (hD:∀ w,D w w #[]) {l:Nat} (h:Good (G (b.at a k) cs) w):Good (G (b.at a (.code (.label l) :: k)) cs) w:=c.ctl hD rfl (fun _=>stepG_label) h
theorem Clo.inBlock (c:Clo P main W D Good) (hD:∀ w,D w w #[]) {id:Nat} (h:Good (G (b.at a k) cs) w):Good (G (b.at a (.inBlock id :: k)) cs) w:=c.ctl hD rfl (fun _=>stepG_inBlock) h
theorem Clo.seq (c:Clo P main W D Good) (hD:∀ w,D w w #[]) {x y:Code} (h:Good (G (b.at a (.code x :: .code y :: k)) cs) w):Good (G (b.at a (.code (.seq x y) :: k)) cs) w:=c.ctl hD rfl (fun _=>stepG_seq) h
theorem Clo.cond (c:Clo P main W D Good) (hD:∀ w,D w w #[]) {o:Operand} {x y:Code} {t:Bool} (ht:a.eval o=.bool t) (h:Good (G (b.at a (.code (if t then x else y) :: k)) cs) w):Good (G (b.at a (.code (.cond o x y) :: k)) cs) w:=c.ctl hD rfl (fun _=>stepG_cond ht) h
theorem Clo.block (c:Clo P main W D Good) (hD:∀ w,D w w #[]) {id:Nat} {x:Code} (h:Good (G (b.at a (.code x :: .inBlock id :: k)) cs) w):Good (G (b.at a (.code (.block id x) :: k)) cs) w:=c.ctl hD rfl (fun _=>stepG_block) h
theorem Clo.loop (c:Clo P main W D Good) (hD:∀ w,D w w #[]) {x:Code} (h:Good (G (b.at a (.code x :: .inLoop x :: k)) cs) w):Good (G (b.at a (.code (.loop x) :: k)) cs) w:=c.ctl hD rfl (fun _=>stepG_loop) h
theorem Clo.inLoop (c:Clo P main W D Good) (hD:∀ w,D w w #[]) {x:Code} (h:Good (G (b.at a (.code x :: .inLoop x :: k)) cs) w):Good (G (b.at a (.inLoop x :: k)) cs) w:=c.ctl hD rfl (fun _=>stepG_inLoop) h
theorem Clo.exit (c:Clo P main W D Good) (hD:∀ w,D w w #[]) {id:Nat} {k':List Item} (hk:exitTo id k=some k') (h:Good (G (b.at a k') cs) w):Good (G (b.at a (.code (.exit id) :: k)) cs) w:=c.ctl hD rfl (fun _=>stepG_exit hk) h
theorem Clo.region (c:Clo P main W D Good) (hD:∀ w,D w w #[]) {id:Nat} {ops:Array Oper} (h:Good (G (b.at a (.inRegion ops (List.range ops.size) :: k)) cs) w):Good (G (b.at a (.code (.region id ops false) :: k)) cs) w:=c.ctl hD rfl (fun _=>stepG_region) h
theorem Clo.ret (c:Clo P main W D Good) (hD:∀ w,D w w #[]) (h:Good (G { b.at a (.code .ret :: k) with mode:=.returning } cs) w):Good (G (b.at a (.code .ret :: k)) cs) w:=c.ctl hD rfl (fun _=>stepG_ret') h
theorem Clo.value (c:Clo P main W D Good) {ops:Array Oper} {i:Nat} {rest:List Nat} {o:Oper} {v:Value} (ho:ops[i]?=some o) (hw:Region.wanted o (yielded ops a.tmps)=true) (hk:b.kind≠.early)
  (hr:∀ w₁,Aw W w w₁→(execOp a.eval o).run P w₁=.ok (.value v) w₁∧D w₁ w₁ (listed P b.fn a o w₁)) (hg:Good (G (b.at (a.put o.dst v) (.inRegion ops rest :: k)) cs) w):Good (G (b.at a (.inRegion ops (i :: rest) :: k)) cs) w :=
 c.own rfl fun w₁ h1=>⟨_,w₁,_,stepG_value ho hw hk (hr w₁ h1).1,(hr w₁ h1).2,c.rely _ _ _ h1 hg⟩
theorem Clo.unwanted (c:Clo P main W D Good) (hD:∀ w,D w w #[]) {ops:Array Oper} {i:Nat} {rest:List Nat} {o:Oper} (ho:ops[i]?=some o) (hw:Region.wanted o (yielded ops a.tmps)=false) (hg:Good (G (b.at (a.put o.dst undef) (.inRegion ops rest :: k)) cs) w) :
  Good (G (b.at a (.inRegion ops (i :: rest) :: k)) cs) w:=c.ctl hD rfl (fun _=>stepG_unwanted ho hw) hg
theorem Clo.quiet {H:Nat→Option Nat} {F:FuncId→Bool} (c:Clo P main W D Good) (hC:Closed P F) (hD:Lets H W D) {x:Code} (hq:quietCode P F x=true) (hk:b.kind=.normal) (ha:a.defers=[]) (hfit:Fit H W w) {Q:Act→World→Prop}
  (hwp:∀ τ,x.wp P (fun e a' x'=>e=.normal∧a'.defers=[]∧∀ w' τ' d,x'=rt (vw H w') τ' d→Far H W w w'→Fit H W w'→Q a' w') a (rt (vw H w) τ 0))
  (hg:∀ a' w',a'.defers=[]→Far H W w w'→Fit H W w'→Q a' w'→Good (G (b.at a' k) cs) w'):Good (G (b.at a (.code x :: k)) cs) w :=
 c.goes _ _ ((bridge hC hD hq hk ha hfit hwp).mono fun g w' ⟨a',h1,h2,h3,h4,h5⟩=>h2 ▸ hg a' w' h1 h3 h4 h5)
end
def H0 (w:World):Nat→Option Nat:=fun b=>match w.heap[b]? with
 | some o=>if o.fair=true then none else some 0
 | none=>none
def Env.zero (w:World):Env:=⟨fun _=>.gone,fun _ _=>none,fun _=>none,fun _=>false,H0 w,fun _=>0,fun _=>0,w⟩
theorem fit_zero (w:World):Fit (H0 w) (fun _=>false) w:=by
 refine ⟨fun b o ho=>?_,fun b hb=>?_,fun b n o hD ho=>?_,fun b hb=>(by cases hb),fun b hb=>(by cases hb)⟩
 ·rw [vw_get] at ho
  cases hx:w.heap[b]? with
  | none=>rw [hx] at ho; cases ho
  | some x =>
    rw [hx] at ho
    simp only [Option.map_some,Option.some.injEq] at ho
    subst ho
    unfold hideAt H0
    rw [hx]
    by_cases hf:x.fair=true
    ·simp only [hf,if_true]
    ·simp only [hf,if_false,Bool.false_eq_true]
     cases x <;> first | rfl | exact absurd rfl hf
 ·unfold H0
  rw [Array.getElem?_eq_none hb]
 ·unfold H0 at hD
  rw [ho] at hD
  simp only at hD
  by_cases hf:o.fair=true
  ·rw [if_pos hf] at hD; cases hD
  ·cases o <;> first | exact .inr (.inl ⟨_,_,rfl⟩) | exact .inr (.inr (.inr ⟨_,_,rfl⟩)) | exact absurd rfl hf
theorem Co.start (P:Program) (a:Goroutine) (w:World):Co P (Env.zero w) 0 0 #[] #[a] w (fun _=>0):=by
 have hd:∀ g,Deaf (#[]:Trace) g=0:=fun g=>rfl
 refine ⟨by simp,fun i g hi hg=>?_,fun i c home _ _ e=>(by cases e),fun i i' c home home' _ _ _ _ e=>(by cases e),fun j _=>hd j,fun i a v e=>(by cases e),fun i a hs=>(by cases hs),fit_zero w,fun i a hs=>(by cases hs),fun i c home e=>(by cases e),
  ⟨fun said hr=>?_,fun i a ha=>?_,fun i a ha=>?_,fun i a ha=>?_,fun g _ _=>hd g,hd 0,fun op hop=>by simp at hop⟩,fun i b _ e=>(by cases e),fun i _=>⟨rfl,rfl,fun _=>rfl⟩,fun b hb=>(by cases hb),fun b hb=>(by cases hb),fun b hb=>(by cases hb),fun b hb=>(by cases hb),fun b _=>⟨rfl,rfl⟩,fun i i' b f f' _ _ _ _ e=>(by cases e),SameIo.refl _⟩
 ·have:=(Array.getElem?_eq_some_iff.1 hg).1
  simp at this
  omega
 ·obtain ⟨i,j,_,⟨a,b,ha,_⟩,_⟩:=hr
  simp [Trace.act?] at ha
 all_goals simp [touchAt,Trace.act?] at ha
def AtRet (P:Program) (Post:Value→World→Prop) (E:Env) (a:Goroutine) (w:World):Prop :=
 a.status=.running∧(∀ i,0 < i→E.role i=.gone)∧∀ w',Aw E.W w w'→∃ v es,stepG P true a w'=.ended (.done v) w' es∧(∀ e ∈ es,EvG E.S E.W w'.heap.size e)∧Post v w'
section
variable {P:Program} {E:Env} {h dh:Nat} {T:Trace} {gs:Array Goroutine} {w:World} {q:Nat→Nat}
theorem Co.ends (C:Co P E 0 0 T gs w q) {a:Goroutine} {Post:Value→World→Prop} (ha:gs[0]?=some a) (hr:AtRet P Post E a w) {sl:Option (Nat × Nat)} :
  ∃ N last o w' t',runNT P (N+1) (crowd gs w sl) T=(.ended o w',t')∧runN P N (crowd gs w sl)=.next last∧step P last=.ended o w'∧Good P Post last o w' t':=by
 obtain ⟨hrun,hg0,hend⟩:=hr
 obtain ⟨N,gs₁,w₁,sl₁,w₂,sl₂,T₁,q₁,E1,h1,h2,h3,h4,h5,h6,h7⟩:=C.picked (sl:=sl) ha hrun
 obtain ⟨v,es,hst,hes,hpost⟩:=hend w₂ h5
 have hgone:=fun i hi=>h6.gone i (hg0 i hi)
 have hrT:=runT_many_ended (P:=P) (sl:=sl₂) (i:=0) h4 (show stepG P (0 == 0) a w₂=_ from hst)
 have hsT:=h2.trans hrT
 have hp:=h7.past_own (fn:=a.frame.fn) (pos:=a.frame.place) (es:=es) (Nat.le_refl _) (by rw [h6.S,h6.W']; exact hes)
 obtain ⟨hc1,hc2⟩:=hp.over (fun g ⟨g1,g2,g3⟩=>by rw [hgone g (by omega)] at g3; cases g3)
 have hq:∀ j x,0 < j→gs₁[j]?=some x→QuitsD P (q₁ j) (Deaf T₁ j) x:=fun j x hj hx=>by
  have:=h7.idle j x (by omega) hx
  unfold Idle at this
  rw [hgone j hj] at this
  exact this.2.1
 refine ⟨N,crowd gs₁ w₁ sl₁,.done v,w₂,T₁ ++ MemOp.ofEvents 0 a.frame.fn a.frame.place es,?_,?_,by simp [step,hsT],v,rfl,hpost,hc1,hc2,⟨fun x hx=>?_,rfl⟩,fun j x hx hj=>?_⟩
 ·rw [runNT_add,h1]
  simp only [runNT,hsT]
 ·rw [← runNT_fst P N _ T,h1]
 ·obtain ⟨j,hj⟩:=List.mem_iff_getElem?.1 hx
  rw [List.getElem?_drop] at hj
  exact ⟨_,(hq (1+j) x (by omega) (by simpa [crowd] using hj)).leaves⟩
 ·refine ⟨q₁ j,?_⟩
  have e:(T₁ ++ MemOp.ofEvents 0 a.frame.fn a.frame.place es).deaf j (T₁ ++ MemOp.ofEvents 0 a.frame.fn a.frame.place es).size=Deaf T₁ j :=
   Deaf_other T₁ (g:=j) (g':=0) (by omega) _ ofE_g
  rw [e]
  exact (hq j x (by omega) hx).hears _
end
end Go.Proofs.Ytimlbbleblijnaa.Co
