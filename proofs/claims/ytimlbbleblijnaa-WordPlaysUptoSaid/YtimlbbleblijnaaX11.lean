/- Lemmas for the laws of this seat, laid together of PGao, PGap, PGaq, PGar, PGas. -/
import Derived.Test.YtimlbbleblijnaaX10

set_option linter.unusedVariables false
set_option linter.unusedSimpArgs false
set_option maxRecDepth 100000
set_option maxHeartbeats 4000000
namespace Go.Proofs.Ytimlbbleblijnaa.Co
open Go Go.Conc
open Go.ConcN (sumTo upd sumTo_upd upd_ne upd_same sumTo_congr le_sumTo)
structure Mv (h rb:Nat) (th:Th) (E:Env) (w:World) (E':Env) (w':World):Prop where
 seat:∀ x c home,x≠th.j→x≠h→(E.role x=.seat c home ↔ E'.role x=.seat c home)
 gone:∀ x,x≠th.j→x≠h→E.role x=.gone→E'.role x=.gone
 St:∀ x a v,E.St x a=some v→E'.St x a=some v
 StN:∀ i a,E'.St i a≠none→E.St i a≠none∨(a.block=th.gb∧a.off < 3)∨w.heap.size≤a.block
 W:∀ b,E.W b=true→E'.W b=true
 WN:∀ b,E'.W b=true→E.W b=true∨w.heap.size≤b
 H:∀ b n,E.H b=some n→E'.H b=some n
 wg:∀ x b,x≠th.j→E'.wg x=some b→E.wg x=some b
 wgH:E'.wg h=E.wg h
 wgS:∀ x,x≠th.j→x≠h→(E.role x).sits=true→E'.wg x=E.wg x
 wgj:∀ b,E'.wg th.j=some b→E.wg th.j=some b∨b=rb
 ex:∀ b,b≠rb→E'.ex b=E.ex b
 mode:∀ b,E.mode b=0→E'.mode b=0
 size:w.heap.size≤w'.heap.size
 heap:∀ b n,E.H b=some n→E.W b=false→b≠th.gb→b≠th.ct→b≠th.cs→b < w.heap.size→w'.heap[b]?=w.heap[b]?
 heapW:∀ b,E.W b=true→b≠rb→∀ x st sm e,w.heap[b]?=some (runObj x st sm e)→∃ st' sm',w'.heap[b]?=some (runObj x st' sm' e)
 io:E'.io=E.io
section
variable {h rb:Nat} {th:Th} {E E' E'':Env} {w w' w'':World}
theorem Mv.refl (h rb:Nat) (th:Th) (E:Env) (w:World):Mv h rb th E w E w :=
 ⟨fun _ _ _ _ _=>Iff.rfl,fun _ _ _ e=>e,fun _ _ _ e=>e,fun _ _ e=>.inl e,fun _ e=>e,fun _ e=>.inl e,fun _ _ e=>e,fun _ _ _ e=>e,rfl,fun _ _ _ _=>rfl,fun _ e=>.inl e,fun _ _=>rfl,fun _ e=>e,Nat.le_refl _,fun _ _ _ _ _ _ _ _=>rfl,fun _ _ _ x st sm e hx=>⟨st,sm,hx⟩,by first | rfl | exact m.io | exact a.io | exact a.le.io | exact b.io.trans a.io | exact a.1.io⟩
theorem Mv.W_false (a:Mv h rb th E w E' w') {b:Nat} (hl:b < w.heap.size) (hb:E.W b=false):E'.W b=false:=by
 cases e:E'.W b with
 | false=>rfl
 | true =>
   rcases a.WN b e with z | z
   ·rw [hb] at z; cases z
   ·omega
theorem Mv.sits (a:Mv h rb th E w E' w') {x:Nat} (hj:x≠th.j) (hh:x≠h):(E'.role x).sits=(E.role x).sits:=by
 cases e:E.role x with
 | seat c home=>rw [(a.seat x c home hj hh).1 e]
 | _ =>
   cases e':E'.role x with
   | seat c home=>have:=(a.seat x c home hj hh).2 e'; rw [e] at this; cases this
   | _=>rfl
theorem Mv.trans (a:Mv h rb th E w E' w') (b:Mv h rb th E' w' E'' w''):Mv h rb th E w E'' w'':=by
 refine ⟨fun x c home h1 h2=>(a.seat x c home h1 h2).trans (b.seat x c home h1 h2),fun x h1 h2 e=>b.gone x h1 h2 (a.gone x h1 h2 e),fun x ad v e=>b.St x ad v (a.St x ad v e),fun i ad e=>?_,fun x e=>b.W x (a.W x e),fun c e=>?_,fun x n e=>b.H x n (a.H x n e),fun x c h1 e=>a.wg x c h1 (b.wg x c h1 e),b.wgH.trans a.wgH,
  fun x h1 h2 e=>(b.wgS x h1 h2 (by rw [a.sits h1 h2]; exact e)).trans (a.wgS x h1 h2 e),fun c e=>?_,fun c hc=>(b.ex c hc).trans (a.ex c hc),fun c e=>b.mode c (a.mode c e),Nat.le_trans a.size b.size,fun c n h1 h2 h3 h4 h5 h6=>?_,fun c h1 h2 x st sm e hx=>?_,by first | rfl | exact m.io | exact a.io | exact a.le.io | exact b.io.trans a.io | exact a.1.io⟩
 ·rcases b.StN i ad e with z | z | z
  ·exact a.StN i ad z
  ·exact .inr (.inl z)
  ·exact .inr (.inr (Nat.le_trans a.size z))
 ·rcases b.WN c e with z | z
  ·exact a.WN c z
  ·exact .inr (Nat.le_trans a.size z)
 ·rcases b.wgj c e with z | z
  ·exact a.wgj c z
  ·exact .inr z
 ·rw [b.heap c n (a.H c n h1) (a.W_false h6 h2) h3 h4 h5 (Nat.lt_of_lt_of_le h6 a.size),a.heap c n h1 h2 h3 h4 h5 h6]
 ·obtain ⟨st',sm',h3⟩:=a.heapW c h1 h2 x st sm e hx
  exact b.heapW c (a.W c h1) h2 x st' sm' e h3
theorem Kept.mv {j:Nat} {gb:Option Nat} (a:Kept j gb E w E' w') (hg:gb=some th.gb∨gb=none) (hh:j=h∨(E.role h).sits=true):Mv h rb th E w E' w' :=
 ⟨fun x c home _ _=>a.le.seat x c home,fun x _ _ e=>a.le.gone x e,a.le.St,fun i ad e=>(a.StN i ad e).imp id .inr,a.le.W,a.WN,a.le.H,fun x b _ e=>a.le.wg x b e,by
  rcases hh with rfl | hh
  ·exact a.le.wgH
  ·exact a.le.wgS h hh,fun x _ _ e=>a.le.wgS x e,fun b e=>.inl (a.le.wg _ b e),fun b _=>congrFun a.le.ex b,a.le.mode,a.size,fun b n h1 h2 h3 _ _ h6=>a.heap b n h1 h2 (by rcases hg with rfl | rfl <;> simp; exact fun e=>h3 e.symm) h6,fun b h1 _ x st sm e hx=>a.heapW b h1 x st sm e hx,by first | rfl | exact m.io | exact a.io | exact a.le.io | exact b.io.trans a.io | exact a.1.io⟩
theorem AtE.mv {j:Nat} (a:AtE j E w E' w') (hh:j=h∨(E.role h).sits=true):Mv h rb th E w E' w':=(Kept.of_at (gb:=none) a).mv (.inr rfl) hh
theorem Mv.role {x:Nat} (r:Role) (hx:x=th.j∨x=h):Mv h rb th E w (E.setRole x r) w:=by
 have key:∀ y,y≠th.j→y≠h→(E.setRole x r).role y=E.role y:=fun y h1 h2=>upd_ne _ _ (by rcases hx with rfl | rfl <;> assumption)
 exact ⟨fun y c home h1 h2=>by rw [key y h1 h2],fun y h1 h2 e=>by rw [key y h1 h2]; exact e,fun _ _ _ e=>e,fun _ _ e=>.inl e,fun _ e=>e,fun _ e=>.inl e,fun _ _ e=>e,fun _ _ _ e=>e,rfl,fun _ _ _ _=>rfl,fun _ e=>.inl e,fun _ _=>rfl,fun _ e=>e,Nat.le_refl _,fun _ _ _ _ _ _ _ _=>rfl,fun _ _ _ x st sm e hx=>⟨st,sm,hx⟩,by first | rfl | exact m.io | exact a.io | exact a.le.io | exact b.io.trans a.io | exact a.1.io⟩
theorem Mv.world (hsz:w'.heap.size=w.heap.size) (hh:∀ b,b≠th.gb→b≠th.ct→b≠th.cs→b≠rb→w'.heap[b]?=w.heap[b]?) (hr:E.W rb=true) (hgW:E.W th.gb=false) (hctW:E.W th.ct=false) (hcsW:E.W th.cs=false):Mv h rb th E w E w' :=
 ⟨fun _ _ _ _ _=>Iff.rfl,fun _ _ _ e=>e,fun _ _ _ e=>e,fun _ _ e=>.inl e,fun _ e=>e,fun _ e=>.inl e,fun _ _ e=>e,fun _ _ _ e=>e,rfl,fun _ _ _ _=>rfl,fun _ e=>.inl e,fun _ _=>rfl,fun _ e=>e,Nat.le_of_eq hsz.symm,fun b n _ h2 h3 h4 h5 _=>hh b h3 h4 h5 (fun e=>by rw [e,hr] at h2; cases h2),fun b h1 h2 x st sm e hx=>⟨st,sm,by
  rw [hh b (fun e=>by rw [e,hgW] at h1; cases h1) (fun e=>by rw [e,hctW] at h1; cases h1) (fun e=>by rw [e,hcsW] at h1; cases h1) h2]; exact hx⟩,by first | rfl | exact m.io | exact a.io | exact a.le.io | exact b.io.trans a.io | exact a.1.io⟩
theorem Mv.hire {S:Addr→Option Value} {r:Role} (hSt:∀ a,E.St th.j a=none) (hjh:th.j≠h) (hS:∀ a,S a≠none→a.block=th.gb∧a.off < 3):Mv h rb th E w (E.hireE h r th.j rb S) w:=by
 have hr:∀ y,y≠h→(E.hireE h r th.j rb S).role y=E.role y:=fun y h2=>upd_ne _ _ h2
 have hst:∀ y,y≠th.j→(E.hireE h r th.j rb S).St y=E.St y:=fun y h1=>upd_ne _ _ h1
 have hstj:(E.hireE h r th.j rb S).St th.j=S:=upd_same ..
 have hwg:∀ y,y≠th.j→(E.hireE h r th.j rb S).wg y=E.wg y:=fun y h1=>upd_ne _ _ h1
 have hwgj:(E.hireE h r th.j rb S).wg th.j=some rb:=upd_same ..
 refine ⟨fun y c home h1 h2=>by rw [hr y h2],fun y h1 h2 e=>by rw [hr y h2]; exact e,fun y a v e=>?_,fun i a e=>?_,fun _ e=>e,fun _ e=>.inl e,fun _ _ e=>e,fun y b h1 e=>by rw [hwg y h1] at e; exact e,hwg h (fun e=>hjh e.symm),fun y h1 _ _=>hwg y h1,fun b e=>?_,fun b hb=>upd_ne _ _ hb,fun _ e=>e,Nat.le_refl _,fun _ _ _ _ _ _ _ _=>rfl,fun _ _ _ x st sm e hx=>⟨st,sm,hx⟩,by first | rfl | exact m.io | exact a.io | exact a.le.io | exact b.io.trans a.io | exact a.1.io⟩
 ·by_cases h1:y=th.j
  ·rw [h1,hSt a] at e; cases e
  ·rw [hst y h1]; exact e
 ·by_cases h1:i=th.j
  ·rw [h1,hstj] at e; exact .inr (.inl (hS a e))
  ·rw [hst i h1] at e; exact .inl e
 ·rw [hwgj] at e; exact .inr (Option.some.inj e).symm
theorem Mv.hide {x:Nat} {H':Nat→Option Nat} {S':Addr→Option Value} (hH:∀ b n,E.H b=some n→H' b=some n) (hS:∀ a v,E.St x a=some v→S' a=some v) (hS2:∀ a,S' a≠none→E.St x a≠none∨(a.block=th.gb∧a.off < 3)∨w.heap.size≤a.block) (hsz:w.heap.size≤w'.heap.size) (hh:∀ b,b < w.heap.size→w'.heap[b]?=w.heap[b]?) :
  Mv h rb th E w { E with H:=H',St:=upd E.St x S' } w':=by
 refine ⟨fun _ _ _ _ _=>Iff.rfl,fun _ _ _ e=>e,fun y a v e=>?_,fun i a e=>?_,fun _ e=>e,fun _ e=>.inl e,hH,fun _ _ _ e=>e,rfl,fun _ _ _ _=>rfl,fun _ e=>.inl e,fun _ _=>rfl,fun _ e=>e,hsz,fun b _ _ _ _ _ _ h6=>hh b h6,fun b h1 _ x st sm e hx=>⟨st,sm,by rw [hh b (Array.getElem?_eq_some_iff.1 hx).1]; exact hx⟩,by first | rfl | exact m.io | exact a.io | exact a.le.io | exact b.io.trans a.io | exact a.1.io⟩
 ·show upd E.St x S' y a=some v
  by_cases h1:y=x
  ·subst h1; rw [upd_same]; exact hS a v e
  ·rw [upd_ne _ _ h1]; exact e
 ·have e':upd E.St x S' i a≠none:=e
  by_cases h1:i=x
  ·subst h1; rw [upd_same] at e'; exact hS2 a e'
  ·rw [upd_ne _ _ h1] at e'; exact .inl e'
end
structure Base (h rb:Nat) (J:Nat→Prop) (E0:Env) (w0:World) (E:Env) (w:World):Prop where
 seat:∀ x c home,¬ J x→x≠h→(E0.role x=.seat c home ↔ E.role x=.seat c home)
 gone:∀ x,¬ J x→x≠h→E0.role x=.gone→E.role x=.gone
 newR:∀ x,J x→(E0.role x).sits=false∧(∀ a,E0.St x a=none)∧x≠h
 role0:E0.role h=.gone
 St:∀ x a v,E0.St x a=some v→E.St x a=some v
 StN:∀ i a,E.St i a≠none→E0.St i a≠none∨w0.heap.size≤a.block
 W:∀ b,E0.W b=true→E.W b=true
 WN:∀ b,E.W b=true→E0.W b=true∨w0.heap.size≤b
 H:∀ b n,E0.H b=some n→E.H b=some n
 wg:∀ x b,¬ J x→E.wg x=some b→E0.wg x=some b
 wgH:E.wg h=E0.wg h
 wgS:∀ x,¬ J x→x≠h→(E0.role x).sits=true→E.wg x=E0.wg x
 wgJ:∀ x b,J x→E.wg x=some b→b=rb
 ex:∀ b,b≠rb→E.ex b=E0.ex b
 mode0:∀ b,E0.mode b=0
 mode:∀ b,E.mode b=0
 size:w0.heap.size≤w.heap.size
 heap:∀ b n,E0.H b=some n→E0.W b=false→b < w0.heap.size→w.heap[b]?=w0.heap[b]?
 heapW:∀ b,E0.W b=true→∀ x st sm e,w0.heap[b]?=some (runObj x st sm e)→∃ st' sm',w.heap[b]?=some (runObj x st' sm' e)
 rN:w0.heap.size≤rb
 rW0:E0.W rb=false
 rX0:E0.ex rb=0
 io:E.io=E0.io
theorem Base.mv {h rb:Nat} {J:Nat→Prop} {E0:Env} {w0:World} {E E':Env} {w w':World} {th:Th} (B:Base h rb J E0 w0 E w) (m:Mv h rb th E w E' w') (hg:w0.heap.size≤th.gb) (hct:w0.heap.size≤th.ct) (hcs:w0.heap.size≤th.cs)
  (hj:J th.j∨((E0.role th.j).sits=false∧(∀ a,E0.St th.j a=none)∧th.j≠h∧∀ b,E.wg th.j=some b→b=rb)):Base h rb (fun x=>J x∨x=th.j) E0 w0 E' w':=by
 refine ⟨fun x c home h1 h2=>?_,fun x h1 h2 e=>?_,fun x h1=>?_,B.role0,fun x a v e=>m.St x a v (B.St x a v e),fun i a e=>?_,fun b e=>m.W b (B.W b e),fun b e=>?_,fun b n e=>m.H b n (B.H b n e),fun x b h1 e=>?_,m.wgH.trans B.wgH,fun x h1 h2 e=>?_,fun x b h1 e=>?_,fun b hb=>(m.ex b hb).trans (B.ex b hb),B.mode0,fun b=>m.mode b (B.mode b),Nat.le_trans B.size m.size,fun b n h1 h2 h3=>?_,fun b h1 x st sm e hx=>?_,B.rN,B.rW0,B.rX0,by first | exact B.io | exact m.io.trans B.io | exact a.1.io.trans B.io | exact B1.io | rfl⟩
 ·exact (B.seat x c home (fun z=>h1 (.inl z)) h2).trans (m.seat x c home (fun z=>h1 (.inr z)) h2)
 ·exact m.gone x (fun z=>h1 (.inr z)) h2 (B.gone x (fun z=>h1 (.inl z)) h2 e)
 ·rcases h1 with h1 | rfl
  ·exact B.newR x h1
  ·rcases hj with hj | ⟨j1,j2,j3,_⟩
   ·exact B.newR _ hj
   ·exact ⟨j1,j2,j3⟩
 ·rcases m.StN i a e with z | ⟨z,_⟩ | z
  ·exact B.StN i a z
  ·exact .inr (by rw [z]; exact hg)
  ·exact .inr (Nat.le_trans B.size z)
 ·rcases m.WN b e with z | z
  ·exact B.WN b z
  ·exact .inr (Nat.le_trans B.size z)
 ·exact B.wg x b (fun z=>h1 (.inl z)) (m.wg x b (fun z=>h1 (.inr z)) e)
 ·have hx1:x≠th.j:=fun z=>h1 (.inr z)
  have hs:(E.role x).sits=true:=by
   cases er:E0.role x with
   | seat c home=>rw [(B.seat x c home (fun z=>h1 (.inl z)) h2).1 er]; rfl
   | _=>rw [er] at e; cases e
  exact (m.wgS x hx1 h2 hs).trans (B.wgS x (fun z=>h1 (.inl z)) h2 e)
 ·by_cases hx:x=th.j
  ·subst hx
   rcases m.wgj b e with z | z
   ·rcases hj with hj | ⟨_,_,_,j4⟩
    ·exact B.wgJ _ b hj z
    ·exact j4 b z
   ·exact z
  ·exact B.wgJ x b (h1.resolve_right hx) (m.wg x b hx e)
 ·have hW:E.W b=false:=by
   cases e:E.W b with
   | false=>rfl
   | true =>
     rcases B.WN b e with z | z
     ·rw [h2] at z; cases z
     ·omega
  rw [m.heap b n (B.H b n h1) hW (by omega) (by omega) (by omega) (Nat.lt_of_lt_of_le h3 B.size),B.heap b n h1 h2 h3]
 ·obtain ⟨st',sm',h3⟩:=B.heapW b h1 x st sm e hx
  exact m.heapW b (B.W b h1) (fun z=>by rw [z,B.rW0] at h1; cases h1) x st' sm' e h3
def Th.bl (a:Th):List Nat:=[a.gb,a.ct,a.cs]
structure Apart (a b:Th):Prop where
 j:a.j≠b.j
 bl:∀ x ∈ a.bl,∀ y ∈ b.bl,x≠y
theorem Apart.symm {a b:Th} (h:Apart a b):Apart b a:=⟨fun e=>h.j e.symm,fun x hx y hy e=>h.bl y hy x hx e.symm⟩
structure TB (h rb:Nat) (th:Th) (E:Env) (w:World):Prop where
 hj:th.j≠h
 j0:0 < th.j
 gW:E.W th.gb=false
 gH:E.H th.gb=some 1
 ctH:E.H th.ct=some 0
 ctW:E.W th.ct=false
 ctC:∃ k',w.heap[th.ct]?=some (.chan 0 #[] false k' k' false)
 csH:E.H th.cs=some 0
 csW:E.W th.cs=false
 csC:∃ k',w.heap[th.cs]?=some (.chan 0 #[] false k' k' false)
 stT:E.St th.j ⟨th.gb,1,none⟩=some (.chan (some th.ct))
 stS:E.St h ⟨th.gb,2,none⟩=some (.chan (some th.cs))
 stB:E.St th.j ⟨th.box,0,none⟩=some (.pointer (some ⟨th.gb,0,none⟩))
 bW:E.W th.box=false
 bL:th.box < w.heap.size
 gL:th.gb < w.heap.size
 noSt:∀ i o,3≤o→E.St i ⟨th.gb,o,none⟩=none
 noT:∀ x home,x≠th.j→E.role x≠.seat th.ct home
 noS:∀ x home,x≠h→E.role x≠.seat th.cs home
theorem TB.mv {h rb:Nat} {th th':Th} {E E':Env} {w w':World} (T:TB h rb th' E w) (m:Mv h rb th E w E' w') (hct:∃ k',w'.heap[th'.ct]?=some (.chan 0 #[] false k' k' false)) (hcs:∃ k',w'.heap[th'.cs]?=some (.chan 0 #[] false k' k' false))
  (r1:∀ home,th.j≠th'.j→E'.role th.j≠.seat th'.ct home) (r2:∀ home,E'.role th.j≠.seat th'.cs home) (r3:∀ home,E'.role h≠.seat th'.ct home):TB h rb th' E' w':=by
 obtain ⟨k1,c1⟩:=T.ctC
 obtain ⟨k2,c2⟩:=T.csC
 refine ⟨T.hj,T.j0,m.W_false T.gL T.gW,m.H _ _ T.gH,m.H _ _ T.ctH,m.W_false (Array.getElem?_eq_some_iff.1 c1).1 T.ctW,hct,m.H _ _ T.csH,m.W_false (Array.getElem?_eq_some_iff.1 c2).1 T.csW,hcs,m.St _ _ _ T.stT,m.St _ _ _ T.stS,m.St _ _ _ T.stB,m.W_false T.bL T.bW,Nat.lt_of_lt_of_le T.bL m.size,Nat.lt_of_lt_of_le T.gL m.size,fun i o ho=>?_,fun x home hx e=>?_,fun x home hx e=>?_⟩
 ·cases e:E'.St i ⟨th'.gb,o,none⟩ with
  | none=>rfl
  | some v =>
    rcases m.StN i _ (by rw [e]; simp) with z | ⟨_,z⟩ | z
    ·exact absurd (T.noSt i o ho) z
    ·have z':o < 3:=z
     omega
    ·have z':w.heap.size≤th'.gb:=z
     have:=T.gL
     omega
 ·by_cases h1:x=th.j
  ·subst h1
   exact r1 home hx e
  ·by_cases h2:x=h
   ·subst h2; exact r3 home e
   ·exact T.noT x home hx ((m.seat x _ _ h1 h2).2 e)
 ·by_cases h1:x=th.j
  ·subst h1
   exact r2 home e
  ·exact T.noS x home hx ((m.seat x _ _ h1 hx).2 e)
section
variable {σ Λ:Type} (D:Prot σ Λ)
def TS (rb:Nat) (th:Th) (E:Env) (w:World):Option (Nat × Λ)→Prop
 | some (n,ℓ)=>E.role th.j=.seat th.ct (Srv D rb th n ℓ)∧E.wg th.j=some rb∧GA w rb th false false (D.tal ℓ)
 | none=>(E.role th.j).sits=false∧∃ fr tl,GA w rb th true fr tl
theorem TS.mv {D:Prot σ Λ} {h rb:Nat} {th th':Th} {E E':Env} {w w':World} {o:Option (Nat × Λ)} (S:TS D rb th' E w o) (T:TB h rb th' E w) (ap:Apart th' th) (m:Mv h rb th E w E' w'):TS D rb th' E' w' o:=by
 have hg:∀ en fr tl,GA w rb th' en fr tl→GA w' rb th' en fr tl:=fun en fr tl g=>by
  unfold GA at g ⊢
  rw [m.heap th'.gb 1 T.gH T.gW (ap.bl _ (by simp [Th.bl]) _ (by simp [Th.bl])) (ap.bl _ (by simp [Th.bl]) _ (by simp [Th.bl])) (ap.bl _ (by simp [Th.bl]) _ (by simp [Th.bl])) T.gL]; exact g
 match o,S with
 | some (n,ℓ),⟨s1,s2,s3⟩=>exact ⟨(m.seat _ _ _ ap.j T.hj).1 s1,(m.wgS _ ap.j T.hj (by rw [s1]; rfl)).trans s2,hg _ _ _ s3⟩
 | none,⟨s1,fr,tl,s2⟩=>exact ⟨(m.sits ap.j T.hj).trans s1,fr,tl,hg _ _ _ s2⟩
structure Phase (h rb:Nat) (E0:Env) (w0:World) (Pv:Nat→Option Obj) (ths:List Th) (st:List (Option (Nat × Λ))) (s:σ) (k:Int) (E:Env) (w:World):Prop where
 base:Base h rb (fun x=>∃ th ∈ ths,x=th.j) E0 w0 E w
 role:E.role h=.gone
 len:st.length=ths.length
 tb:∀ th ∈ ths,TB h rb th E w
 new:∀ th ∈ ths,w0.heap.size≤th.gb∧w0.heap.size≤th.ct∧w0.heap.size≤th.cs
 apart:∀ (t t':Nat) (th th':Th),t≠t'→ths[t]?=some th→ths[t']?=some th'→Apart th th'
 self:∀ th ∈ ths,th.gb≠th.ct∧th.gb≠th.cs∧th.ct≠th.cs
 ts:∀ (t:Nat) (th:Th) (o:Option (Nat × Λ)),ths[t]?=some th→st[t]?=some o→TS D rb th E w o
 ex:E.ex rb=0
 rW:E.W rb=true
 rL:Live rb w
 pick:w.cell? ⟨rb,0,none⟩=some (.int .i64 k)
 M:D.M s E w
 pv:∀ b o,Pv b=some o→w.heap[b]?=some o∧E.H b=some 0∧E.W b=false∧(∀ th ∈ ths,b ∉ th.bl)∧∀ i a,a.block=b→E.St i a=none
 fits:∀ (t m:Nat) (ℓ:Λ),st[t]?=some (some (m,ℓ))→D.fits ℓ s∧D.who ℓ=t
variable {D} {Pv:Nat→Option Obj} {h rb:Nat} {E0 E E':Env} {w0 w w':World} {ths:List Th} {st:List (Option (Nat × Λ))} {s:σ} {k:Int} {J:Nat→Prop} {t n:Nat} {th:Th} {o:Option Λ}
theorem Phase.after (B:Base h rb J E0 w0 E w) (hJ:∀ x,(J x∨x=th.j) ↔ ∃ th ∈ ths,x=th.j) (hj:J th.j∨((E0.role th.j).sits=false∧(∀ a,E0.St th.j a=none)∧th.j≠h∧∀ b,E.wg th.j=some b→b=rb))
  (hlen:st.length=ths.length) (hnew:∀ th ∈ ths,w0.heap.size≤th.gb∧w0.heap.size≤th.ct∧w0.heap.size≤th.cs) (hap:∀ (t t':Nat) (th th':Th),t≠t'→ths[t]?=some th→ths[t']?=some th'→Apart th th') (hself:∀ th ∈ ths,th.gb≠th.ct∧th.gb≠th.cs∧th.ct≠th.cs)
  (ho:∀ t' th',t'≠t→ths[t']?=some th'→TB h rb th' E w∧∀ o,st[t']?=some o→TS D rb th' E w o)
  (m:Mv h rb th E w E' w') (hr:E'.role h=.gone) (hrj:E'.role th.j=roleOf (Srv D rb th n) rb th o) (htb:TB h rb th E' w') (hts:TS D rb th E' w' (o.map (fun ℓ=>(n,ℓ)))) (ht:ths[t]?=some th) (hst:st[t]?=some (o.map (fun ℓ=>(n,ℓ))))
  (hex:E'.ex rb=0) (hrW:E'.W rb=true) (hrL:Live rb w') (hpick:w'.cell? ⟨rb,0,none⟩=some (.int .i64 k)) (hM:D.M s E' w') (hpv:∀ b o,Pv b=some o→w.heap[b]?=some o∧E.H b=some 0∧E.W b=false∧(∀ th ∈ ths,b ∉ th.bl)∧∀ i a,a.block=b→E.St i a=none) (hfits:∀ (t m:Nat) (ℓ:Λ),st[t]?=some (some (m,ℓ))→D.fits ℓ s∧D.who ℓ=t):Phase D h rb E0 w0 Pv ths st s k E' w':=by
 have hmem:th ∈ ths:=List.mem_of_getElem? ht
 obtain ⟨n1,n2,n3⟩:=hnew th hmem
 have hB:=B.mv m n1 n2 n3 hj
 have hJ':(fun x=>J x∨x=th.j)=(fun x=>∃ th ∈ ths,x=th.j):=funext fun x=>propext (hJ x)
 rw [hJ'] at hB
 have hoth:∀ t' th',t'≠t→ths[t']?=some th'→TB h rb th' E' w'∧∀ o,st[t']?=some o→TS D rb th' E' w' o:=fun t' th' hne e=>by
  obtain ⟨T,hS⟩:=ho t' th' hne e
  have ap:=hap t' t th' th hne e ht
  obtain ⟨k1,c1⟩:=T.ctC
  obtain ⟨k2,c2⟩:=T.csC
  have q:∀ x ∈ th'.bl,x≠th.gb∧x≠th.ct∧x≠th.cs:=fun x hx=>⟨ap.bl x hx _ (by simp [Th.bl]),ap.bl x hx _ (by simp [Th.bl]),ap.bl x hx _ (by simp [Th.bl])⟩
  obtain ⟨a1,a2,a3⟩:=q th'.ct (by simp [Th.bl])
  obtain ⟨b1,b2,b3⟩:=q th'.cs (by simp [Th.bl])
  refine ⟨T.mv m ⟨k1,by rw [m.heap _ 0 T.ctH T.ctW a1 a2 a3 (Array.getElem?_eq_some_iff.1 c1).1]; exact c1⟩ ⟨k2,by rw [m.heap _ 0 T.csH T.csW b1 b2 b3 (Array.getElem?_eq_some_iff.1 c2).1]; exact c2⟩ (fun home _ e=>?_) (fun home e=>?_) (fun home e=>by rw [hr] at e; cases e),fun o ho=>(hS o ho).mv T ap m⟩
  ·rw [hrj] at e
   cases o with
   | none=>cases e
   | some ℓ =>
     have e':Role.seat th.ct (Srv D rb th n ℓ)=.seat th'.ct home:=e
     injection e' with z _
     exact a2 z.symm
  ·rw [hrj] at e
   cases o with
   | none=>cases e
   | some ℓ =>
     have e':Role.seat th.ct (Srv D rb th n ℓ)=.seat th'.cs home:=e
     injection e' with z _
     exact b2 z.symm
 refine ⟨hB,hr,hlen,fun th' hm=>?_,hnew,hap,hself,fun t' th' o' e1 e2=>?_,hex,hrW,hrL,hpick,hM,fun b o e=>?_,hfits⟩
 ·obtain ⟨t',ht'⟩:=List.mem_iff_getElem?.1 hm
  by_cases e:t'=t
  ·subst e
   rw [ht] at ht'
   obtain rfl:=Option.some.inj ht'
   exact htb
  ·exact (hoth t' th' e ht').1
 ·by_cases e:t'=t
  ·subst e
   rw [ht] at e1
   obtain rfl:=Option.some.inj e1
   rw [hst] at e2
   obtain rfl:=Option.some.inj e2
   exact hts
  ·exact (hoth t' th' e e1).2 o' e2
 ·obtain ⟨p1,p2,p3,p4,p5⟩:=hpv b o e
  have hb:=p4 th hmem
  refine ⟨?_,m.H _ _ p2,m.W_false (Array.getElem?_eq_some_iff.1 p1).1 p3,p4,fun i a ea=>?_⟩
  rotate_left
  ·cases e':E'.St i a with
   | none=>rfl
   | some v =>
     rcases m.StN i a (by rw [e']; simp) with z | ⟨z,_⟩ | z
     ·exact absurd (p5 i a ea) z
     ·exact absurd (show b ∈ th.bl by rw [← ea,z]; simp [Th.bl]) hb
     ·have:=(Array.getElem?_eq_some_iff.1 p1).1
      omega
  rw [m.heap b 0 p2 p3 (fun e=>hb (by simp [Th.bl,e])) (fun e=>hb (by simp [Th.bl,e])) (fun e=>hb (by simp [Th.bl,e])) (Array.getElem?_eq_some_iff.1 p1).1]
  exact p1
end
structure TX (h:Nat) (th:Th) (E:Env) (w:World):Prop where
 csH:E.H th.cs=some 0
 csW:E.W th.cs=false
 csL:th.cs < w.heap.size
 stS:E.St h ⟨th.gb,2,none⟩=some (.chan (some th.cs))
 noS:∀ x home,x≠h→E.role x≠.seat th.cs home
theorem TX.kept {h:Nat} {th:Th} {gb:Option Nat} {E E1:Env} {w w1:World} (x:TX h th E w) (a:Kept th.j gb E w E1 w1):TX h th E1 w1 :=
 ⟨a.le.H _ _ x.csH,a.W_false x.csL x.csW,Nat.lt_of_lt_of_le x.csL a.size,a.le.St _ _ _ x.stS,fun y home hy e=>x.noS y home hy ((a.le.seat _ _ _).2 e)⟩
section
variable {σ Λ:Type} {D:Prot σ Λ} {Pv:Nat→Option Obj} {h rb:Nat} {E0 E E2:Env} {w0 w w2:World} {ths:List Th} {st:List (Option (Nat × Λ))} {s':σ} {k:Int} {J:Nat→Prop} {t n:Nat} {th:Th} {o:Option Λ} {home:Goroutine→Prop} {F:Machine→Trace→Prop}
 {b₀:Frame} {a₀:Act} {ops₀:Array Oper} {i₀:Nat} {rest₀:List Nat} {k₀:List Item} {cl:List Frame}
theorem back_hg (B:Base h rb J E0 w0 E w) (hJ:∀ x,(J x∨x=th.j) ↔ ∃ th ∈ ths,x=th.j) (hj:J th.j∨((E0.role th.j).sits=false∧(∀ a,E0.St th.j a=none)∧th.j≠h∧∀ b,E.wg th.j=some b→b=rb))
  (hlen:st.length=ths.length) (hnew:∀ th ∈ ths,w0.heap.size≤th.gb∧w0.heap.size≤th.ct∧w0.heap.size≤th.cs) (hap:∀ (t t':Nat) (th th':Th),t≠t'→ths[t]?=some th→ths[t']?=some th'→Apart th th') (hself:∀ th ∈ ths,th.gb≠th.ct∧th.gb≠th.cs∧th.ct≠th.cs)
  (ho:∀ t' th',t'≠t→ths[t']?=some th'→TB h rb th' E w∧∀ o,st[t']?=some o→TS D rb th' E w o)
  (m2:Mv h rb th E w E2 w2) (T2:TKn h rb home k th E2 w2) (X2:TX h th E2 w2) (ht:ths[t]?=some th) (hst:st[t]?=some (o.map (fun ℓ=>(n,ℓ)))) (hex:E2.ex rb=0)
  (hpv:∀ b o,Pv b=some o→w.heap[b]?=some o∧E.H b=some 0∧E.W b=false∧(∀ th ∈ ths,b ∉ th.bl)∧∀ i a,a.block=b→E.St i a=none)
  (hfits:∀ (t m:Nat) (ℓ:Λ),st[t]?=some (some (m,ℓ))→D.fits ℓ s'∧D.who ℓ=t)
  (hcont:∀ E' w',Phase D h rb E0 w0 Pv ths st s' k E' w'→HG Try.prog h F E' (G (b₀.at (a₀.put ((ops₀[i₀]?).bind (·.dst)) (.tuple #[])) (.inRegion ops₀ rest₀ :: k₀)) cl) w')
  (hhome:∀ g,home g→AtWait th.gb b₀ a₀ ops₀ i₀ rest₀ k₀ cl g):Back D h rb home th F E2 w2 s' o (roleOf (Srv D rb th n) rb th o):=by
 intro E3 w3 kk g₃ hK hM3 hG3 hcs3 hg3
 have hmem:th ∈ ths:=List.mem_of_getElem? ht
 obtain ⟨q1,q2,q3⟩:=hself th hmem
 have T3:=T2.kept hK q1
 have X3:=X2.kept hK
 have hgcs:th.gb≠th.cs:=q2
 obtain ⟨fr,tl,hga,htl⟩:∃ fr tl,GA w3 rb th false fr tl∧∀ ℓ,o=some ℓ→fr=false∧tl=D.tal ℓ:=by
  cases o with
  | none=>obtain ⟨fr,tl,z⟩:=hG3; exact ⟨fr,tl,z,fun ℓ e=>by cases e⟩
  | some ℓ=>exact ⟨false,D.tal ℓ,hG3,fun ℓ' e=>by cases e; exact ⟨rfl,rfl⟩⟩
 generalize hr:roleOf (Srv D rb th n) rb th o=r
 have hrseat:∀ c hm,r=.seat c hm→c=th.ct:=fun c hm e=>by
  rw [← hr] at e
  cases o with
  | none=>cases e
  | some ℓ =>
    have e':Role.seat th.ct (Srv D rb th n ℓ)=.seat c hm:=e
    injection e' with z _
    exact z.symm
 refine HG.clear ?_
 generalize hE4:(E3.setRole th.j r).setRole h .gone=E4
 have hrole4:∀ x,E4.role x=if x=h then .gone else if x=th.j then r else E3.role x:=fun x=>by
  rw [← hE4]
  show upd (upd E3.role th.j r) h .gone x=_
  by_cases e1:x=h
  ·rw [if_pos e1,e1,upd_same]
  ·rw [if_neg e1,upd_ne _ _ e1]
   by_cases e2:x=th.j
   ·rw [if_pos e2,e2,upd_same]
   ·rw [if_neg e2,upd_ne _ _ e2]
 have hW4:E4.W=E3.W:=by rw [← hE4]; rfl
 have hH4:E4.H=E3.H:=by rw [← hE4]; rfl
 have hSt4:E4.St=E3.St:=by rw [← hE4]; rfl
 have hwg4:E4.wg=E3.wg:=by rw [← hE4]; rfl
 have hex4:E4.ex=E3.ex:=by rw [← hE4]; rfl
 have hmo4:E4.mode=E3.mode:=by rw [← hE4]; rfl
 generalize hw4:w3.setChan th.cs 0 #[] false (kk+1) (kk+1) false=w4
 have h4ne:∀ b,b≠th.cs→w4.heap[b]?=w3.heap[b]?:=fun b hb=>by rw [← hw4]; exact heap_setChan_ne w3 _ _ _ _ _ _ (fun z=>hb z.symm)
 have h4cs:w4.heap[th.cs]?=some (.chan 0 #[] false (kk+1) (kk+1) false):=by rw [← hw4]; exact heap_setChan_self w3 hcs3 ..
 have h4sz:w4.heap.size=w3.heap.size:=by rw [← hw4]; simp [World.setChan]
 have hga4:GA w4 rb th false fr tl:=by unfold GA; rw [h4ne _ hgcs]; exact hga
 refine (hhome g₃ hg3).go o.isSome hga4 (by rw [hW4]; exact T3.gW) (by rw [hrole4,if_pos rfl]) (fun i x hx=>by rw [hSt4]; exact T3.noSt i x hx) (hcont _ _ ?_)
 generalize hw5:w4.setCell ⟨th.gb,3,none⟩ (.bool !o.isSome)=w5
 have h5ne:∀ b,b≠th.gb→w5.heap[b]?=w4.heap[b]?:=fun b hb=>by rw [← hw5]; exact heap_setCell_ne (fun z=>hb z.symm)
 have h5sz:w5.heap.size=w4.heap.size:=by rw [← hw5]; simp [World.setCell]
 have hga5:GA w5 rb th (!o.isSome) fr tl:=by
  rw [← hw5]
  exact heap_set (a:=⟨th.gb,3,none⟩) rfl hga4
 have hgb:∀ {b},E3.W b=true→b≠th.gb∧b≠th.cs:=fun hb=>⟨fun e=>(by rw [e,T3.gW] at hb; cases hb),fun e=>(by rw [e,X3.csW] at hb; cases hb)⟩
 have h53:∀ b,b≠th.gb→b≠th.cs→w5.heap[b]?=w3.heap[b]?:=fun b h1 h2=>(h5ne b h1).trans (h4ne b h2)
 have hhs:(E2.role h).sits=true:=by rw [T2.run]; rfl
 have m5:Mv h rb th E w E4 w5:=by
  have a1:Mv h rb th E2 w2 E3 w3:=hK.mv (.inl rfl) (.inr hhs)
  have a2:Mv h rb th E3 w3 (E3.setRole th.j r) w3:=.role r (.inl rfl)
  have a3:Mv h rb th (E3.setRole th.j r) w3 ((E3.setRole th.j r).setRole h .gone) w3:=.role .gone (.inr rfl)
  rw [hE4] at a3
  have a4:Mv h rb th E4 w3 E4 w5:=.world (by rw [h5sz,h4sz]) (fun b h1 _ h3 _=>h53 b h1 h3) (by rw [hW4]; exact T3.rW) (by rw [hW4]; exact T3.gW) (by rw [hW4]; exact T3.ctW) (by rw [hW4]; exact X3.csW)
  exact (((m2.trans a1).trans a2).trans a3).trans a4
 obtain ⟨kc,hkc⟩:=T3.ctC
 have htb:TB h rb th E4 w5:=by
  refine ⟨fun e=>T3.hj e.symm,T3.j0,by rw [hW4]; exact T3.gW,by rw [hH4]; exact T3.gH,by rw [hH4]; exact T3.ctH,by rw [hW4]; exact T3.ctW,⟨kc,by rw [h53 _ q1.symm q3]; exact hkc⟩,by rw [hH4]; exact X3.csH,by rw [hW4]; exact X3.csW,⟨kk+1,by rw [h5ne _ q2.symm]; exact h4cs⟩,by rw [hSt4]; exact T3.stT,by rw [hSt4]; exact X3.stS,by rw [hSt4]; exact T3.stB,by rw [hW4]; exact T3.bW,by rw [h5sz,h4sz]; exact T3.bL,by rw [h5sz,h4sz]; exact T3.gL,fun i x hx=>by rw [hSt4]; exact T3.noSt i x hx,fun x hm hx e=>?_,fun x hm hx e=>?_⟩
  ·rw [hrole4] at e
   by_cases e1:x=h
   ·rw [if_pos e1] at e; cases e
   ·rw [if_neg e1,if_neg hx] at e
    exact T3.noT x hm hx e
  ·rw [hrole4,if_neg hx] at e
   by_cases e2:x=th.j
   ·rw [if_pos e2] at e
    exact q3 (hrseat _ _ e).symm
   ·rw [if_neg e2] at e
    exact X3.noS x hm hx e
 have hrj:E4.role th.j=r:=by rw [hrole4,if_neg (fun e=>T3.hj e.symm),if_pos rfl]
 have hts:TS D rb th E4 w5 (o.map (fun ℓ=>(n,ℓ))):=by
  cases o with
  | none=>exact ⟨by rw [hrj,← hr]; rfl,fr,tl,hga5⟩
  | some ℓ =>
    obtain ⟨rfl,rfl⟩:=htl ℓ rfl
    exact ⟨by rw [hrj,← hr]; rfl,by rw [hwg4]; exact T3.wg,hga5⟩
 have hrb:rb≠th.gb∧rb≠th.cs:=hgb T3.rW
 refine Phase.after B hJ hj hlen hnew hap hself ho m5 (by rw [hrole4,if_pos rfl]) (by rw [hrj,← hr]) htb hts ht hst (by rw [hex4,hK.le.ex]; exact hex) (by rw [hW4]; exact T3.rW) ?_ ?_ ?_ hpv hfits
 ·obtain ⟨st',sm',x,e,hx⟩:=T3.rL
  exact ⟨st',sm',x,e,by rw [h53 _ hrb.1 hrb.2]; exact hx⟩
 ·have:=T3.pick
  unfold World.cell? at this ⊢
  rw [h53 _ hrb.1 hrb.2]; exact this
 ·refine D.closed _ _ _ _ _ hM3 fun b hb hn=>⟨by rw [hH4]; exact hn,h53 b (fun e=>?_) (fun e=>?_)⟩
  ·rw [e,T3.gH] at hn; cases hn
  ·rw [e,X3.csH] at hn; cases hn
end
theorem HG.withH {P:Program} {h:Nat} {F:Machine→Trace→Prop} {E:Env} {g:Goroutine} {w:World} (hg:(∀ b,E.W b=true→E.H b=some 1)→(∀ i a,E.W a.block=true→E.St i a=none)→HG P h F E g w):HG P h F E g w :=
 HG.open fun E1 w1 hA ⟨gs,T,q,C,_⟩=>(hg (fun b hW=>by
  have:=C.fit.sub b (by rw [hA.1.W']; exact hW)
  rw [hA.1.H'] at this; exact this) (fun i a hW=>by
  cases e:E.St i a with
  | none=>rfl
  | some v =>
    have:=C.dis i a (by rw [hA.1.St',e]; rfl)
    rw [hA.1.W',hW] at this; cases this)).at hA
theorem tk_of_tb {h rb:Nat} {home:Goroutine→Prop} {k:Int} {th:Th} {E:Env} {w:World} (T:TB h rb th E w) (h1:E.role h=.seat th.cs home) (h2:E.role th.j=.gone) (h3:E.wg th.j=some rb) (h4:E.W rb=true) (h5:Live rb w) (h6:w.cell? ⟨rb,0,none⟩=some (.int .i64 k)) (h7:∀ b,E.mode b=0):TKn h rb home k th E w∧TX h th E w:=by
 obtain ⟨kc,hkc⟩:=T.csC
 exact ⟨⟨h1,fun e=>T.hj e.symm,T.j0,h2,h3,T.gW,T.gH,T.ctH,T.ctW,T.ctC,T.stT,T.stB,T.bW,T.bL,T.gL,T.noSt,T.noT,h4,h5,h6,h7⟩,⟨T.csH,T.csW,(Array.getElem?_eq_some_iff.1 hkc).1,T.stS,T.noS⟩⟩
section
variable {σ Λ:Type} {D:Prot σ Λ} {Pv:Nat→Option Obj} {h rb:Nat} {E0 E E1:Env} {w0 w wa w1:World} {ths:List Th} {st:List (Option (Nat × Λ))} {s:σ} {k k':Int} {t m n':Nat} {th:Th} {ℓ:Λ} {home:Goroutine→Prop} {F:Machine→Trace→Prop}
theorem given_prep (Ph:Phase D h rb E0 w0 Pv ths st s k E w) (ht:ths[t]?=some th) (hst:st[t]?=some (some (m,ℓ))) (hWH:∀ b,E.W b=true→E.H b=some 1) (hsz:wa.heap.size=w.heap.size) (hwa:∀ b,b≠rb→wa.heap[b]?=w.heap[b]?) (hLa:Live rb wa) (hpa:wa.cell? ⟨rb,0,none⟩=some (.int .i64 k'))
  (hA:AtE h E wa E1 w1) (hct:w1.heap[th.ct]?=some (.chan 0 #[] false n' n' false)) :
  ∃ E2 w2,E2=(E1.setRole h (.seat th.cs home)).setRole th.j .gone∧w2=w1.setChan th.ct 0 #[] false (n'+1) (n'+1) false∧Mv h rb th E w E2 w2∧TKn h rb home k' th E2 w2∧TX h th E2 w2∧GA w2 rb th false false (D.tal ℓ)∧D.M s E2 w2∧E2.ex rb=0:=by
 have hmem:th ∈ ths:=List.mem_of_getElem? ht
 have T:=Ph.tb th hmem
 obtain ⟨q1,q2,q3⟩:=Ph.self th hmem
 obtain ⟨s1,s2,s3⟩:=Ph.ts t th _ ht hst
 have hAw:=hA.2
 have hW1:E1.W=E.W:=hA.1.W'
 obtain ⟨kc,hkc⟩:=T.csC
 generalize hE2:(E1.setRole h (.seat th.cs home)).setRole th.j .gone=E2
 generalize hw2:w1.setChan th.ct 0 #[] false (n'+1) (n'+1) false=w2
 have hr2:∀ x,E2.role x=if x=th.j then .gone else if x=h then .seat th.cs home else E1.role x:=fun x=>by
  rw [← hE2]
  show upd (upd E1.role h (.seat th.cs home)) th.j .gone x=_
  by_cases e1:x=th.j
  ·rw [if_pos e1,e1,upd_same]
  ·rw [if_neg e1,upd_ne _ _ e1]
   by_cases e2:x=h
   ·rw [if_pos e2,e2,upd_same]
   ·rw [if_neg e2,upd_ne _ _ e2]
 have hW2:E2.W=E.W:=by rw [← hE2]; exact hW1
 have hH2:E2.H=E.H:=by rw [← hE2]; exact hA.1.H'
 have hex2:E2.ex=E.ex:=by rw [← hE2]; exact hA.1.ex
 have hwg2:E2.wg=E1.wg:=by rw [← hE2]; rfl
 have h2ne:∀ b,b≠th.ct→w2.heap[b]?=w1.heap[b]?:=fun b hb=>by rw [← hw2]; exact heap_setChan_ne w1 _ _ _ _ _ _ (fun z=>hb z.symm)
 have h2ct:w2.heap[th.ct]?=some (.chan 0 #[] false (n'+1) (n'+1) false):=by rw [← hw2]; exact heap_setChan_self w1 hct ..
 have h2sz:w2.heap.size=w1.heap.size:=by rw [← hw2]; simp [World.setChan]
 have hrbg:rb≠th.gb:=fun e=>by have:=Ph.rW; rw [e,T.gW] at this; cases this
 have hrbt:rb≠th.ct:=fun e=>by have:=Ph.rW; rw [e,T.ctW] at this; cases this
 have hrbs:rb≠th.cs:=fun e=>by have:=Ph.rW; rw [e,T.csW] at this; cases this
 have m2:Mv h rb th E w E2 w2:=by
  have a1:Mv h rb th E w E wa:=.world hsz (fun b _ _ _ hb=>hwa b hb) Ph.rW T.gW T.ctW T.csW
  have a2:Mv h rb th E wa E1 w1:=hA.mv (.inl rfl)
  have a3:Mv h rb th E1 w1 (E1.setRole h (.seat th.cs home)) w1:=.role _ (.inr rfl)
  have a4:Mv h rb th (E1.setRole h (.seat th.cs home)) w1 ((E1.setRole h (.seat th.cs home)).setRole th.j .gone) w1:=.role _ (.inl rfl)
  rw [hE2] at a4
  have a5:Mv h rb th E2 w1 E2 w2:=.world h2sz (fun b _ hb _ _=>h2ne b hb) (by rw [hW2]; exact Ph.rW) (by rw [hW2]; exact T.gW) (by rw [hW2]; exact T.ctW) (by rw [hW2]; exact T.csW)
  exact (((a1.trans a2).trans a3).trans a4).trans a5
 have hsame:∀ b,E.W b=false→b≠rb→b≠th.ct→w2.heap[b]?=w.heap[b]?:=fun b h1 h2 h3=>by rw [h2ne b h3,hAw.heap b h1,hwa b h2]
 have T2:TB h rb th E2 w2:=T.mv m2 ⟨_,h2ct⟩ ⟨kc,by rw [hsame _ T.csW hrbs.symm q3.symm]; exact hkc⟩ (fun _ e=>absurd rfl e) (fun hm e=>by rw [hr2,if_pos rfl] at e; cases e) (fun hm e=>by
  rw [hr2,if_neg (fun z=>T.hj z.symm),if_pos rfl] at e
  injection e with z _
  exact q3 z.symm)
 have hL1:Live rb w1:=aw_live Ph.rW hAw hLa
 have hp1:w1.cell? ⟨rb,0,none⟩=some (.int .i64 k'):=aw_cell hAw hpa (fun _=>⟨rfl,hLa⟩)
 obtain ⟨T3,X3⟩:=tk_of_tb (home:=home) (k:=k') T2 (by rw [hr2,if_neg (fun z=>T.hj z.symm),if_pos rfl]) (by rw [hr2,if_pos rfl]) (by rw [hwg2,hA.1.wgS _ (by rw [s1]; rfl)]; exact s2) (by rw [hW2]; exact Ph.rW)
  (by obtain ⟨st',sm',x,e,hx⟩:=hL1; exact ⟨st',sm',x,e,by rw [h2ne _ hrbt]; exact hx⟩) (by unfold World.cell? at hp1 ⊢; rw [h2ne _ hrbt]; exact hp1) (fun b=>m2.mode b (Ph.base.mode b))
 refine ⟨E2,w2,rfl,rfl,m2,T3,X3,?_,?_,by rw [hex2]; exact Ph.ex⟩
 ·unfold GA at s3 ⊢
  rw [hsame _ T.gW hrbg.symm q1]; exact s3
 ·refine D.closed _ _ _ _ _ Ph.M fun b hb hn=>⟨by rw [hH2]; exact hn,?_⟩
  have n1:b≠rb:=fun e=>by rw [e,hWH rb Ph.rW] at hn; cases hn
  have n2:b≠th.ct:=fun e=>by rw [e,T.ctH] at hn; cases hn
  cases hW:E.W b with
  | false=>exact hsame b hW n1 n2
  | true=>rw [hWH b hW] at hn; cases hn
variable {b₀:Frame} {a₀:Act} {ops₀:Array Oper} {i₀:Nat} {rest₀:List Nat} {k₀:List Item} {cl:List Frame}
theorem given_lists (Ph:Phase D h rb E0 w0 Pv ths st s k E w) (ht:ths[t]?=some th) (o:Option (Nat × Λ)) :
  (∀ x,((∃ th ∈ ths,x=th.j)∨x=th.j) ↔ ∃ th ∈ ths,x=th.j)∧(st.set t o).length=ths.length∧(st.set t o)[t]?=some o∧∀ t' th',t'≠t→ths[t']?=some th'→TB h rb th' E w∧∀ o',(st.set t o)[t']?=some o'→TS D rb th' E w o':=by
 have hmem:th ∈ ths:=List.mem_of_getElem? ht
 have hlt:=(List.getElem?_eq_some_iff.1 ht).1
 refine ⟨fun x=>⟨fun z=>z.elim id fun e=>⟨th,hmem,e⟩,.inl⟩,by rw [List.length_set]; exact Ph.len,by rw [List.getElem?_set_self (by rw [Ph.len]; exact hlt)],fun t' th' hne e=>⟨Ph.tb th' (List.mem_of_getElem? e),fun o' h'=>?_⟩⟩
 rw [List.getElem?_set_ne (fun z=>hne z.symm)] at h'
 exact Ph.ts t' th' o' e h'
theorem fits_next (Ph:Phase D h rb E0 w0 Pv ths st s k E w) (ht:ths[t]?=some th) {n:Nat} {s':σ} {o:Option Λ} (hst:st[t]?=some (some (n+1,ℓ))) (hn:D.next ℓ k' s (s',o)):∀ (t' m':Nat) (ℓ':Λ),(st.set t (o.map (fun x=>(n,x))))[t']?=some (some (m',ℓ'))→D.fits ℓ' s'∧D.who ℓ'=t':=fun t' m' ℓ' e=>by
 by_cases h1:t=t'
 ·subst h1
  rw [List.getElem?_set_self (List.getElem?_eq_some_iff.1 hst).1] at e
  cases o with
  | none=>simp at e
  | some y =>
    simp only [Option.map_some,Option.some.injEq,Prod.mk.injEq] at e
    rw [← e.2]
    have z:=D.fresh _ _ _ _ _ (Ph.fits t _ _ hst).1 hn
    exact ⟨z.1,z.2.trans (Ph.fits t _ _ hst).2⟩
 ·rw [List.getElem?_set_ne h1] at e
  obtain ⟨g1,g2⟩:=Ph.fits t' m' ℓ' e
  exact ⟨D.mono _ _ _ _ _ _ (Ph.fits t _ _ hst).1 g1 (by rw [g2,(Ph.fits t _ _ hst).2]; exact Ne.symm h1) hn,g2⟩
theorem fits_off (Ph:Phase D h rb E0 w0 Pv ths st s k E w) (ht:ths[t]?=some th):∀ (t' m':Nat) (ℓ':Λ),(st.set t none)[t']?=some (some (m',ℓ'))→D.fits ℓ' s∧D.who ℓ'=t':=fun t' m' ℓ' e=>by
 by_cases h1:t=t'
 ·subst h1
  rw [List.getElem?_set_self (by rw [Ph.len]; exact (List.getElem?_eq_some_iff.1 ht).1)] at e
  simp at e
 ·rw [List.getElem?_set_ne h1] at e
  exact Ph.fits t' m' ℓ' e
theorem phase_pick_next (hm:D.lax→0 < m) (Ph:Phase D h rb E0 w0 Pv ths st s k E w) (ht:ths[t]?=some th) (hst:st[t]?=some (some (m,ℓ))) (hWH:∀ b,E.W b=true→E.H b=some 1) (hsz:wa.heap.size=w.heap.size) (hwa:∀ b,b≠rb→wa.heap[b]?=w.heap[b]?) (hLa:Live rb wa) (hpa:wa.cell? ⟨rb,0,none⟩=some (.int .i64 k'))
  (hcont:∀ n s' o E' w',m=n+1→D.next ℓ k' s (s',o)→Phase D h rb E0 w0 Pv ths (st.set t (o.map (fun x=>(n,x)))) s' k' E' w'→HG Try.prog h F E' (G (b₀.at (a₀.put ((ops₀[i₀]?).bind (·.dst)) (.tuple #[])) (.inRegion ops₀ rest₀ :: k₀)) cl) w') :
  ∀ E1 w1 n' g₂,AtE h E wa E1 w1→w1.heap[th.ct]?=some (.chan 0 #[] false n' n' false)→Srv D rb th m ℓ g₂→HG Try.prog th.j F (E1.setRole h (.seat th.cs (AtWait th.gb b₀ a₀ ops₀ i₀ rest₀ k₀ cl))) (Go.Conc.served g₂ (.bool true)) (w1.setChan th.ct 0 #[] false (n'+1) (n'+1) false):=by
 intro E1 w1 n' g₂ hA hct hS
 refine HG.clear ?_
 obtain ⟨E2,w2,e1,e2,m2,T2,X2,hga,hM,hex⟩:=given_prep (home:=AtWait th.gb b₀ a₀ ops₀ i₀ rest₀ k₀ cl) Ph ht hst hWH hsz hwa hLa hpa hA hct
 rw [← e1,← e2]
 cases m with
 | zero=>exact absurd (hm hS) (Nat.lt_irrefl 0)
 | succ n =>
   have hgl:=fun o:Option Λ=>given_lists Ph ht (o.map (fun x=>(n,x)))
   have hmem:th ∈ ths:=List.mem_of_getElem? ht
   exact (hS h _ k' F E2 w2 s T2 hga hM (Ph.fits t _ ℓ hst).1).1 (fun s' o hn=>back_hg Ph.base (hgl o).1 (.inl ⟨th,hmem,rfl⟩) (hgl o).2.1 Ph.new Ph.apart Ph.self (hgl o).2.2.2 m2 T2 X2 ht (hgl o).2.2.1 hex Ph.pv (fits_next Ph ht hst hn) (fun E' w' p=>hcont n s' o E' w' rfl hn p) (fun _ z=>z))
theorem phase_off_next (hm:D.lax→0 < m) (Ph:Phase D h rb E0 w0 Pv ths st s k E w) (ht:ths[t]?=some th) (hst:st[t]?=some (some (m,ℓ))) (hWH:∀ b,E.W b=true→E.H b=some 1)
  (hcont:∀ E' w',Phase D h rb E0 w0 Pv ths (st.set t none) s k E' w'→HG Try.prog h F E' (G (b₀.at (a₀.put ((ops₀[i₀]?).bind (·.dst)) (.tuple #[])) (.inRegion ops₀ rest₀ :: k₀)) cl) w') :
  ∀ E1 w1 n' g₂,AtE h E w E1 w1→w1.heap[th.ct]?=some (.chan 0 #[] false n' n' false)→Srv D rb th m ℓ g₂→HG Try.prog th.j F (E1.setRole h (.seat th.cs (AtWait th.gb b₀ a₀ ops₀ i₀ rest₀ k₀ cl))) (Go.Conc.served g₂ (.bool false)) (w1.setChan th.ct 0 #[] false (n'+1) (n'+1) false):=by
 intro E1 w1 n' g₂ hA hct hS
 refine HG.clear ?_
 obtain ⟨E2,w2,e1,e2,m2,T2,X2,hga,hM,hex⟩:=given_prep (home:=AtWait th.gb b₀ a₀ ops₀ i₀ rest₀ k₀ cl) Ph ht hst hWH rfl (fun _ _=>rfl) Ph.rL Ph.pick hA hct
 rw [← e1,← e2]
 cases m with
 | zero=>exact absurd (hm hS) (Nat.lt_irrefl 0)
 | succ n =>
   obtain ⟨l1,l2,l3,l4⟩:=given_lists Ph ht none
   have hmem:th ∈ ths:=List.mem_of_getElem? ht
   exact (hS h _ k F E2 w2 s T2 hga hM (Ph.fits t _ ℓ hst).1).2 (back_hg (n:=n) (o:=none) Ph.base l1 (.inl ⟨th,hmem,rfl⟩) l2 Ph.new Ph.apart Ph.self l4 m2 T2 X2 ht l3 hex Ph.pv (fits_off Ph ht) hcont (fun _ z=>z))
theorem phase_pick (hm:D.lax→0 < m) (Ph:Phase D h rb E0 w0 Pv ths st s k E w) (ht:ths[t]?=some th) (hst:st[t]?=some (some (m,ℓ))) (hk:IntKind.i64.wrap (k+1)=k+1)
  (hcont:∀ n s' o E' w',m=n+1→D.next ℓ (k+1) s (s',o)→Phase D h rb E0 w0 Pv ths (st.set t (o.map (fun x=>(n,x)))) s' (k+1) E' w'→HG Try.prog h F E' (G (b₀.at (a₀.put ((ops₀[i₀]?).bind (·.dst)) (.tuple #[])) (.inRegion ops₀ rest₀ :: k₀)) cl) w') :
  HGn Try.prog h F E w 100 (entry 75 Try.f75 #[.pointer (some ⟨th.gb,0,none⟩)] (b₀.at a₀ (.inRegion ops₀ (i₀ :: rest₀) :: k₀) :: cl)):=by
 refine HG.withH fun hWH hWS=>?_
 have hmem:th ∈ ths:=List.mem_of_getElem? ht
 have T:=Ph.tb th hmem
 obtain ⟨s1,s2,s3⟩:=Ph.ts t th _ ht hst
 obtain ⟨kc,hkc⟩:=T.csC
 have hSr:∀ i,E.St i ⟨rb,0,none⟩=none:=fun i=>hWS i _ Ph.rW
 refine pick_go (h:=h) (j:=th.j) (home:=Srv D rb th m ℓ) (home':=AtWait th.gb b₀ a₀ ops₀ i₀ rest₀ k₀ cl) s3 T.gW Ph.pick Ph.rW Ph.rL hSr Ph.role s1 T.hj T.stS hkc T.csH T.noS (fun _ z=>z) ?_
 rw [hk]
 obtain ⟨st',sm',x,e,hx⟩:=Ph.rL
 refine phase_pick_next hm Ph ht hst hWH (by simp [World.setCell]) (fun b hb=>heap_setCell_ne (fun z=>hb z.symm)) ⟨st',sm',.int .i64 (k+1),e,heap_set (a:=⟨rb,0,none⟩) rfl hx⟩ ?_ hcont
 exact World.cell?_setCell_same (h:=Ph.pick) ..
theorem Base.tick {J:Nat→Prop} (B:Base h rb J E0 w0 E w) (hsz:wa.heap.size=w.heap.size) (hwa:∀ b,b≠rb→wa.heap[b]?=w.heap[b]?):Base h rb J E0 w0 E wa :=
 ⟨B.seat,B.gone,B.newR,B.role0,B.St,B.StN,B.W,B.WN,B.H,B.wg,B.wgH,B.wgS,B.wgJ,B.ex,B.mode0,B.mode,by rw [hsz]; exact B.size,fun b n h1 h2 h3=>by rw [hwa b (fun e=>by have:=B.rN; omega)]; exact B.heap b n h1 h2 h3,fun b h1 x st sm e hx=>by rw [hwa b (fun e=>by rw [e,B.rW0] at h1; cases h1)]; exact B.heapW b h1 x st sm e hx,B.rN,B.rW0,B.rX0,by first | exact B.io | exact m.io.trans B.io | exact a.1.io.trans B.io | exact B1.io | rfl⟩
theorem TB.tick {h rb:Nat} {th:Th} (T:TB h rb th E w) (hW:E.W rb=true) (hsz:wa.heap.size=w.heap.size) (hwa:∀ b,b≠rb→wa.heap[b]?=w.heap[b]?):TB h rb th E wa:=by
 obtain ⟨k1,c1⟩:=T.ctC
 obtain ⟨k2,c2⟩:=T.csC
 exact ⟨T.hj,T.j0,T.gW,T.gH,T.ctH,T.ctW,⟨k1,by rw [hwa _ (fun e=>by rw [← e,T.ctW] at hW; cases hW)]; exact c1⟩,T.csH,T.csW,⟨k2,by rw [hwa _ (fun e=>by rw [← e,T.csW] at hW; cases hW)]; exact c2⟩,T.stT,T.stS,T.stB,T.bW,by rw [hsz]; exact T.bL,by rw [hsz]; exact T.gL,T.noSt,T.noT,T.noS⟩
theorem TS.tick {th:Th} {o:Option (Nat × Λ)} (S:TS D rb th E w o) (hW:E.W rb=true) (hg:E.W th.gb=false) (hwa:∀ b,b≠rb→wa.heap[b]?=w.heap[b]?):TS D rb th E wa o:=by
 have hga:∀ en fr tl,GA w rb th en fr tl→GA wa rb th en fr tl:=fun en fr tl g=>by
  unfold GA at g ⊢
  rw [hwa _ (fun e=>by rw [← e,hg] at hW; cases hW)]; exact g
 match o,S with
 | some (n,ℓ),⟨s1,s2,s3⟩=>exact ⟨s1,s2,hga _ _ _ s3⟩
 | none,⟨s1,fr,tl,s2⟩=>exact ⟨s1,fr,tl,hga _ _ _ s2⟩
theorem Phase.tick (Ph:Phase D h rb E0 w0 Pv ths st s k E w) (hWH:∀ b,E.W b=true→E.H b=some 1) (hsz:wa.heap.size=w.heap.size) (hwa:∀ b,b≠rb→wa.heap[b]?=w.heap[b]?) (hLa:Live rb wa) (hpa:wa.cell? ⟨rb,0,none⟩=some (.int .i64 k')):Phase D h rb E0 w0 Pv ths st s k' E wa :=
 ⟨Ph.base.tick hsz hwa,Ph.role,Ph.len,fun th hm=>(Ph.tb th hm).tick Ph.rW hsz hwa,Ph.new,Ph.apart,Ph.self,fun t th o e1 e2=>(Ph.ts t th o e1 e2).tick Ph.rW (Ph.tb th (List.mem_of_getElem? e1)).gW hwa,Ph.ex,Ph.rW,hLa,hpa,
  D.closed _ _ _ _ _ Ph.M fun b _ hn=>⟨hn,hwa b (fun e=>by rw [e,hWH rb Ph.rW] at hn; cases hn)⟩,fun b o e=>by
   obtain ⟨p1,p2,p3,p4⟩:=Ph.pv b o e
   exact ⟨by rw [hwa b (fun z=>by rw [z,Ph.rW] at p3; cases p3)]; exact p1,p2,p3,p4⟩,Ph.fits⟩
theorem phase_pick_over (Ph:Phase D h rb E0 w0 Pv ths st s k E w) (ht:ths[t]?=some th) (hst:st[t]?=some none) (hk:IntKind.i64.wrap (k+1)=k+1)
  (hcont:∀ E' w',Phase D h rb E0 w0 Pv ths st s (k+1) E' w'→HG Try.prog h F E' (G (b₀.at (a₀.put ((ops₀[i₀]?).bind (·.dst)) (.tuple #[])) (.inRegion ops₀ rest₀ :: k₀)) cl) w') :
  HGn Try.prog h F E w 100 (entry 75 Try.f75 #[.pointer (some ⟨th.gb,0,none⟩)] (b₀.at a₀ (.inRegion ops₀ (i₀ :: rest₀) :: k₀) :: cl)):=by
 refine HG.withH fun hWH hWS=>?_
 have hmem:th ∈ ths:=List.mem_of_getElem? ht
 have T:=Ph.tb th hmem
 obtain ⟨s1,fr,tl,s2⟩:=Ph.ts t th _ ht hst
 refine pick_over s2 T.gW Ph.pick Ph.rW Ph.rL (fun i=>hWS i _ Ph.rW) Ph.role ?_
 rw [hk]
 obtain ⟨st',sm',x,e,hx⟩:=Ph.rL
 exact hcont _ _ (Ph.tick hWH (by simp [World.setCell]) (fun b hb=>heap_setCell_ne (fun z=>hb z.symm)) ⟨st',sm',.int .i64 (k+1),e,heap_set (a:=⟨rb,0,none⟩) rfl hx⟩ (World.cell?_setCell_same (h:=Ph.pick) ..))
end
section
variable {σ Λ:Type} {D:Prot σ Λ} {Pv:Nat→Option Obj} {h rb:Nat} {J:Nat→Prop} {E0 E E1:Env} {w0 w w1:World} {ths:List Th} {st:List (Option (Nat × Λ))} {s:σ} {k:Int} {th:Th} {o:Option (Nat × Λ)}
theorem Base.at (B:Base h rb J E0 w0 E w) (a:AtE h E w E1 w1):Base h rb J E0 w0 E1 w1:=by
 have hE:=a.1
 refine ⟨fun x c home h1 h2=>(B.seat x c home h1 h2).trans (hE.seat x c home),fun x h1 h2 e=>hE.gone x (B.gone x h1 h2 e),B.newR,B.role0,fun x ad v e=>by rw [hE.St']; exact B.St x ad v e,fun i ad e=>B.StN i ad (by rw [← hE.St']; exact e),fun b e=>by rw [hE.W']; exact B.W b e,fun b e=>B.WN b (by rw [← hE.W']; exact e),fun b n e=>by rw [hE.H']; exact B.H b n e,fun x b h1 e=>B.wg x b h1 (hE.wg x b e),hE.wgH.trans B.wgH,fun x h1 h2 e=>?_,fun x b h1 e=>B.wgJ x b h1 (hE.wg x b e),fun b hb=>(congrFun hE.ex b).trans (B.ex b hb),B.mode0,fun b=>hE.mode b (B.mode b),Nat.le_trans B.size (Nat.le_of_eq a.2.size.symm),fun b n h1 h2 h3=>?_,fun b h1 x st sm e hx=>?_,B.rN,B.rW0,B.rX0,by first | exact B.io | exact m.io.trans B.io | exact a.1.io.trans B.io | exact B1.io | rfl⟩
 ·have hs:(E.role x).sits=true:=by
   cases er:E0.role x with
   | seat c home=>rw [(B.seat x c home h1 h2).1 er]; rfl
   | _=>rw [er] at e; cases e
  exact (hE.wgS x hs).trans (B.wgS x h1 h2 e)
 ·have hW:E.W b=false:=by
   cases e:E.W b with
   | false=>rfl
   | true =>
     rcases B.WN b e with z | z
     ·rw [h2] at z; cases z
     ·omega
  rw [a.2.heap b hW,B.heap b n h1 h2 h3]
 ·obtain ⟨st',sm',h3⟩:=B.heapW b h1 x st sm e hx
  exact a.2.run b (B.W b h1) x st' sm' e h3
theorem TB.at (T:TB h rb th E w) (a:AtE h E w E1 w1) (hr:E.role h=.gone):TB h rb th E1 w1:=by
 obtain ⟨k1,c1⟩:=T.ctC
 obtain ⟨k2,c2⟩:=T.csC
 exact T.mv (th:=th) (a.mv (.inl rfl)) ⟨k1,by rw [a.2.heap _ T.ctW]; exact c1⟩ ⟨k2,by rw [a.2.heap _ T.csW]; exact c2⟩ (fun _ e=>absurd rfl e) (fun home e=>T.noS _ home T.hj ((a.1.seat _ _ _).2 e)) (fun home e=>by rw [a.1.roleH,hr] at e; cases e)
theorem TS.at (S:TS D rb th E w o) (hg:E.W th.gb=false) (a:AtE h E w E1 w1):TS D rb th E1 w1 o:=by
 have hga:∀ en fr tl,GA w rb th en fr tl→GA w1 rb th en fr tl:=fun en fr tl g=>by
  unfold GA at g ⊢
  rw [a.2.heap _ hg]; exact g
 match o,S with
 | some (n,ℓ),⟨s1,s2,s3⟩=>exact ⟨(a.1.seat _ _ _).1 s1,(a.1.wgS _ (by rw [s1]; rfl)).trans s2,hga _ _ _ s3⟩
 | none,⟨s1,fr,tl,s2⟩=>exact ⟨(a.1.toLe.sits _).trans s1,fr,tl,hga _ _ _ s2⟩
theorem Phase.at (Ph:Phase D h rb E0 w0 Pv ths st s k E w) (hWH:∀ b,E.W b=true→E.H b=some 1) (a:AtE h E w E1 w1):Phase D h rb E0 w0 Pv ths st s k E1 w1 :=
 ⟨Ph.base.at a,a.1.roleH.trans Ph.role,Ph.len,fun th hm=>(Ph.tb th hm).at a Ph.role,Ph.new,Ph.apart,Ph.self,fun t th o e1 e2=>(Ph.ts t th o e1 e2).at (Ph.tb th (List.mem_of_getElem? e1)).gW a,(congrFun a.1.ex rb).trans Ph.ex,by rw [a.1.W']; exact Ph.rW,aw_live Ph.rW a.2 Ph.rL,aw_cell a.2 Ph.pick (fun _=>⟨rfl,Ph.rL⟩),
  D.closed _ _ _ _ _ Ph.M fun b _ hn=>⟨by rw [a.1.H']; exact hn,a.2.heap b (by
   cases e:E.W b with
   | false=>rfl
   | true=>rw [hWH b e] at hn; cases hn)⟩,fun b o e=>by
   obtain ⟨p1,p2,p3,p4,p5⟩:=Ph.pv b o e
   exact ⟨by rw [a.2.heap b p3]; exact p1,by rw [a.1.H']; exact p2,by rw [a.1.W']; exact p3,p4,fun i x ex=>by rw [a.1.St']; exact p5 i x ex⟩,Ph.fits⟩
end
theorem fit_show {H H':Nat→Option Nat} {W:Nat→Bool} {w:World} (hf:Fit H W w) (h1:∀ b n,H' b=some n→H b=some n) (h2:∀ b,H' b=none→H b=none∨∃ c e f,w.heap[b]?=some (.cells c e f)) (h3:∀ b,W b=true→H' b=some 1):Fit H' W w:=by
 refine ⟨fun b o ho=>?_,fun b hb=>?_,fun b n o hD ho=>hf.hides b n o (h1 b n hD) ho,hf.ok,h3⟩
 ·cases hD:H' b with
  | none =>
    rw [vw_get_none hD] at ho
    rcases h2 b hD with e | ⟨c,e,f,e1⟩
    ·exact hf.fair b o (by rw [vw_get_none e]; exact ho)
    ·rw [e1] at ho; cases ho; rfl
  | some n =>
    rw [vw_get_some hD] at ho
    exact hf.fair b o (by rw [vw_get_some (h1 b n hD)]; exact ho)
 ·cases hD:H' b with
  | none=>rfl
  | some n=>have:=h1 b n hD; rw [hf.bound b hb] at this; cases this
section
variable {P:Program} {E:Env} {h dh:Nat} {T:Trace} {gs:Array Goroutine} {w:World} {q:Nat→Nat}
theorem Co.show (C:Co P E h dh T gs w q) {H':Nat→Option Nat} (h1:∀ b n,H' b=some n→E.H b=some n) (h2:∀ b,H' b=none→E.H b=none∨((∃ c e f,w.heap[b]?=some (.cells c e f))∧E.W b=false∧∀ i a,a.block=b→E.St i a=none)) (hrole:E.role h=.gone):Co P { E with H:=H' } h dh T gs w q:=by
 have hfit:Fit H' E.W w:=fit_show C.fit h1 (fun b e=>(h2 b e).imp id (·.1)) (fun b hb=>by
  cases e:H' b with
  | some n=>have:=h1 b n e; rw [C.fit.sub b hb] at this; exact this.symm
  | none =>
    rcases h2 b e with z | ⟨_,z,_⟩
    ·rw [C.fit.sub b hb] at z; cases z
    ·rw [hb] at z; cases z)
 refine ⟨C.lt,C.idle,C.chans,C.inj,C.above,C.keep,C.dis,hfit,fun i a hs=>?_,fun i c home e=>?_,C.past,C.wgW,C.fresh,C.groups,C.few,C.modes,C.lastEx,C.zero,C.one,by first | exact ⟨C.io.1,C.io.2⟩ | exact C.io.trans ⟨hA.os,hA.output⟩ | exact C.io.trans hio | exact ⟨C₁.io.1,C₁.io.2⟩ | exact C₁.io.trans ⟨hA.os,hA.output⟩⟩
 ·obtain ⟨n,n1,n2⟩:=C.hidS i a hs
  cases e:H' a.block with
  | some m=>have:=h1 _ _ e; rw [n1] at this; cases this; exact ⟨n,e,n2⟩
  | none =>
    rcases h2 _ e with z | ⟨_,_,z⟩
    ·rw [n1] at z; cases z
    ·rw [z i a rfl] at hs; cases hs
 ·have hc:=C.hidC i c home e
  cases e':H' c with
  | some m=>have:=h1 _ _ e'; rw [hc] at this; cases this; exact e'
  | none =>
    rcases h2 _ e' with z | ⟨⟨cc,ee,ff,z⟩,_⟩
    ·rw [hc] at z; cases z
    ·have hih:i≠h:=fun x=>by
      subst x
      have e2:E.role i=.seat c home:=e
      rw [hrole] at e2; cases e2
     obtain ⟨k,hk⟩:=C.chans i c home hih (C.seat_lt e) e
     rw [hk] at z; cases z
end
section
variable {P:Program} {h:Nat} {F:Machine→Trace→Prop} {E:Env} {w:World} {g:Goroutine}
theorem HG.show {H':Nat→Option Nat} (h1:∀ b n,H' b=some n→E.H b=some n) (h2:∀ b,H' b=none→E.H b=none∨((∃ c e f,w.heap[b]?=some (.cells c e f))∧E.W b=false∧∀ i a,a.block=b→E.St i a=none)) (hrole:E.role h=.gone) (hg:HG P h F { E with H:=H' } g w):HG P h F E g w:=by
 intro E' w' gs T q sl ⟨hE,hA⟩ C ha
 refine hg { E' with H:=H' } w' gs T q sl ⟨⟨⟨hE.seat,hE.gone,hE.roleH,hE.St,hE.W,fun _ _ e=>e,hE.wg,hE.wgH,hE.wgS,hE.ex,hE.mode,hE.modeUp,hE.io⟩,hE.W',hE.St',rfl⟩,hA⟩ (C.show (by rw [hE.H']; exact h1) (fun b e=>?_) (hE.roleH.trans hrole)) ha
 rcases h2 b e with z | ⟨⟨c,e',f,z1⟩,z2,z3⟩
 ·exact .inl (by rw [hE.H']; exact z)
 ·exact .inr ⟨⟨c,e',f,by rw [hA.heap b z2]; exact z1⟩,by rw [hE.W']; exact z2,fun i a e=>by rw [hE.St']; exact z3 i a e⟩
theorem closed_none (P:Program):Closed P (fun _=>false):=by
 constructor <;> intros <;> simp_all
theorem HG.quiet {fr:Frame} {a:Act} {k:List Item} {cs:List Frame} {x:Code} {Q:Act→World→Env→World→Prop} (hq:quietCode P (fun _=>false) x=true) (hk:fr.kind=.normal) (ha:a.defers=[])
  (hwp:∀ E1 w1,AtE h E w E1 w1→Fit E1.H E1.W w1→∀ τ,x.wp P (fun e a' x'=>e=.normal∧a'.defers=[]∧∀ w' τ' d,x'=rt (vw E1.H w') τ' d→Far E1.H E1.W w1 w'→Fit E1.H E1.W w'→Q a' w' E1 w1) a (rt (vw E1.H w1) τ 0))
  (hg:∀ E1 w1,AtE h E w E1 w1→∀ a' w',a'.defers=[]→Far E1.H E1.W w1 w'→Fit E1.H E1.W w'→Q a' w' E1 w1→HG P h F E1 (G (fr.at a' k) cs) w'):HG P h F E (G (fr.at a (.code x :: k)) cs) w:=by
 refine HG.open fun E1 w1 hA ⟨gs,T,q,C,_⟩=>?_
 have hD:Lets E1.H E1.W E1.D:=lets_dg (fun a ⟨i,hi⟩=>C.hidS i a hi) (fun c ⟨i,home,e⟩=>C.hidC i c home e) C.fit.sub
 exact (HG.clo P h F E1).quiet (Q:=fun a' w'=>Q a' w' E1 w1) (closed_none P) hD hq hk ha C.fit (hwp E1 w1 hA C.fit) (fun a' w' h1 h2 h3 h4=>hg E1 w1 hA a' w' h1 h2 h3 h4)
end
end Go.Proofs.Ytimlbbleblijnaa.Co
