/- Lemmas for the laws of this seat, laid together of PGbl, PGbm, PGbn, PGbp, PGbo, PGbq. -/
import Derived.Test.YtimlbbleblijnaaX14
import Derived.Deep.RegionHeld3
import Derived.Deep.AppendLies

set_option linter.unusedVariables false
set_option linter.unusedSimpArgs false
set_option maxRecDepth 100000
set_option maxHeartbeats 4000000
namespace Go.Proofs.Ytimlbbleblijnaa.Co
open Go Go.Conc
open Go.ConcN (sumTo upd sumTo_upd upd_ne upd_same sumTo_congr le_sumTo)
def Env.runE (E:Env) (b:Nat):Env:={ E with W:=upd E.W b true,H:=upd E.H b (some 1) }
section
variable {P:Program} {h:Nat} {F:Machine→Trace→Prop} {E:Env} {w:World}
theorem HG.newRun {a a':Goroutine} {ty:TypeId} (hrun:a.status=.running) (hst:∀ w₁,Aw E.W w w₁→stepG P (h == 0) a w₁=.go a' (w₁.alloc (runObj (.int .i64 0) 0 0 ty)) #[])
  (hnext:∀ E1 w1,AtE h E w E1 w1→E1.W w1.heap.size=false→(∀ x,E1.wg x≠some w1.heap.size)→E1.ex w1.heap.size=0→(∀ b,w1.heap.size≤b→E1.H b=none)→(∀ b,E1.W b=true→E1.H b=some 1)→(∀ b,E1.W b=true→b < w1.heap.size)→HG P h F (E1.runE w1.heap.size) a' (w1.alloc (runObj (.int .i64 0) 0 0 ty))):HG P h F E a w:=by
 refine Holds.own (K':=fun E' w'=>∃ E1 w1,AtE h E w E1 w1∧E1.W w1.heap.size=false∧(∀ x,E1.wg x≠some w1.heap.size)∧E1.ex w1.heap.size=0∧(∀ b,w1.heap.size≤b→E1.H b=none)∧(∀ b,E1.W b=true→E1.H b=some 1)∧(∀ b,E1.W b=true→b < w1.heap.size)∧E'=E1.runE w1.heap.size∧w'=w1.alloc (runObj (.int .i64 0) 0 0 ty)) AtE.bears hrun (fun E1 w1 gs T q sl hA C ha=>?_) (g':=a') (d':=0) (Holds.of_hg ?_)
 ·obtain ⟨C',ha'⟩:=C.newRun (a':=a') (ty:=ty) (w':=w1.alloc (runObj (.int .i64 0) 0 0 ty)) ha rfl
  have hWn:E1.W w1.heap.size=false:=by
   cases e:E1.W w1.heap.size with
   | false=>rfl
   | true=>exact absurd (C.groups _ e).lt (Nat.lt_irrefl _)
  refine ⟨_,_,_,_,_,q,runT_crowd_go ha (hst w1 hA.2),⟨E1,w1,hA,hWn,fun x e=>?_,(C.zero _ hWn).1,C.fit.bound,C.fit.sub,fun b e=>(C.groups b e).lt,rfl,rfl⟩,C',ha'⟩
  by_cases hx:x < gs.size
  ·have:=C.wgW x _ hx e
   rw [hWn] at this; cases this
  ·rw [(C.fresh x (by omega)).2.1] at e; cases e
 ·rintro E' w' ⟨E1,w1,k1,k2,k3,k4,k5,k6,k7,rfl,rfl⟩
  exact hnext E1 w1 k1 k2 k3 k4 k5 k6 k7
theorem HGn.newRun {n:Nat} {fr:Frame} {a:Act} {k:List Item} {cs:List Frame} {ops:Array Oper} {i:Nat} {rest:List Nat} {o:Oper} {ty:TypeId} (ho:ops[i]?=some o) (hw:Region.wanted o (yielded ops a.tmps)=true) (hk:fr.kind≠.early)
  (hr:∀ w₁:World,(execOp a.eval o).run P w₁=.ok (.value (.pointer (some ⟨w₁.heap.size,0,none⟩))) (w₁.alloc (runObj (.int .i64 0) 0 0 ty))∧(execOp a.eval o).events P w₁ #[]=#[])
  (hnext:∀ E1 w1,AtE h E w E1 w1→E1.W w1.heap.size=false→(∀ x,E1.wg x≠some w1.heap.size)→E1.ex w1.heap.size=0→(∀ b,w1.heap.size≤b→E1.H b=none)→(∀ b,E1.W b=true→E1.H b=some 1)→(∀ b,E1.W b=true→b < w1.heap.size)→HG P h F (E1.runE w1.heap.size) (G (fr.at (a.put o.dst (.pointer (some ⟨w1.heap.size,0,none⟩))) (.inRegion ops rest :: k)) cs) (w1.alloc (runObj (.int .i64 0) 0 0 ty))) :
  HGn P h F E w (n+1) (G (fr.at a (.inRegion ops (i :: rest) :: k)) cs):=by
 refine HG.newRun (a':=G (fr.at (a.put o.dst (.pointer (some ⟨w.heap.size,0,none⟩))) (.inRegion ops rest :: k)) cs) (ty:=ty) rfl (fun w₁ hA=>?_) (fun E1 w1 a1 k1 k2 k3 k4 k5 k6=>?_)
 ·obtain ⟨e1,e2⟩:=hr w₁
  rw [stepG_value ho hw hk e1]
  unfold listed
  rw [e2,seen_none,hA.size]
 ·have:=hnext E1 w1 a1 k1 k2 k3 k4 k5 k6
  rw [a1.2.size] at this ⊢
  exact this
end
section
variable {σ Λ:Type} {D:Prot σ Λ} {h:Nat} {E:Env} {w:World} {s:σ} {F:Machine→Trace→Prop} {c:Frame} {cl:List Frame}
theorem phase_start {rb:Nat} {E1:Env} {w1 w1':World} (hrb:rb=w1.heap.size) (hw':w1'=w1.alloc (runObj (.int .i64 0) 0 0 104)) (hM:D.M s E1 w1) (hrole:E1.role h=.gone) (hmode:∀ b,E1.mode b=0) (hWn:E1.W rb=false) (hex:E1.ex rb=0) (hB:∀ b,w1.heap.size≤b→E1.H b=none) (hWH:∀ b,E1.W b=true→E1.H b=some 1):Phase D h rb E1 w1 (fun _=>none) [] [] s 0 (E1.runE rb) w1':=by
 subst hrb hw'
 have hold:∀ b,b < w1.heap.size→(w1.alloc (runObj (.int .i64 0) 0 0 104)).heap[b]?=w1.heap[b]?:=fun b hb=>alloc_old hb
 have hnew:(w1.alloc (runObj (.int .i64 0) 0 0 104)).heap[w1.heap.size]?=some (runObj (.int .i64 0) 0 0 104):=alloc_new
 have hWu:∀ b,E1.W b=true→(E1.runE w1.heap.size).W b=true:=fun b e=>by
  by_cases hb:b=w1.heap.size
  ·rw [hb]; exact upd_same ..
  ·exact (upd_ne _ _ hb).trans e
 have hHu:∀ b n,E1.H b=some n→(E1.runE w1.heap.size).H b=some n:=fun b n e=>by
  by_cases hb:b=w1.heap.size
  ·rw [hb,hB _ (Nat.le_refl _)] at e; cases e
  ·exact (upd_ne _ _ hb).trans e
 refine ⟨⟨fun _ _ _ _ _=>Iff.rfl,fun _ _ _ e=>e,(fun x ⟨th,hm,_⟩=>by cases hm),hrole,fun _ _ _ e=>e,fun _ _ e=>.inl e,hWu,fun b e=>?_,hHu,fun _ _ _ e=>e,rfl,fun _ _ _ _=>rfl,(fun x b ⟨th,hm,_⟩=>by cases hm),fun _ _=>rfl,hmode,hmode,by rw [alloc_size]; omega,fun b n _ _ hb=>hold b hb,fun b _ x st sm e hx=>⟨st,sm,by rw [hold b (Array.getElem?_eq_some_iff.1 hx).1]; exact hx⟩,Nat.le_refl _,hWn,hex,by first | exact B.io | exact m.io.trans B.io | exact a.1.io.trans B.io | exact B1.io | rfl⟩,hrole,rfl,(fun th hm=>by cases hm),(fun th hm=>by cases hm),(fun t t' th th' _ e=>by simp at e),(fun th hm=>by cases hm),(fun t th o e=>by simp at e),hex,upd_same ..,⟨0,0,.int .i64 0,104,hnew⟩,obj_cell (o:=0) hnew rfl,D.closed _ _ _ _ _ hM fun b hb hn=>⟨(upd_ne _ _ (by omega)).trans hn,hold b hb⟩,(fun b o e=>by cases e),(fun t m ℓ e=>by simp at e)⟩
 by_cases hb:b=w1.heap.size
 ·exact .inr (by omega)
 ·exact .inl ((upd_ne _ _ hb).symm.trans e)
theorem run_start {N bcap:Nat} {ba pa:Option Addr} {np pcap:Nat} {drain:Bool} (hN8:N≤8) (hrole:E.role h=.gone) (hmode:∀ b,E.mode b=0) (hM:D.M s E w) (hWH0:∀ b,E.W b=true→E.H b=some 1)
  (hc:∀ E1 w1 E' w' T',AtE h E w E1 w1→(∀ x,E1.wg x≠some w1.heap.size)→Phase D h w1.heap.size E1 w1 (fun _=>none) [] [] s 0 E' w'→RegsA T' w1.heap.size (.slice none 0 0) N 0 (.slice ba N bcap)→T'[1]?=some (.slice pa np pcap)→T'[2]?=some (.bool drain)→HG Try.prog h F E' (G ((base 29).at ⟨T',[]⟩ hdA) (c :: cl)) w') :
  HGn Try.prog h F E w 100 (entry 29 Try.f29 #[.slice ba N bcap,.slice pa np pcap,.bool drain] (c :: cl)):=by
 have q1:decide ((8:Int) < (N:Int))=false:=decide_eq_false (by omega)
 unfold entry
 generalize hLA:xHire=LH
 simp only [Try.f29,Option.getD_some]
 walk_nrm
 refine Idl.q (idl_hg Try.prog h F E w) (Idl.rg (idl_hg Try.prog h F E w) [0] rfl ?_)
 refine Idl.v (idl_hg Try.prog h F E w) ?_
 walk_nrm
 refine Idl.re (idl_hg Try.prog h F E w) (Idl.q (idl_hg Try.prog h F E w) (Idl.q (idl_hg Try.prog h F E w) (Idl.rg (idl_hg Try.prog h F E w) [0,1,2] rfl ?_)))
 refine Idl.v (idl_hg Try.prog h F E w) ?_
 walk_nrm
 refine Idl.value (v:=.int .i64 (N:Int)) (idl_hg Try.prog h F E w) rfl rfl (by k_ne) (fun w=>by simp [go_sem]) (fun w=>by simp [go_sem]) ?_
 walk_nrm
 refine Idl.v (idl_hg Try.prog h F E w) ?_
 walk_nrm
 refine Idl.re (idl_hg Try.prog h F E w) (Idl.cf (idl_hg Try.prog h F E w) rfl (Idl.sk (idl_hg Try.prog h F E w) (Idl.q (idl_hg Try.prog h F E w) (Idl.rg (idl_hg Try.prog h F E w) [0,1,2] rfl ?_))))
 refine Idl.v (idl_hg Try.prog h F E w) ?_
 walk_nrm
 refine HGn.newRun (ty:=104) rfl rfl (by k_ne) (fun w₁=>⟨by kernel_rfl,by kernel_rfl⟩) (fun E1 w1 a1 k1 k2 k3 k4 k5 k6=>?_)
 have Ph:Phase D h w1.heap.size E1 w1 (fun _=>none) [] [] s 0 (E1.runE w1.heap.size) (w1.alloc (runObj (.int .i64 0) 0 0 104)):=phase_start rfl rfl (D.closed _ _ _ _ _ hM fun b hb hn=>⟨by rw [a1.1.H']; exact hn,a1.2.heap b (by
  cases e:E.W b with
  | false=>rfl
  | true=>rw [hWH0 b e] at hn; cases hn)⟩) (a1.1.roleH.trans hrole) (fun b=>a1.1.mode b (hmode b)) k1 k3 k4 k5
 have hc':=fun T'=>hc E1 w1 _ _ T' a1 k2 Ph
 clear hc
 generalize E1.runE w1.heap.size=E' at hc' ⊢
 generalize w1.alloc (runObj (.int .i64 0) 0 0 104)=w' at hc' ⊢
 walk_nrm
 change HGn Try.prog h F E' w' 100 _
 refine Idl.v (idl_hg Try.prog h F E' w') ?_
 walk_nrm
 refine Idl.re (idl_hg Try.prog h F E' w') (Idl.q (idl_hg Try.prog h F E' w') (Idl.rg (idl_hg Try.prog h F E' w') [0] rfl ?_))
 refine Idl.v (idl_hg Try.prog h F E' w') ?_
 walk_nrm
 refine Idl.re (idl_hg Try.prog h F E' w') (Idl.q (idl_hg Try.prog h F E' w') (Idl.q (idl_hg Try.prog h F E' w') (Idl.rg (idl_hg Try.prog h F E' w') [0,1,2] rfl ?_)))
 refine Idl.v (idl_hg Try.prog h F E' w') ?_
 walk_nrm
 refine Idl.value (v:=.int .i64 (N:Int)) (idl_hg Try.prog h F E' w') rfl rfl (by k_ne) (fun w=>by simp [go_sem]) (fun w=>by simp [go_sem]) ?_
 walk_nrm
 refine Idl.v (idl_hg Try.prog h F E' w') ?_
 walk_nrm
 refine Idl.re (idl_hg Try.prog h F E' w') ?_
 refine Idl.bl (idl_hg Try.prog h F E' w') ?_
 refine Idl.lp (idl_hg Try.prog h F E' w') ?_
 exact hc' _ ⟨by simp,by simp,by simp,by simp,by simp,by simp⟩ (by simp) (by simp)
end
end Go.Proofs.Ytimlbbleblijnaa.Co

namespace Go.Proofs.Ytimlbbleblijnaa.Co
open Go Go.Conc
section
variable {σ Λ:Type}
def RunR (D:Prot σ Λ) (bs:List (Body σ Λ)) (picks:List Int) (drain:Bool) (s:σ) (z:σ × Int):Prop :=
 if bs.length=0 then z=(s,0) else ∃ x0 x1 x2,StartR bs ([],s) x0∧PicksR D bs.length picks (x0.1,x0.2,0) x1∧DrainB D bs.length drain x1 x2∧z=x2.2
theorem wt_append (a b:List (Option (Nat × Λ))):wt (a ++ b)=wt a+wt b:=by simp [wt,List.map_append,List.sum_append]
theorem wt_start {l:List (Body σ Λ)} {x x':List (Option (Nat × Λ)) × σ} {B:Nat} (hr:StartR l x x'):(∀ b ∈ l,b.n≤B)→wt x'.1≤wt x.1+l.length * (B+1):=by
 induction hr with
 | nil x=>exact fun _=>Nat.le_add_right _ _
 | @cons b l x s' o x' h t ih =>
   intro hB
   have h1:=ih (fun b' hb=>hB b' (List.mem_cons_of_mem _ hb))
   have h2:wt [o.map (fun ℓ=>(b.n,ℓ))]≤B+1:=by
    have:=hB b (List.mem_cons_self ..)
    cases o with
    | none=>simp [wt,wt1]
    | some ℓ=>simp [wt,wt1]; omega
   have h3:wt x'.1≤wt (x.1 ++ [o.map (fun ℓ=>(b.n,ℓ))])+l.length * (B+1):=h1
   rw [wt_append] at h3
   rw [List.length_cons,Nat.add_mul,Nat.one_mul]
   omega
theorem startR_fuel {N:Nat} {l:List (Body σ Λ)} {x x':List (Option (Nat × Λ)) × σ} (hr:StartR l x x'):(∀ b ∈ l,N≤b.n)→FuelR N (x.1,x.2,(0:Int))→FuelR N (x'.1,x'.2,(0:Int)):=by
 induction hr with
 | nil x=>exact fun _ h=>h
 | @cons b l x s' o x' h t ih =>
   intro hB hf
   refine ih (fun b' hb=>hB b' (List.mem_cons_of_mem _ hb)) (fun t m ℓ e=>?_)
   dsimp only at e ⊢
   by_cases h1:t < x.1.length
   ·rw [List.getElem?_append_left h1] at e
    exact hf t m ℓ e
   ·rw [List.getElem?_append_right (by omega)] at e
    have hb:=hB b (List.mem_cons_self ..)
    obtain ⟨q,hq⟩:∃ q,t - x.1.length=q:=⟨_,rfl⟩
    rw [hq] at e
    cases q with
    | zero =>
      cases o with
      | none=>simp at e
      | some y =>
        simp only [List.getElem?_cons_zero,Option.map_some,Option.some.injEq,Prod.mk.injEq] at e
        omega
    | succ q=>simp at e
theorem picksR_wt {D:Prot σ Λ} {n:Nat} {l:List Int} {x x':RS σ Λ} (h:PicksR D n l x x'):wt x'.1≤wt x.1∧x'.2.2=x.2.2+l.length:=by
 induction h with
 | nil x=>exact ⟨Nat.le_refl _,by simp⟩
 | cons h t ih =>
   refine ⟨Nat.le_trans ih.1 (pickR_wt h).2,?_⟩
   rw [ih.2,pickR_k h,List.length_cons]
   push_cast
   omega
end
section
variable {σ Λ:Type} {D:Prot σ Λ} {h:Nat} {E:Env} {w:World} {s:σ} {F:Machine→Trace→Prop}
 {b₀:Frame} {a₀:Act} {ops₀:Array Oper} {i₀:Nat} {rest₀:List Nat} {k₀:List Item} {cl:List Frame}
theorem run_holdsL {Nf:Nat} {bs:List (Body σ Λ)} {picks:List Int} {drain:Bool} {aa pa:Option Addr} {bcap pcap ba bo pb po:Nat} (hN8:bs.length≤8) (hnp:picks.length≤1000000000000000) (hfuel:∀ b ∈ bs,b.n≤100000000000000000)
  (haa:bs≠[]→aa=some ⟨ba,bo,none⟩) (hpa:picks≠[]→pa=some ⟨pb,po,none⟩) (hL:D.lax→(∀ b ∈ bs,Nf≤b.n)∧(picks.length:Int)+8 < Nf∧∀ x0 x1,StartR bs ([],s) x0→PicksR D bs.length picks (x0.1,x0.2,0) x1→∀ y,Rounds D bs.length x1 y→y.2.2+8 < Nf) (hp64:∀ p ∈ picks,-9223372036854775808≤p∧p≤9223372036854775807)
  (hBod:∀ s E w,D.M s E w→∀ i b,bs[i]?=some b→w.cell? ⟨ba,bo+i,none⟩=some b.v∧E.H ba=none) (hPick:∀ s E w,D.M s E w→∀ i p,picks[i]?=some p→w.cell? ⟨pb,po+i,none⟩=some (.int .i64 p)∧E.H pb=none)
  (hBorn:∀ (i:Nat) (b:Body σ Λ),bs[i]?=some b→BornV D i b.n b.start b.v) (hSO:∀ (i:Nat) (b:Body σ Λ),bs[i]?=some b→StartOk D i b.start) (hI:D.init 0 s) (hrole:E.role h=.gone) (hmode:∀ b,E.mode b=0) (hM:D.M s E w)
  (hfin:∀ z E' w',RunR D bs picks drain s z→Kept h none E w E' w'→D.M z.1 E' w'→HG Try.prog h F E' (G (b₀.at (a₀.put ((ops₀[i₀]?).bind (·.dst)) (.int .i64 z.2)) (.inRegion ops₀ rest₀ :: k₀)) cl) w') :
  HG Try.prog h F E (entry 29 Try.f29 #[.slice aa bs.length bcap,.slice pa picks.length pcap,.bool drain] (b₀.at a₀ (.inRegion ops₀ (i₀ :: rest₀) :: k₀) :: cl)) w:=by
 refine HG.withH fun hWH hWS=>?_
 refine run_start hN8 hrole hmode hM hWH (fun E1 w1 E2 w2 T1 a1 hw0 P1 R1 t1 t2=>?_)
 generalize hrb:w1.heap.size=rb at hw0 P1 R1
 have hfin1:∀ z E' w',RunR D bs picks drain s z→Kept h none E1 w1 E' w'→D.M z.1 E' w'→HG Try.prog h F E' (G (b₀.at (a₀.put ((ops₀[i₀]?).bind (·.dst)) (.int .i64 z.2)) (.inRegion ops₀ rest₀ :: k₀)) cl) w':=fun z E' w' hz k m=>hfin z E' w' hz ((Kept.of_at a1).trans k) m
 by_cases hb0:bs.length=0
 ·rw [hb0] at R1
  refine run_hire_end R1 (fun T2 e1 e2 e3=>?_)
  refine run_nobody e1 e2 (hfin1 (s,0) E2 w2 (by unfold RunR; rw [if_pos hb0]) (P1.base.over P1.role (fun x ⟨th,hm,_⟩=>by cases hm) (fun x e=>?_) P1.ex) P1.M)
  exact hw0 x (P1.base.wg x rb (fun ⟨th,hm,_⟩=>by cases hm) e)
 ·have hN:0 < bs.length:=by omega
  have hgs0:GS w1 (.slice none 0 0) (fun _=>none) []:=.inl ⟨rfl,rfl,fun _=>rfl⟩
  refine run_hire (bs:=bs) (bv:=.slice aa bs.length bcap) (ba:=ba) (bo:=bo) (bcap:=bcap) (fun e=>by rw [haa e]) hN8 hw0 hBod hBorn hSO bs [] (fun _=>none) (.slice none 0 0) ([],s) T1 E2 w2 rfl (Nat.zero_le _) hI P1 hgs0 R1 (fun x0 E3 w3 T3 Pv gv ths hx0 hths P3 hgs e1 e2 k3=>?_)
  have hf0:D.lax→FuelR Nf (x0.1,x0.2,(0:Int)):=fun hl=>startR_fuel hx0 (hL hl).1 (fun t m ℓ e=>by simp at e)
  have hwt:=wt_start hx0 hfuel
  have hwt':wt x0.1≤900000000000000000:=by
   have h0:wt (([]:List (Option (Nat × Λ))))=0:=rfl
   have:bs.length * (100000000000000000+1)≤8 * (100000000000000000+1):=Nat.mul_le_mul_right _ hN8
   have h1:wt x0.1≤wt (([]:List (Option (Nat × Λ))))+bs.length * (100000000000000000+1):=hwt
   rw [h0] at h1
   omega
  refine run_mid hgs hths hN e1 e2 (by rw [k3 1 (by simp)]; exact t1) (fun T4 f1 f2 f3 f4 f5 f6 k4=>?_)
  refine run_picks (Nf:=Nf) (fun hl=>by have:=(hL hl).2.1; omega) (picks:=picks) (pv:=.slice pa picks.length pcap) (pb:=pb) (po:=po) (pcap:=pcap) hths hN hN8 hgs hnp (fun e=>by rw [hpa e]) hp64 hPick picks 0 (x0.1,x0.2,0) T4 E3 w3 rfl (Nat.zero_le _) rfl hf0 P3 f1 f2 f3 f4 f5 f6 (fun x1 E5 w5 T5 hx1 P5 g1 g2 k5=>?_)
  obtain ⟨pw1,pw2⟩:=picksR_wt hx1
  have pw2':x1.2.2=(picks.length:Int):=by rw [pw2]; simp
  have pw1':wt x1.1≤900000000000000000:=Nat.le_trans pw1 hwt'
  refine run_drain (Nf:=Nf) (drain:=drain) (x:=x1) hgs hths hN hN8 (by omega) (by omega) (fun hl=>⟨picksR_fuel hx1 (hf0 hl),fun y hy=>by have:=(hL hl).2.2 x0 x1 hx0 hx1 y hy; omega⟩) P5 g1 (by rw [k5 2 (by simp),k4 2 (by simp),k3 2 (by simp)]; exact t2) g2 (fun x2 E6 w6 T6 hx2 P6 j1 j2 k6=>?_)
  have hpos2:Pos D x2.1:=FuelR.pos (N:=Nf) (x:=x2) (fun hl=>by
   have hk1:(picks.length:Int)+8 < Nf:=(hL hl).2.1
   unfold DrainB at hx2
   cases drain with
   | true =>
     simp only [if_true] at hx2
     exact drainR_fuel hx2 (picksR_fuel hx1 (hf0 hl)) (fun y hy=>by have:=(hL hl).2.2 x0 x1 hx0 hx1 y hy; omega)
   | false =>
     simp only [Bool.false_eq_true,if_false] at hx2
     subst hx2
     exact ⟨picksR_fuel hx1 (hf0 hl),by omega⟩)
  refine run_off_start hgs hths hN j1 j2 (fun T7 R7 k7=>?_)
  refine run_off hgs hths hN8 bs.length 0 _ T7 E6 w6 (by omega) (fun j hj=>by omega) hpos2 P6 R7 (fun E8 w8 T8 st8 hnone P8 l1 k8=>?_)
  exact run_end P8 hnone hw0 l1 (by rw [k8 7 (by simp),k7 7 (by simp),k6 7 (by simp),k5 7 (by simp),k4 7 (by simp),k3 7 (by simp)]; exact R1.t7) (fun E' w' kk mm=>hfin1 x2.2 E' w' (by unfold RunR; rw [if_neg hb0]; exact ⟨x0,x1,x2,hx0,hx1,hx2,rfl⟩) kk mm)
theorem run_holds {bs:List (Body σ Λ)} {picks:List Int} {drain:Bool} {aa pa:Option Addr} {bcap pcap ba bo pb po:Nat} (hN8:bs.length≤8) (hnp:picks.length≤1000000000000000) (hfuel:∀ b ∈ bs,b.n≤100000000000000000)
  (haa:bs≠[]→aa=some ⟨ba,bo,none⟩) (hpa:picks≠[]→pa=some ⟨pb,po,none⟩) (hp64:∀ p ∈ picks,-9223372036854775808≤p∧p≤9223372036854775807)
  (hBod:∀ s E w,D.M s E w→∀ i b,bs[i]?=some b→w.cell? ⟨ba,bo+i,none⟩=some b.v∧E.H ba=none) (hPick:∀ s E w,D.M s E w→∀ i p,picks[i]?=some p→w.cell? ⟨pb,po+i,none⟩=some (.int .i64 p)∧E.H pb=none)
  (hBorn:∀ (i:Nat) (b:Body σ Λ),bs[i]?=some b→BornV D i b.n b.start b.v) (hSO:∀ (i:Nat) (b:Body σ Λ),bs[i]?=some b→StartOk D i b.start) (hI:D.init 0 s) (hrole:E.role h=.gone) (hmode:∀ b,E.mode b=0) (hM:D.M s E w)
  (hfin:∀ z E' w',RunR D bs picks drain s z→Kept h none E w E' w'→D.M z.1 E' w'→HG Try.prog h F E' (G (b₀.at (a₀.put ((ops₀[i₀]?).bind (·.dst)) (.int .i64 z.2)) (.inRegion ops₀ rest₀ :: k₀)) cl) w') (hlx:¬ D.lax:=by exact fun h=>h) :
  HG Try.prog h F E (entry 29 Try.f29 #[.slice aa bs.length bcap,.slice pa picks.length pcap,.bool drain] (b₀.at a₀ (.inRegion ops₀ (i₀ :: rest₀) :: k₀) :: cl)) w :=
 run_holdsL (Nf:=0) hN8 hnp hfuel haa hpa (fun hl=>absurd hl hlx) hp64 hBod hPick hBorn hSO hI hrole hmode hM hfin
end
def onlyPicks:FuncId→Bool:=fun f=>f == 37
theorem closed_picks:Closed Try.prog onlyPicks:=by
 refine ⟨fun f hf=>?_,fun f fn c hf hfn hb=>?_⟩
 ·have:f=37:=by simpa [onlyPicks] using hf
  subst this
  exact ⟨Try.f37,Try.func37,by kernel_rfl,.inl (by rfl)⟩
 ·have:f=37:=by simpa [onlyPicks] using hf
  subst this
  rw [Try.func37] at hfn
  obtain rfl:=Option.some.inj hfn
  have h2:Try.f37.body=some (Try.f37.body.getD .skip):=by rfl
  rw [h2] at hb
  obtain rfl:=Option.some.inj hb
  show quietCode Try.prog onlyPicks (Try.f37.body.getD .skip)=true
  kernel_rfl
section
variable {P:Program} {h:Nat} {F:Machine→Trace→Prop} {E:Env} {w:World} {Fs:FuncId→Bool}
theorem HG.quietF (hC:Closed P Fs) {fr:Frame} {a:Act} {k:List Item} {cs:List Frame} {x:Code} {Q:Act→World→Env→World→Prop} (hq:quietCode P Fs x=true) (hk:fr.kind=.normal) (ha:a.defers=[])
  (hwp:∀ E1 w1,AtE h E w E1 w1→Fit E1.H E1.W w1→∀ τ,x.wp P (fun e a' x'=>e=.normal∧a'.defers=[]∧∀ w' τ' d,x'=rt (vw E1.H w') τ' d→Far E1.H E1.W w1 w'→Fit E1.H E1.W w'→Q a' w' E1 w1) a (rt (vw E1.H w1) τ 0))
  (hg:∀ E1 w1,AtE h E w E1 w1→∀ a' w',a'.defers=[]→Far E1.H E1.W w1 w'→Fit E1.H E1.W w'→Q a' w' E1 w1→HG P h F E1 (G (fr.at a' k) cs) w'):HG P h F E (G (fr.at a (.code x :: k)) cs) w:=by
 refine HG.open fun E1 w1 hA ⟨gs,T,q,C,_⟩=>?_
 have hD:Lets E1.H E1.W E1.D:=lets_dg (fun a ⟨i,hi⟩=>C.hidS i a hi) (fun c ⟨i,home,e⟩=>C.hidC i c home e) C.fit.sub
 exact (HG.clo P h F E1).quiet (Q:=fun a' w'=>Q a' w' E1 w1) hC hD hq hk ha C.fit (hwp E1 w1 hA C.fit) (fun a' w' h1 h2 h3 h4=>hg E1 w1 hA a' w' h1 h2 h3 h4)
end
set_option maxHeartbeats 400000 in
theorem picks_any {gb rb:Nat} {k:Int} (x:World) (h1:x.cell? ⟨gb,0,none⟩=some (.pointer (some ⟨rb,0,none⟩))) (h2:x.cell? ⟨rb,0,none⟩=some (.int .i64 k)) :
  Calls Try.prog 37 #[.pointer (some ⟨gb,0,none⟩)] x fun e x'=>e=.returned (.int .i64 k)∧x'=x:=by
 go_enter Try.func37,Try.ntmps37
 go_wp2
 go_ret
 exact ⟨rfl,rfl⟩
theorem vw_first {H:Nat→Option Nat} {w:World} {b:Nat} {c:Array Value} {e:TypeId} {v:Value} {τ:Nat→Question→Nat} {d:Nat} (hH:H b=some 1) (h:w.heap[b]?=some (.cells c e)) (hv:c[0]?=some v):(rt (vw H w) τ d).cell? ⟨b,0,none⟩=some v:=by
 have:(rt (vw H w) τ d).heap[b]?=some (.cells (c.extract 0 1) e):=by
  show (vw H w).heap[b]?=_
  rw [vw_get_some hH,h]; rfl
 refine obj_cell this ?_
 rw [Array.getElem?_extract]
 have hl:=(Array.getElem?_eq_some_iff.1 hv).1
 rw [if_pos (by omega)]
 simpa using hv
theorem vw_cellN {H:Nat→Option Nat} {w:World} {a:Addr} {τ:Nat→Question→Nat} {d:Nat} (hH:H a.block=none):(rt (vw H w) τ d).cell? a=w.cell? a:=by
 show (vw H w).cell? a=_
 unfold World.cell?
 rw [vw_get_none hH]
section
variable {P:Program} {Q:Exit→Act→World→Prop}
def LastQ (P:Program) (o:Oper) (Q:Exit→Act→World→Prop):Exit→Act→World→Prop
 | .normal,a,w=>o.wp P a w (fun a' w'=>Q .normal a' w') Q
 | e,a,w=>Q e a w
theorem lastQ_ne {o:Oper} {e:Exit} (h:e≠.normal):LastQ P o Q e=Q e:=by
 cases e <;> first | rfl | exact absurd rfl h
theorem wp_exits {o:Oper} {a:Act} {w:World} {K:Act→World→Prop} {Q':Exit→Act→World→Prop} (h:∀ e,e≠.normal→Q' e=Q e) (hh:o.wp P a w K Q'):o.wp P a w K Q:=by
 unfold Oper.wp at *
 generalize (execOp a.eval o).run P w=r at *
 have hL:LetsOut Q'→LetsOut Q:=fun ⟨a,w,z⟩=>⟨a,w,by rw [← h .outgrown (by intro e; cases e)]; exact z⟩
 have hP:∀ c a w,Q' (.panic c) a w→Q (.panic c) a w:=fun c a w z=>by rw [← h (.panic c) (by intro e; cases e)]; exact z
 cases r with
 | ok n w' =>
   cases n <;> simp only [Oper.upon] at hh ⊢ <;>
    first
     | exact hh
     | exact Calls.mono hh (fun e w'' he=>by cases e <;> first | exact he | exact hP _ _ _ he | exact hL he)
 | halt x w'=>cases x <;> simp only [Oper.upon] at hh ⊢ <;> first | exact hh | exact hP _ _ _ hh
def nopOf (o:Oper):Oper:={ o with dst:=none,op:=.move (.const undef) }
def lastB (md:Region.Mode) (ops:Array Oper) (n:Nat):Bool :=
 (n+1 == ops.size) && ((List.range n).all fun j=>((ops[n]?).map fun o:Oper=>o.after.any fun e=>Region.binds md e && e.on == j).getD false) && ops.all (fun o=>o.guard.isNone) && (List.range ops.size).all fun j=>((ops[j]?).map fun o:Oper=>o.after.all fun e=>decide (e.on < j)).getD false
theorem ready_set {md:Region.Mode} {ops ops':Array Oper} (hs:ops'.size=ops.size) (ha:∀ i:Nat,(ops'[i]?).map Oper.after=(ops[i]?).map Oper.after) (listed:Array Bool):Region.ready md ops' listed=Region.ready md ops listed:=by
 unfold Region.ready
 rw [hs]
 congr 1
 funext i
 have h2:(ops'[i]?).map (fun o:Oper=>o.after.all fun e=>!Region.binds md e || listed.getD e.on false)=(ops[i]?).map (fun o:Oper=>o.after.all fun e=>!Region.binds md e || listed.getD e.on false):=by
  have:=congrArg (Option.map (fun x=>x.all fun e=>!Region.binds md e || listed.getD e.on false)) (ha i)
  rw [Option.map_map,Option.map_map] at this
  exact this
 rw [h2]
theorem wpAny_last {md:Region.Mode} {ops:Array Oper} {n:Nat} {o:Oper} (ho:ops[n]?=some o) (hB:lastB md ops n=true) :
  ∀ (fuel:Nat) (listed:Array Bool) (a:Act) (w:World),wpAny P md (ops.setIfInBounds n (nopOf o)) (LastQ P o Q) fuel listed a w→listed.size=ops.size→listed.getD n true=false→wpAny P md ops Q fuel listed a w:=by
 simp only [lastB,Bool.and_eq_true,beq_iff_eq,List.all_eq_true,List.mem_range,Array.all_eq_true] at hB
 obtain ⟨⟨⟨hn,hall⟩,hg⟩,hback⟩:=hB
 have hnl:n < ops.size:=by omega
 have hsz:(ops.setIfInBounds n (nopOf o)).size=ops.size:=by simp
 have haft:∀ i:Nat,((ops.setIfInBounds n (nopOf o))[i]?).map Oper.after=(ops[i]?).map Oper.after:=fun i=>by
  rw [Array.getElem?_setIfInBounds]
  by_cases hi:n=i
  ·subst hi
   rw [if_pos rfl,if_pos hnl,ho]; rfl
  ·rw [if_neg hi]
 have hready:=fun listed=>ready_set (md:=md) hsz haft listed
 have hguard:∀ (i:Nat) (oi:Oper),ops[i]?=some oi→oi.guard=none:=fun i oi e=>by
  obtain ⟨h1,h2⟩:=Array.getElem?_eq_some_iff.1 e
  have:=hg i h1
  rw [h2] at this
  simpa using this
 have hne:∀ (listed:Array Bool),listed.size=ops.size→∀ i,listed.getD i true=false→Region.ready md ops listed≠[]:=fun listed hsl i=>by
  induction i using Nat.strongRecOn with
  | _ i ih =>
    intro hun
    have hil:i < ops.size:=by
     rcases Nat.lt_or_ge i ops.size with z | z
     ·exact z
     ·rw [← hsl] at z
      simp [Array.getD,Nat.not_lt.2 z] at hun
    by_cases hr:i ∈ Region.ready md ops listed
    ·exact fun e=>by rw [e] at hr; cases hr
    ·have hoi:ops[i]?=some ops[i]:=Array.getElem?_eq_getElem hil
     have hnr:=fun z=>hr (mem_ready.2 ⟨hun,_,hoi,z⟩)
     have hb:=hback i hil
     rw [hoi] at hb
     simp only [Option.map_some,Option.getD_some,Array.all_eq_true,decide_eq_true_eq] at hb
     apply Classical.byContradiction
     intro hemp
     refine hnr fun e he hbd=>?_
     cases hl:listed.getD e.on false with
     | true=>rfl
     | false =>
       obtain ⟨j,hj,rfl⟩:=Array.mem_iff_getElem.1 he
       have hlt:=hb j hj
       refine absurd (ih _ hlt ?_) hemp
       have:ops[i].after[j].on < listed.size:=by omega
       simp only [Array.getD,this,dif_pos] at hl ⊢
       exact hl
 intro fuel
 induction fuel with
 | zero =>
   intro listed a w h hsl hun
   obtain ⟨h1,h2⟩:=h
   rw [hready] at h1
   exact absurd h1 (hne listed hsl n hun)
 | succ fuel ih =>
   intro listed a w h hsl hun
   obtain ⟨h1,h2⟩:=h
   rw [hready] at h1 h2
   refine ⟨fun h0=>?_,fun i hi=>?_⟩
   ·exact absurd h0 (hne listed hsl n hun)
   ·have h3:=h2 i hi
    have hir:=(mem_ready.1 hi)
    by_cases hin:i=n
    ·subst hin
     unfold wpOp at h3 ⊢
     rw [Array.getElem?_setIfInBounds,if_pos rfl,if_pos hnl] at h3
     rw [ho]
     have g0:=hguard i o ho
     have w1:∀ (ops2:Array Oper) (o2:Oper) (t:Array Value),o2.guard=none→Region.wanted o2 (yielded ops2 t)=true:=fun ops2 o2 t e=>by simp [Region.wanted,e]
     dsimp only at h3 ⊢
     rw [if_pos (w1 _ _ _ (by exact g0))] at h3
     rw [if_pos (w1 _ _ _ g0)]
     have hemp:Region.ready md ops (listed.setIfInBounds i true)=[]:=by
      apply List.eq_nil_iff_forall_not_mem.2
      intro j hj
      obtain ⟨hju,oj,hoj,hje⟩:=mem_ready.1 hj
      have hjl:j < ops.size:=(Array.getElem?_eq_some_iff.1 hoj).1
      by_cases hji:i=j
      ·subst hji
       simp [Array.getD,hsl,hnl] at hju
      ·have hjn:j < i:=by omega
       have h6:=hall j hjn
       rw [ho] at h6
       simp only [Option.map_some,Option.getD_some,Array.any_eq_true] at h6
       obtain ⟨q,hq,h7⟩:=h6
       simp only [Bool.and_eq_true,beq_iff_eq] at h7
       obtain ⟨hun',o2,ho2,hedge⟩:=hir
       rw [ho] at ho2
       obtain rfl:=Option.some.inj ho2
       have h8:=hedge _ (Array.getElem_mem hq) h7.1
       rw [h7.2] at h8
       rw [getD_set_ne true hji] at hju
       have hjs:j < listed.size:=by omega
       simp only [Array.getD,hjs,dif_pos] at h8 hju
       rw [h8] at hju; cases hju
     have hK:∀ (f:Nat) (a':Act) (w':World),Q .normal a' w'→wpAny P md ops Q f (listed.setIfInBounds i true) a' w':=fun f a' w' z=>by
      cases f with
      | zero=>exact ⟨hemp,z⟩
      | succ f=>exact ⟨fun _=>z,by rw [hemp]; simp⟩
     have hend:wpAny P md (ops.setIfInBounds i (nopOf o)) (LastQ P o Q) fuel (listed.setIfInBounds i true) (a.put (nopOf o).dst undef) w→LastQ P o Q .normal a w:=fun z=>by
      have hr0:=(hready (listed.setIfInBounds i true)).trans hemp
      cases fuel with
      | zero=>exact z.2
      | succ f=>exact z.1 hr0
     left
     have h4:LastQ P o Q .normal a w:=by
      rcases h3 with h3 | ⟨h3,_⟩
      ·exact hend h3
      ·exact absurd h3.1 (by simp [nopOf,execOp,go_sem])
     exact Oper.wp_mono (fun a' w' z=>hK fuel a' w' z) h4
    ·unfold wpOp at h3 ⊢
     rw [Array.getElem?_setIfInBounds,if_neg (Ne.symm hin)] at h3
     obtain ⟨hun',oi,hoi,hedge⟩:=hir
     rw [hoi] at h3 ⊢
     have g0:=hguard i oi hoi
     have w1:∀ (ops2:Array Oper) (t:Array Value),Region.wanted oi (yielded ops2 t)=true:=fun ops2 t=>by simp [Region.wanted,g0]
     dsimp only at h3 ⊢
     rw [if_pos (w1 _ _)] at h3
     rw [if_pos (w1 _ _)]
     have hun2:(listed.setIfInBounds i true).getD n true=false:=by
      rw [getD_set_ne true hin]; exact hun
     rcases h3 with h3 | ⟨h3,h4⟩
     ·exact .inl (wp_exits (fun e he=>lastQ_ne he) (Oper.wp_mono (fun a' w' h5=>ih _ a' w' h5 (by simp [hsl]) hun2) h3))
     ·exact .inr ⟨h3,by obtain ⟨a',w',z⟩:=h4; exact ⟨a',w',z⟩⟩
theorem region_last {ops:Array Oper} {n id:Nat} {o:Oper} {a:Act} {w:World} (hm:P.follows .mixedOrders=true) (ho:ops[n]?=some o) (hB:lastB .any ops n=true)
  (h:wpAny P .any (ops.setIfInBounds n (nopOf o)) (LastQ P o Q) (ops.setIfInBounds n (nopOf o)).size (Array.replicate (ops.setIfInBounds n (nopOf o)).size false) a { w with drawn:=w.drawn+1 }):(Code.region id ops true).wp P Q a w:=by
 have hs:(ops.setIfInBounds n (nopOf o)).size=ops.size:=by simp
 rw [hs] at h
 refine wp_region_any hm (wpAny_last ho hB _ _ _ _ h (by simp) ?_)
 have:=(Array.getElem?_eq_some_iff.1 ho).1
 simp [Array.getD,this]
end
theorem arrf {n:Nat} (T:Array Value) (h:T.size=n):∃ f:Nat→Value,T=(List.map f (List.range n)).toArray:=by
 refine ⟨fun i=>T.getD i undef,?_⟩
 apply Array.ext
 ·rw [h]; simp
 ·intro i h1 h2
  simp [Array.getD,h1]
theorem arrf_get (f:Nat→Value) {n i:Nat} (hi:i < n):(List.map f (List.range n)).toArray[i]?=some (f i):=by simp [hi]
theorem info37:∃ i:TypeInfo,Try.prog.info? 37=some i∧i.zero=some (.agg #[.int .i64 0,.int .i64 0,.int .i64 0,.int .i64 0])∧i.size=4∧i.bytes=32:=by
 have h:(Try.prog.info? 37).isSome=true:=by kernel_rfl
 obtain ⟨i,hi⟩:=Option.isSome_iff_exists.1 h
 have h2:(Try.prog.info? 37).map (fun i=>(i.zero,i.size,i.bytes))=some (some (.agg #[.int .i64 0,.int .i64 0,.int .i64 0,.int .i64 0]),4,32):=by kernel_rfl
 rw [hi] at h2
 simp only [Option.map_some,Option.some.injEq,Prod.mk.injEq] at h2
 exact ⟨i,hi,h2.1,h2.2.1,h2.2.2⟩
abbrev Mk:=Int × Int × Int × Int
def mkV (m:Mk):List Value:=[.int .i64 m.1,.int .i64 m.2.1,.int .i64 m.2.2.1,.int .i64 m.2.2.2]
def mksV (l:List Mk):List Value:=(l.map mkV).flatten
theorem mksV_snoc (l:List Mk) (m:Mk):mksV (l ++ [m])=mksV l ++ mkV m:=by simp [mksV]
structure Marked (B mb:Nat) (mv:Value) (xs:List Value) (n:Nat) (x x':World):Prop where
 size:x.heap.size≤x'.heap.size
 old:∀ c,c < x.heap.size→c≠mb→mv.ownBlock≠some c→x'.heap[c]?=x.heap[c]?
 new:∃ mv',x'.heap[mb]?=some (.cells #[mv'] 27)∧x'.ownsRow B 37 4 mv' n xs∧∀ g,mv'.ownBlock=some g→mv.ownBlock=some g∨x.heap.size≤g
theorem kept_set {j gb o:Nat} {E:Env} {w:World} {v:Value} (gW:E.W gb=false):Kept j (some gb) E w E (w.setCell ⟨gb,o,none⟩ v) :=
 ⟨.refl j E,by simp [World.setCell],fun b n _ _ hg _=>heap_setCell_ne (a:=⟨gb,o,none⟩) (fun e=>hg (congrArg some e)),fun b hW x st sm e hx=>⟨st,sm,by rw [heap_setCell_ne (a:=⟨gb,o,none⟩) (fun z=>by have z':gb=b:=z; rw [z',hW] at gW; cases gW)]; exact hx⟩,fun _ _ h=>.inl h,fun _ h=>.inl h⟩
theorem kept_alloc {j:Nat} {gb:Option Nat} {E:Env} {w:World} {o:Obj}:Kept j gb E w E (w.alloc o) :=
 ⟨.refl j E,by rw [alloc_size]; omega,fun b n _ _ _ hl=>alloc_old hl,fun b hW x st sm e hx=>⟨st,sm,by rw [alloc_old (Array.getElem?_eq_some_iff.1 hx).1]; exact hx⟩,fun _ _ h=>.inl h,fun _ h=>.inl h⟩
section
variable {σ Λ:Type} {D:Prot σ Λ} {h rb:Nat} {home:Goroutine→Prop} {k:Int} {th:Th} {F:Machine→Trace→Prop} {E E1:Env} {w w1:World} {s:σ} {o:Option Λ} {r:Role}
theorem Prot.at (m:D.M s E w) {j:Nat} (hWH:∀ b,E.W b=true→E.H b=some 1) (a:AtE j E w E1 w1):D.M s E1 w1 :=
 D.closed _ _ _ _ _ m fun b _ hn=>⟨by rw [a.1.H']; exact hn,a.2.heap b (by
  cases e:E.W b with
  | false=>rfl
  | true=>rw [hWH b e] at hn; cases hn)⟩
theorem Prot.set (m:D.M s E w) {gb x n:Nat} {v:Value} (gH:E.H gb=some n):D.M s E (w.setCell ⟨gb,x,none⟩ v) :=
 D.closed _ _ _ _ _ m fun b _ hn=>⟨hn,heap_setCell_ne (a:=⟨gb,x,none⟩) (fun e=>by have e':gb=b:=e; rw [e',hn] at gH; cases gH)⟩
theorem Prot.alloc (m:D.M s E w) {x:Obj}:D.M s E (w.alloc x):=D.closed _ _ _ _ _ m fun b hb hn=>⟨hn,alloc_old hb⟩
theorem TKn.gct (T:TKn h rb home k th E w):th.gb≠th.ct:=fun e=>by have h1:=T.gH; rw [e,T.ctH] at h1; cases h1
theorem Back.kept (B:Back D h rb home th F E w s o r) (a:Kept th.j (some th.gb) E w E1 w1):Back D h rb home th F E1 w1 s o r :=
 fun E2 w2 kk g₂ hk hm hg hc hh=>B E2 w2 kk g₂ (a.trans hk) hm hg hc hh
theorem GA.at {j:Nat} {en fr:Bool} {tl:Int × Int × Int} (g:GA w rb th en fr tl) (gW:E.W th.gb=false) (a:AtE j E w E1 w1):GA w1 rb th en fr tl:=by
 unfold GA at g ⊢
 rw [a.2.heap _ gW]; exact g
def OffAt (gb box rb:Nat) (b₀:Frame) (a₀:Act) (ops₀:Array Oper) (i₀:Nat) (rest₀:List Nat) (k₀:List Item) (cl:List Frame):Prop :=
 ∀ {j hr ct cs:Nat} {en fr:Bool} {s p q:Int} {ty:TypeId} {E:Env} {w:World} {F:Machine→Trace→Prop} {home:Goroutine→Prop},w.heap[gb]?=some (gateObj rb ct cs en fr s p q ty)→E.W gb=false→w.cell? ⟨box,0,none⟩=some (.pointer (some ⟨gb,0,none⟩))→E.W box=false→E.role hr=.seat cs home→hr≠j→0 < j→E.wg j=some rb →
  E.role j=.gone→E.W w.heap.size=false →
  (∀ E1 w1 k g₂,AtE j E (w.alloc (.cells #[] 111)) E1 w1→w1.heap[cs]?=some (.chan 0 #[] false k k false)→home g₂→HG Try.prog hr F (E1.setRole j (.ender rb)) (Go.Conc.served g₂ (.bool false)) (w1.setChan cs 0 #[] false (k+1) (k+1) false)) →
  HG Try.prog j F E (G { b₀.at a₀ (.inRegion ops₀ (i₀ :: rest₀) :: k₀) with mode:=.panicking [{ v:=letGoV,recovered:=false }] } cl) w
variable {b₀:Frame} {a₀:Act} {ops₀:Array Oper} {i₀:Nat} {rest₀:List Nat} {k₀:List Item} {cl:List Frame}
theorem LiveRet.offAt {gb box:Nat} (L:LiveRet gb box rb b₀ a₀ ops₀ i₀ rest₀ k₀ cl):OffAt gb box rb b₀ a₀ ops₀ i₀ rest₀ k₀ cl:=L.off
theorem OffAt.up {gb box f:Nat} {fn:Func} {a:Act} {ops:Array Oper} {i:Nat} {rest:List Nat} {k:List Item} (O:OffAt gb box rb b₀ a₀ ops₀ i₀ rest₀ k₀ cl) (hf:Try.prog.funcs[f]?=some fn) (ha:a.defers=[]) :
  OffAt gb box rb (base f) a ops i rest k (b₀.at a₀ (.inRegion ops₀ (i₀ :: rest₀) :: k₀) :: cl):=by
 intro j hr ct cs en fr s p q ty E w F home h1 h2 h3 h4 h5 h6 h7 h8 h9 h10 h11
 refine Idl.unwindNone (n:=1) (idl_hg Try.prog j F E w) ha hf rfl ?_
 exact O h1 h2 h3 h4 h5 h6 h7 h8 h9 h10 h11
theorem offAt_end {fr:Bool} {tl:Int × Int × Int} (O:OffAt th.gb th.box rb b₀ a₀ ops₀ i₀ rest₀ k₀ cl) (T:TKn h rb home k th E w) (g:GA w rb th false fr tl) (m:D.M s E w) (B:Back D h rb home th F E w s none (.ender rb)) :
  HG Try.prog th.j F E (G { b₀.at a₀ (.inRegion ops₀ (i₀ :: rest₀) :: k₀) with mode:=.panicking [{ v:=letGoV,recovered:=false }] } cl) w:=by
 refine HG.open fun E1 w1 hA ⟨gs,T',q,C,_⟩=>?_
 have hWH:∀ b,E1.W b=true→E1.H b=some 1:=C.fit.sub
 have hWH0:∀ b,E.W b=true→E.H b=some 1:=fun b hb=>by rw [← hA.1.H']; exact hWH b (by rw [hA.1.W']; exact hb)
 have T1:=T.kept (Kept.of_at hA) T.gct
 have g1:=GA.at g T.gW hA
 have hn:E1.W w1.heap.size=false:=by
  cases e:E1.W w1.heap.size with
  | false=>rfl
  | true=>have:=hWH _ e; rw [C.fit.bound _ (Nat.le_refl _)] at this; cases this
 refine O g1 T1.gW (C.keep th.j _ _ T1.stB) T1.bW T1.run T1.hj T1.j0 T1.wg T1.role hn (fun E2 w2 kk g₂ hA2 hcs hh=>?_)
 have m2:=Prot.at (D:=D) (Prot.alloc (Prot.at m hWH0 hA) (x:=.cells #[] 111)) hWH hA2
 refine B E2 w2 kk g₂ ((Kept.of_at hA).trans (kept_alloc.trans (Kept.of_at hA2))) m2 ⟨fr,tl,GA.at ?_ T1.gW hA2⟩ hcs hh
 unfold GA at g1 ⊢
 rw [alloc_old T1.gL]; exact g1
theorem body_ret {fr:Bool} {tl:Int × Int × Int} (L:LiveRet th.gb th.box rb b₀ a₀ ops₀ i₀ rest₀ k₀ cl) (T:TKn h rb home k th E w) (g:GA w rb th false fr tl) (m:D.M s E w) (B:Back D h rb home th F E w s none (.ender rb)) :
  HG Try.prog th.j F E (G (b₀.at (a₀.put ((ops₀[i₀]?).bind (·.dst)) (.tuple #[])) (.inRegion ops₀ rest₀ :: k₀)) cl) w:=by
 refine HG.open fun E1 w1 hA ⟨gs,T',q,C,_⟩=>?_
 have hWH:∀ b,E1.W b=true→E1.H b=some 1:=C.fit.sub
 have hWH0:∀ b,E.W b=true→E.H b=some 1:=fun b hb=>by rw [← hA.1.H']; exact hWH b (by rw [hA.1.W']; exact hb)
 have T1:=T.kept (Kept.of_at hA) T.gct
 have g1:=GA.at g T.gW hA
 refine L.ret g1 T1.gW (C.keep th.j _ _ T1.stB) T1.bW T1.run T1.hj T1.j0 T1.wg (fun E2 w2 kk g₂ hA2 hcs hh=>?_)
 exact B E2 w2 kk g₂ (Kept.of_at (hA.trans hA2)) (Prot.at m hWH0 (hA.trans hA2)) ⟨fr,tl,GA.at g T.gW (hA.trans hA2)⟩ hcs hh
theorem body_step {n:Nat} {ℓ:Λ} (T:TKn h rb home k th E w) (g:GA w rb th false false (D.tal ℓ)) (m:D.M s E w) (O:OffAt th.gb th.box rb b₀ a₀ ops₀ i₀ rest₀ k₀ cl)
  (B:Back D h rb home th F E w s (some ℓ) (.seat th.ct (Srv D rb th (n+1) ℓ)))
  (hgo:∀ (h':Nat) (home':Goroutine→Prop) (k':Int) (F':Machine→Trace→Prop) (E':Env) (w':World) (s':σ),TKn h' rb home' k' th E' w'→GA w' rb th false false (IntKind.i64.wrap ((D.tal ℓ).1+1),(D.tal ℓ).2.1,(D.tal ℓ).2.2)→D.M s' E' w'→D.fits ℓ s' →
   (∀ s'' o,D.next ℓ k' s' (s'',o)→Back D h' rb home' th F' E' w' s'' o (roleOf (Srv D rb th n) rb th o))→HG Try.prog th.j F' E' (G (b₀.at (a₀.put ((ops₀[i₀]?).bind (·.dst)) (.tuple #[])) (.inRegion ops₀ rest₀ :: k₀)) cl) w') :
  HGn Try.prog th.j F E w 100 (entry 33 Try.f33 #[.pointer (some ⟨th.gb,0,none⟩)] (b₀.at a₀ (.inRegion ops₀ (i₀ :: rest₀) :: k₀) :: cl)):=by
 refine HG.withH fun hWH _=>?_
 obtain ⟨k0,hct⟩:=T.ctC
 refine step_in (home':=Srv D rb th (n+1) ℓ) g T.gW T.run T.hj T.stT hct T.ctH T.noT (fun g₂ A=>?_) (fun E1 w1 kk g₂ hA hcs hh=>?_)
 ·intro h' home' k' F' E' w' s' T' g' m' f'
  refine ⟨fun hb=>A.go g' T'.gW T'.role T'.noSt ?_,fun hb=>A.off g' T'.gW T'.role T'.noSt ?_⟩
  ·have hk:=kept_set (j:=th.j) (o:=5) (w:=w') (v:=.int .i64 (IntKind.i64.wrap ((D.tal ℓ).1+1))) T'.gW
   refine hgo h' home' k' F' E' _ s' (T'.kept hk T'.gct) ?_ (Prot.set m' T'.gH) f' (fun s'' o hn=>(hb s'' o hn).kept hk)
   exact heap_set (a:=⟨th.gb,5,none⟩) (w:=w') rfl g'
  ·have hk:=kept_set (j:=th.j) (o:=4) (w:=w') (v:=.bool true) T'.gW
   refine offAt_end (fr:=true) (tl:=D.tal ℓ) O (T'.kept hk T'.gct) ?_ (Prot.set m' T'.gH) (hb.kept hk)
   exact heap_set (a:=⟨th.gb,4,none⟩) (w:=w') rfl g'
 ·exact B E1 w1 kk g₂ (Kept.of_at hA) (Prot.at m hWH hA) (GA.at g T.gW hA) hcs hh
end
end Go.Proofs.Ytimlbbleblijnaa.Co
