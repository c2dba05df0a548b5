/- Lemmas for the laws of this seat, laid together of PIe, PIf, PHc, PHe, PHg, PIg. -/
import Derived.Test.YtimlbbleblijnaaV17
import Derived.Test.YtimlbbleblijnaaV19
import Derived.Test.YtimlbbleblijnaaV24
import Derived.Lib.SliceRun

open Go.ConcR.Gen (base_kind baseD_kind)
set_option linter.unusedVariables false
set_option linter.unusedSimpArgs false
set_option maxRecDepth 100000
set_option maxHeartbeats 4000000
namespace Go.Proofs.Ytimlbbleblijnaa.Co
open Go Go.Conc Go.RowKit
open Go.ConcN (sumTo upd sumTo_upd upd_ne upd_same sumTo_congr le_sumTo)
structure RTok (K:Nat→Obj→Prop) (L:List RT) (bb tbx tb bbx ba bo nn cp t:Nat) (p:RT):Prop where
  pt:L[t]?=some p
  kx:KC K ⟨tbx,0,none⟩ (.slice (some ⟨ba,bo,none⟩) nn cp)
  kt:KC K ⟨tb,0,none⟩ (.int .i64 (t:Int))
  kb:KC K ⟨bbx,0,none⟩ (.pointer (some ⟨bb,0,none⟩))
  kr:KC K ⟨ba,bo+t,none⟩ (.slice p.A p.ops.length p.cap)
  ops:∀ (i:Nat) (c:Int),p.ops[i]?=some c→p.A=some ⟨p.la,p.lo,none⟩∧KC K ⟨p.la,p.lo+i,none⟩ (.int .i64 c)
  len:p.ops.length≤1000000000000
  lt:t < nn
theorem RTok.o {K:Nat→Obj→Prop} {L:List RT} {bb tbx tb bbx ba bo nn cp t:Nat} {p:RT} (P:RTok K L bb tbx tb bbx ba bo nn cp t p):opsR L t=p.ops:=by unfold opsR; rw [P.pt]; rfl
section
variable {rb bb tbx tb bbx ba bo nn cp t:Nat} {th:Th} {K:Nat→Obj→Prop} {L:List RT} {p:RT} {b₀:Frame} {a₀:Act} {ops₀:Array Oper} {i₀:Nat} {rest₀:List Nat} {k₀:List Item} {cl:List Frame}
theorem actS_other {c k:Int} {tl:Tl3} {i:Nat} {s:RSt} (h5:c≠5):actS c t k tl i s=⟨s.told,upd s.cnt t (i+1)⟩:=by unfold actS actL; rw [if_neg h5]
theorem rn_loop (P:RTok K L bb tbx tb bbx ba bo nn cp t p) (hbound:sumTo L.length (fun t=>(opsR L t).length)≤1000000000000) (LR:LiveRet th.gb th.box rb b₀ a₀ ops₀ i₀ rest₀ k₀ cl) :
    ∀ (m i:Nat),m+i=p.ops.length→∀ (f:Nat) (tl:Tl3),m≤f→∀ (h:Nat) (home:Goroutine→Prop) (k:Int) (F:Machine→Trace→Prop) (E:Env) (w:World) (s:RSt) (T:Array Value),TKn h rb home k th E w→GA w rb th false false tl→RunM bb K L s E w→s.cnt t=i→RegB T (.pointer (some ⟨th.gb,0,none⟩)) tbx tb bbx i →
      (∀ s' o,AdvR (opsR L t) t k i tl s (s',o)→Back (runD bb K L) h rb home th F E w s' o (roleOf (Srv (runD bb K L) rb th f) rb th o)) →
      HG Try.prog th.j F E (G ((base 78).at ⟨T,[]⟩ hdB) (b₀.at a₀ (.inRegion ops₀ (i₀ :: rest₀) :: k₀) :: cl)) w:=by
  intro m
  induction m with
  | zero =>
    intro i hi f tl hf h home k F E w s T TK g M hcn R hB
    obtain ⟨c1,c2,_⟩:=M.konst _ _ P.kx
    obtain ⟨c3,c4,_⟩:=M.konst _ _ P.kt
    obtain ⟨c5,c6,_⟩:=M.konst _ _ P.kr
    refine bd_head R c1 c3 c5 c2 c4 c6 P.lt (fun hlt=>absurd hlt (by omega)) (fun _ E1 w1 T1 S1 s1=>?_)
    have TK1:=TK.kept S1.kept.weaken TK.gct
    have hb:=(hB s none (.stop (by rw [P.o]; omega))).kept S1.kept.weaken
    refine Idl.step (idl_hg Try.prog th.j F E1 w1) _ _ _ rfl (fun _=>stepG_end) ?_
    refine Idl.leave0 (n:=1) (idl_hg Try.prog th.j F E1 w1) rfl rfl Try.func78 rfl ?_
    exact body_ret (D:=runD bb K L) LR TK1 (GA.kept S1.kept g TK.gH TK.gW) (M.still S1) hb
  | succ m ih =>
    intro i hi f tl hf h home k F E w s T TK g M hcn R hB
    obtain ⟨c1,c2,_⟩:=M.konst _ _ P.kx
    obtain ⟨c3,c4,_⟩:=M.konst _ _ P.kt
    obtain ⟨c5,c6,_⟩:=M.konst _ _ P.kr
    refine bd_head R c1 c3 c5 c2 c4 c6 P.lt (fun hlt E1 w1 T1 S1 R1=>?_) (fun h=>absurd h (by omega))
    have TK1:=TK.kept S1.kept.weaken TK.gct
    have g1:=GA.kept S1.kept g TK.gH TK.gW
    have M1:=M.still S1
    obtain ⟨c,hop⟩:∃ c,p.ops[i]?=some c:=⟨_,List.getElem?_eq_getElem hlt⟩
    have hop':(opsR L t)[i]?=some c:=by rw [P.o]; exact hop
    obtain ⟨hA,K4⟩:=P.ops i c hop
    have K3:=P.kr
    rw [hA] at K3
    obtain ⟨d1,d1H,_⟩:=M1.konst _ _ P.kx
    obtain ⟨d2,d2H,_⟩:=M1.konst _ _ P.kt
    obtain ⟨d3,d3H,_⟩:=M1.konst _ _ K3
    obtain ⟨d4,d4H,_⟩:=M1.konst _ _ K4
    obtain ⟨d5,d5H,_⟩:=M1.konst _ _ P.kb
    have htl:t < L.length:=(List.getElem?_eq_some_iff.1 P.pt).1
    have hil:i < (opsR L t).length:=by rw [P.o]; exact hlt
    have hi12:i≤1000000000000:=by have:=P.len; omega
    refine HG.withH fun hWH _=>?_
    have hWn:∀ b,E1.H b=none→E1.W b=false:=fun b hb=>by
      cases e:E1.W b with
      | false=>rfl
      | true=>have:=hWH b e; rw [hb] at this; cases this
    refine bd_r3 R1 d1 d2 d3 d4 d5 (hWn _ d1H) (hWn _ d2H) (hWn _ d3H) (hWn _ d4H) (hWn _ d5H) P.lt hlt (fun T2 w2 hA2 R2=>?_)
    have kk2:Kept th.j (some th.gb) E1 w1 E1 w2:=Kept.of_at hA2
    have TK2:=TK1.kept kk2 TK1.gct
    have g2:=GA.at g1 TK1.gW hA2
    have M2:RunM bb K L s E1 w2:=Prot.at (D:=runD bb K L) M1 hWH hA2
    have kE:Kept th.j (some th.gb) E w E1 w2:=S1.kept.weaken.trans kk2
    by_cases h1:c=1
    · subst h1
      obtain ⟨f',rfl⟩:∃ f',f=f'+1:=⟨f - 1,by omega⟩
      have B1:=(hB s (some ⟨t,i,tl⟩) (.step hop')).kept kE
      refine does_step (fun a₁ ops' i' rest' k' hd hp=>?_)
      refine body_step (D:=runD bb K L) (n:=f') (ℓ:=⟨t,i,tl⟩) TK2 g2 M2 (OffAt.up (OffAt.up LR.offAt Try.func78 rfl) Try.func42 hd) B1 (fun h' home' k' F' E' w' s' T' g' m' f'' B'=>?_)
      have m':RunM bb K L s' E' w':=m'
      have f'':s'.cnt t=i:=f''
      refine hp F' E' w' (bd_back R2 hi12 (fun T3 R3=>?_))
      exact ih (i+1) (by omega) f' _ (by omega) h' home' k' F' E' w' ⟨s'.told,upd s'.cnt t (i+1)⟩ T3 T' g' (m'.step f'' hil htl rfl) (upd_same ..) R3 (fun s'' o ha=>B' s'' o ha)
    · have hgo : ∀ E3 w3, Kept th.j (some th.gb) E1 w2 E3 w3 → TKn h rb home k th E3 w3 → GA w3 rb th false false (actT c k tl) → RunM bb K L (actS c t k tl i s) E3 w3 → ∀ T3, RegB T3 (.pointer (some ⟨th.gb, 0, none⟩)) tbx tb bbx (i + 1) →
          HG Try.prog th.j F E3 (G ((base 78).at ⟨T3,[]⟩ hdB) (b₀.at a₀ (.inRegion ops₀ (i₀ :: rest₀) :: k₀) :: cl)) w3:=fun E3 w3 k3 T3k g3 M3 T3 R3 =>
        ih (i+1) (by omega) f _ (by omega) h home k F E3 w3 _ T3 T3k g3 M3 (upd_same ..) R3 (fun s' o ha=>(hB s' o (.act hop' h1 ha)).kept (kE.trans k3))
      by_cases h5:c=5
      · subst h5
        refine does_tell rfl TK2 g2 M2 hcn hil htl hbound (fun E3 w3 k3 T3 g3 M3=>bd_back R2 hi12 (fun T4 R4=>hgo E3 w3 k3 T3 g3 M3 T4 R4))
      · have hM:∀ {E3 w3},RunM bb K L s E3 w3→RunM bb K L (actS c t k tl i s) E3 w3:=fun m=>by rw [actS_other h5]; exact m.step hcn hil htl rfl
        by_cases h2:c=2
        · subst h2
          exact does_begin TK2 g2 M2 (fun E3 w3 k3 T3 g3 M3=>bd_back R2 hi12 (fun T4 R4=>hgo E3 w3 k3 T3 g3 (hM M3) T4 R4))
        · by_cases h3:c=3
          · subst h3
            exact does_poll TK2 g2 M2 (fun E3 w3 k3 T3 g3 M3=>bd_back R2 hi12 (fun T4 R4=>hgo E3 w3 k3 T3 g3 (hM M3) T4 R4))
          · by_cases h4:c=4
            · subst h4
              exact does_point TK2 g2 M2 (fun E3 w3 k3 T3 g3 M3=>bd_back R2 hi12 (fun T4 R4=>hgo E3 w3 k3 T3 g3 (hM M3) T4 R4))
            · have e:actT c k tl=tl:=by unfold actT; rw [if_neg h2,if_neg h3,if_neg h4]
              refine does_other h1 h2 h3 h4 h5 (bd_back R2 hi12 (fun T4 R4=>hgo E1 w2 (.refl _ _ _ _) TK2 (by rw [e]; exact g2) (hM M2) T4 R4))
end
section
variable {bb tbx tb bbx ba bo nn cp t:Nat} {K:Nat→Obj→Prop} {L:List RT} {p:RT}
theorem rn_born (P:RTok K L bb tbx tb bbx ba bo nn cp t p) (hbound:sumTo L.length (fun t=>(opsR L t).length)≤1000000000000) :
    Born (runD bb K L) t p.ops.length (AdvR (opsR L t) t 0 0 (0,0,0)) 78 Try.f78 #[.pointer (some ⟨tbx,0,none⟩),.pointer (some ⟨tb,0,none⟩),.pointer (some ⟨bbx,0,none⟩)]:=by
  intro h rb home th F E w s b₀ a₀ ops₀ i₀ rest₀ k₀ cl TK g M hI LR hB
  have M:RunM bb K L s E w:=M
  have hI':s.cnt t=0:=hI t (Nat.le_refl _)
  have hgo:∀ T,RegB T (.pointer (some ⟨th.gb,0,none⟩)) tbx tb bbx 0→HG Try.prog th.j F E (G ((base 78).at ⟨T,[]⟩ hdB) (b₀.at a₀ (.inRegion ops₀ (i₀ :: rest₀) :: k₀) :: cl)) w:=fun T R =>
    rn_loop P hbound LR p.ops.length 0 (by omega) p.ops.length (0,0,0) (Nat.le_refl _) h home 0 F E w s T TK g M hI' R hB
  have hgo':∀ T:Array Value,T.size=26→T[0]?=some (.pointer (some ⟨th.gb,0,none⟩))→T[1]?=some (.pointer (some ⟨tbx,0,none⟩))→T[2]?=some (.pointer (some ⟨tb,0,none⟩))→T[3]?=some (.pointer (some ⟨bbx,0,none⟩))→T[5]?=some (.int .i64 0)→HG Try.prog th.j F E (G ((base 78).at ⟨T,[]⟩ hdB) (b₀.at a₀ (.inRegion ops₀ (i₀ :: rest₀) :: k₀) :: cl)) w:=fun T a1 a2 a3 a4 a5 a6=>hgo T ⟨a1,a2,a3,a4,a5,a6⟩
  clear hgo hB LR M TK g hI hI' hbound P
  replace hgo':=Lib.hid hgo'
  unfold entry
  unfold hdB at hgo'
  rw [show Try.f78.body.getD .skip=.seq xbR0 (.block 0 (.loop bL)) from bB_parts,show Try.f78.ntmps=26 from rfl]
  change HGn Try.prog th.j F E w 100 _
  generalize hG4:bL=L4 at hgo' ⊢
  simp only [xbR0,bR0,bB,Try.f78,Option.getD_some]
  walk_nrm
  refine Idl.q (idl_hg Try.prog th.j F E w) (Idl.rg (idl_hg Try.prog th.j F E w) [0] rfl ?_)
  apply Idl.value (idl_hg Try.prog th.j F E w) rfl rfl (by first | decide | exact base_kind _ | exact baseD_kind _ | assumption)
  focus (intro w; go_simp; (try w_num); first | done | rfl)
  focus (intro w; simp [go_sem, *])
  walk_nrm
  refine Idl.re (idl_hg Try.prog th.j F E w) (Idl.bl (idl_hg Try.prog th.j F E w) (Idl.lp (idl_hg Try.prog th.j F E w) ?_))
  exact hgo'.out _ (by simp) (by simp) (by simp) (by simp) (by simp) (by simp)
end
structure NilRet (gb box rb:Nat) (gst:Goroutine):Prop where
  ret:∀ {j hr ct cs:Nat} {en fr:Bool} {s p q:Int} {ty:TypeId} {E:Env} {w:World} {F:Machine→Trace→Prop} {home:Goroutine→Prop},w.heap[gb]?=some (gateObj rb ct cs en fr s p q ty)→E.W gb=false→w.cell? ⟨box,0,none⟩=some (.pointer (some ⟨gb,0,none⟩))→E.W box=false→E.role hr=.seat cs home→hr≠j→0 < j→E.wg j=some rb →
    (∀ E1 w1 k g₂,AtE j E w E1 w1→w1.heap[cs]?=some (.chan 0 #[] false k k false)→home g₂→HG Try.prog hr F (E1.setRole j (.ender rb)) (Go.Conc.served g₂ (.bool false)) (w1.setChan cs 0 #[] false (k+1) (k+1) false)) →
    HG Try.prog j F E gst w
section
variable {j hr gb rb ct cs:Nat} {en fr:Bool} {s p q:Int} {ty:TypeId} {E:Env} {w:World} {F:Machine→Trace→Prop}
theorem live_nil (hG:w.heap[gb]?=some (gateObj rb ct cs en fr s p q ty)) (hW:E.W gb=false) (hrole:E.role j=.gone) (hWn:E.W w.heap.size=false)
    (hbody:∀ gst,NilRet gb w.heap.size rb gst→HG Try.prog j F E gst (w.alloc (.cells #[.pointer (some ⟨gb,0,none⟩)] 49))) :
    HGn Try.prog j F E w 100 (born Try.prog (dcall 73 #[.pointer (some ⟨gb,0,none⟩),.nilFunc])):=by
  refine Idl.step (n:=99) (idl_hg Try.prog j F E w) _ _ rfl (fun w=>stepG_born Try.func73 (by kernel_rfl) (by rfl)) ?_
  simp only [entryD,Try.f73,Option.getD_some]
  walk_nrm
  refine Idl.q (idl_hg Try.prog j F E w) (Idl.rg (idl_hg Try.prog j F E w) [0] rfl ?_)
  refine HGn.mk (c:=#[.pointer (some ⟨gb,0,none⟩)]) (t:=49) hrole hWn rfl rfl (by exact Go.ConcR.Gen.baseD_kind _) (fun w₁=>⟨by kernel_rfl,by kernel_rfl⟩) ?_
  walk_nrm
  have hG':(w.alloc (.cells #[.pointer (some ⟨gb,0,none⟩)] 49)).heap[gb]?=some (gateObj rb ct cs en fr s p q ty):=by rw [alloc_old (Array.getElem?_eq_some_iff.1 hG).1]; exact hG
  have hbox':(w.alloc (.cells #[.pointer (some ⟨gb,0,none⟩)] 49)).cell? ⟨w.heap.size,0,none⟩=some (.pointer (some ⟨gb,0,none⟩)):=obj_cell alloc_new rfl
  generalize w.alloc (.cells #[.pointer (some ⟨gb,0,none⟩)] 49)=w' at hG' hbox' hbody ⊢
  generalize w.heap.size=box at *
  refine Idl.re (idl_hg Try.prog j F E w') (Idl.q (idl_hg Try.prog j F E w') (Idl.rg (idl_hg Try.prog j F E w') [0,1,2,3,4,5,6] rfl ?_))
  refine HGn.ld hbox' (fun z=>by rw [hWn] at z; cases z) rfl rfl (by first | decide | exact base_kind _ | exact baseD_kind _ | assumption) (fun w₁ hc₁=>⟨by go_simp,fun e he=>by (have he':=he; simp [go_sem,hc₁] at he'; exact he')⟩) ?_
  walk_nrm
  iterate 2 (apply Idl.value (idl_hg Try.prog j F E w') rfl rfl (by first | decide | exact base_kind _ | exact baseD_kind _ | assumption); (focus (intro w; go_simp; (try w_num); first | done | rfl)); (focus (intro w; simp [go_sem, *])); walk_nrm)
  refine HGn.ld (obj_cell hG' (o:=0) rfl) (fun z=>by rw [hW] at z; cases z) rfl rfl (by first | decide | exact base_kind _ | exact baseD_kind _ | assumption) (fun w₁ hc₁=>⟨by go_simp,fun e he=>by (have he':=he; simp [go_sem,hc₁] at he'; exact he')⟩) ?_
  walk_nrm
  iterate 2 (apply Idl.value (idl_hg Try.prog j F E w') rfl rfl (by first | decide | exact base_kind _ | exact baseD_kind _ | assumption); (focus (intro w; go_simp; (try w_num); first | done | rfl)); (focus (intro w; simp [go_sem, *])); walk_nrm)
  refine Idl.step (idl_hg Try.prog j F E w') _ _ _ rfl (fun _=>(stepG_defer rfl rfl (by exact Go.ConcR.Gen.baseD_kind _) rfl)) ?_
  walk_nrm
  refine Idl.re (idl_hg Try.prog j F E w') (Idl.q (idl_hg Try.prog j F E w') (Idl.rg (idl_hg Try.prog j F E w') [0,1] rfl ?_))
  apply Idl.value (idl_hg Try.prog j F E w') rfl rfl (by first | decide | exact base_kind _ | exact baseD_kind _ | assumption)
  focus (intro w; go_simp; (try w_num); first | done | rfl)
  focus (intro w; simp [go_sem, *])
  walk_nrm
  refine Idl.step (idl_hg Try.prog j F E w') _ _ _ rfl (fun _=>(stepG_defer_clo rfl rfl (by exact Go.ConcR.Gen.baseD_kind _) rfl rfl)) ?_
  walk_nrm
  refine Idl.re (idl_hg Try.prog j F E w') (Idl.q (idl_hg Try.prog j F E w') (Idl.rg (idl_hg Try.prog j F E w') [0,1] rfl ?_))
  apply Idl.value (idl_hg Try.prog j F E w') rfl rfl (by first | decide | exact base_kind _ | exact baseD_kind _ | assumption)
  focus (intro w; go_simp; (try w_num); first | done | rfl)
  focus (intro w; simp [go_sem, *])
  walk_nrm
  refine Idl.value (v:=.bool false) (idl_hg Try.prog j F E w') rfl rfl (by exact Go.ConcR.Gen.baseD_kind _) (fun w=>by kernel_rfl) (fun w=>by kernel_rfl) ?_
  walk_nrm
  refine hbody _ ⟨?_⟩
  intro j hr ct cs en fr s p q ty E w F home hG hW hbox hWb hrun hne h0 hwg hnext
  change HGn Try.prog j F E w 120 _
  refine Idl.re (idl_hg Try.prog j F E w) (Idl.cf (idl_hg Try.prog j F E w) rfl (Idl.sk (idl_hg Try.prog j F E w) (Idl.en (idl_hg Try.prog j F E w) ?_)))
  refine Idl.unwindClo (fn:=Try.f118) (vs:=#[.pointer (some ⟨box,0,none⟩)]) (idl_hg Try.prog j F E w) (by simp) rfl Try.func118 (by kernel_rfl) (by rfl) (by simp) ?_
  exact live1_ret hG hW hbox hWb hrun hne h0 hwg hnext
end
section
variable {σ Λ:Type}
theorem bornV_nil {D:Prot σ Λ} {t n:Nat} {start:σ→σ × Option Λ→Prop} (hst:∀ s,start s (s,none)):BornV D t n start .nilFunc:=by
  intro h rb home th F E w s T hga hM hI hback
  refine HG.withB fun hB hS hC=>HG.withH fun hWH hWS=>?_
  have hWn:E.W w.heap.size=false:=by
    cases e:E.W w.heap.size with
    | false=>rfl
    | true=>have:=hWH _ e; rw [hB _ (Nat.le_refl _)] at this; cases this
  refine live_nil hga T.gW T.role hWn (fun gst LR=>?_)
  rw [← T.box] at LR
  obtain ⟨k7,t7,g7,m7⟩:=birth_box T hga hM hB hS hWH rfl rfl rfl rfl
  refine HG.hide (H':=upd E.H w.heap.size (some 0)) (S':=fun a=>if a=⟨w.heap.size,0,none⟩ then some (.pointer (some ⟨th.gb,0,none⟩)) else E.St th.j a) (fun b m e=>?_) (fun b m e=>?_) (fun a v e=>?_) (fun a v e=>?_) ?_
  · rw [upd_ne _ _ (fun z=>by rw [z,hB _ (Nat.le_refl _)] at e; cases e)]; exact e
  · by_cases hbb:b=w.heap.size
    · subst hbb
      exact .inr ⟨hWn,.inl ⟨_,_,_,alloc_new⟩⟩
    · rw [upd_ne _ _ hbb] at e; exact .inl e
  · have hl:=hS th.j a (by rw [e]; simp)
    exact (if_neg (fun z=>by rw [z] at hl; exact absurd hl (Nat.lt_irrefl _))).trans e
  · by_cases ha:a=⟨w.heap.size,0,none⟩
    · subst ha
      have e':some (Value.pointer (some ⟨th.gb,0,none⟩))=some v:=(if_pos rfl).symm.trans e
      obtain rfl:=Option.some.inj e'
      exact .inr ⟨obj_cell alloc_new rfl,hWn,0,upd_same ..,Nat.le_refl _⟩
    · exact .inl ((if_neg ha).symm.trans e)
  · have B:=hback _ _ k7 t7 s none (hst s)
    refine HG.open fun E1 w1 hA ⟨gs,T',q,C,_⟩=>?_
    have hWH7:∀ b,E1.W b=true→E1.H b=some 1:=C.fit.sub
    have t1:=t7.kept (Kept.of_at hA) t7.gct
    have g1:=GA.at g7 t7.gW hA
    have kE:Kept th.j (some th.gb) _ _ E1 w1:=Kept.of_at hA
    refine LR.ret g1 t1.gW (C.keep th.j _ _ t1.stB) t1.bW t1.run t1.hj t1.j0 t1.wg (fun E2 w2 kk g₂ hA2 hcs hh=>?_)
    have hWH0:∀ b,(E.W b=true)→(upd E.H w.heap.size (some 0)) b=some 1:=fun b hb=>by
      have hne:b≠w.heap.size:=fun e=>by rw [e,hWn] at hb; cases hb
      rw [upd_ne _ _ hne]; exact hWH b hb
    exact B E2 w2 kk g₂ (kE.trans (Kept.of_at hA2)) (Prot.at (Prot.at m7 hWH0 hA) hWH7 hA2) ⟨false,(0,0,0),GA.at g1 t1.gW hA2⟩ hcs hh
end
end Go.Proofs.Ytimlbbleblijnaa.Co

namespace Go.Proofs.Ytimlbbleblijnaa.Co
open Go Go.Conc Go.RowKit
noncomputable def mdB:Code:=Try.f39.body.getD .skip
noncomputable def mS0:Code:=match mdB with | .seq x _=>x | _=>.skip
noncomputable def mS1:Code:=match mdB with | .seq _ (.seq x _)=>x | _=>.skip
noncomputable def mS2:Code:=match mdB with | .seq _ (.seq _ (.seq x _))=>x | _=>.skip
noncomputable def mS3:Code:=match mdB with | .seq _ (.seq _ (.seq _ x))=>x | _=>.skip
theorem mdB_parts:mdB=.seq mS0 (.seq mS1 (.seq mS2 mS3)):=by kernel_rfl
def bodyV (LA:Nat→Option Addr) (TB:Nat→Nat) (tbx bbx i:Nat):Value:=if (LA i).isNone then .nilFunc else .func (.func 78) #[] #[.pointer (some ⟨tbx,0,none⟩),.pointer (some ⟨TB i,0,none⟩),.pointer (some ⟨bbx,0,none⟩)]
theorem bodyV_succ (LA:Nat→Option Addr) (TB:Nat→Nat) (tbx bbx i c:Nat):(List.range (i+1)).map (bodyV LA (fun j=>if j=i then c else TB j) tbx bbx)=(List.range i).map (bodyV LA TB tbx bbx) ++ [bodyV LA (fun _=>c) tbx bbx i]:=by
  rw [List.range_succ,List.map_append]
  congr 1
  · refine List.map_congr_left fun j hj=>?_
    have:=List.mem_range.1 hj
    have hne:j≠i:=by omega
    simp [bodyV,hne]
  · simp [bodyV]
abbrev bvR (LA:Nat→Option Addr) (tbx bbx:Nat) (TB:Nat→Nat):Nat→Value:=bodyV LA TB tbx bbx
structure Bx2 (B:Nat) (bv:(Nat→Nat)→Nat→Value) (TB:Nat→Nat) (v:Value) (n:Nat) (x:World):Prop where
  row:x.ownsRow B 52 1 v n ((List.range n).map (bv TB))
  box:∀ i,i < n→x.cell? ⟨TB i,0,none⟩=some (.int .i64 (i:Int))∧B≤TB i∧v.ownBlock≠some (TB i)
structure BxC (B cb:Nat) (TB:Nat→Nat) (v:Value) (n:Nat) (x:World):Prop where
  cur:x.heap[cb]?=some (.cells #[.int .i64 (n:Int)] 3)
  le:B≤cb
  ne:v.ownBlock≠some cb
  old:∀ i,i < n→TB i≠cb
theorem bx_next {B i cb gg cp S:Nat} {bv:(Nat→Nat)→Nat→Value} {TB:Nat→Nat} {v:Value} {wr w3 w4 w6:World} {cv:Value} (hbv:(List.range (i+1)).map (bv fun j=>if j=i then cb else TB j)=(List.range i).map (bv TB) ++ [bv (fun _=>cb) i]) (row:wr.ownsRow B 52 1 v i ((List.range i).map (bv TB))) (box:∀ j,j < i→wr.cell? ⟨TB j,0,none⟩=some (.int .i64 (j:Int))∧B≤TB j∧v.ownBlock≠some (TB j)) (C:BxC B cb TB v i wr)
    (hw3:w3=wr.alloc (.cells #[cv] 52)) (hcv:cv=bv (fun _=>cb) i) (ho4:w4.ownsRow B 52 1 (.slice (some ⟨gg,0,none⟩) (i+1) cp) (i+1) ((List.range i).map (bv TB) ++ [cv])) (hgrow:w3.grownBy w4 v.ownBlock) (hat:v.ownBlock=some gg∨gg=w3.heap.size) (hS:S=w4.heap.size)
    (h6:∀ b,b < w4.heap.size→w6.heap[b]?=w4.heap[b]?) (h6n:w6.heap[S]?=some (.cells #[.int .i64 ((i+1:Nat):Int)] 3)) (hBs:B≤wr.heap.size) :
    Bx2 B bv (fun j=>if j=i then cb else TB j) (.slice (some ⟨gg,0,none⟩) (i+1) cp) (i+1) w6∧BxC B S (fun j=>if j=i then cb else TB j) (.slice (some ⟨gg,0,none⟩) (i+1) cp) (i+1) w6:=by
  have s3:w3.heap.size=wr.heap.size+1:=by rw [hw3,alloc_size]
  have hgs:=hgrow.size
  have hrl:∀ c,v.ownBlock=some c→c < wr.heap.size:=fun c hc=>(row.lt c hc).2
  have hgl:gg < w4.heap.size:=(ho4.lt gg rfl).2
  have kc:∀ (a:Addr) u,wr.cell? a=some u→v.ownBlock≠some a.block→w6.cell? a=some u:=fun a u h1 h2=>by
    have hl:=World.block_lt_of_cell? wr _ h1
    have e1:w3.heap[a.block]?=wr.heap[a.block]?:=by rw [hw3]; exact alloc_old hl
    rw [← h1]
    exact World.cell?_of_block (by rw [h6 _ (by omega),hgrow.block a.block (by omega) (fun e=>h2 e.symm),e1])
  have hg:∀ c,v.ownBlock≠some c→c < wr.heap.size→gg≠c:=fun c h1 h2 e=>by
    subst e
    rcases hat with z | z
    · exact h1 z
    · omega
  have hcl:=(Array.getElem?_eq_some_iff.1 C.cur).1
  refine ⟨⟨?_,fun j hj=>?_⟩,⟨h6n,by omega,fun e=>?_,fun j hj e=>?_⟩⟩
  · rw [hbv,← hcv]
    exact ownsRow_same ho4 (fun g hg=>h6 g (ho4.lt g hg).2)
  · by_cases hji:j=i
    · subst hji
      simp only [if_true]
      exact ⟨kc _ _ (obj_cell C.cur (o:=0) rfl) C.ne,C.le,fun e=>hg cb C.ne hcl (by simpa [Value.ownBlock] using e)⟩
    · simp only [if_neg hji]
      obtain ⟨q1,q2,q3⟩:=box j (by omega)
      have l1:=World.block_lt_of_cell? wr _ q1
      exact ⟨kc _ _ q1 q3,q2,fun e=>hg _ q3 l1 (by simpa [Value.ownBlock] using e)⟩
  · have:gg=S:=by simpa [Value.ownBlock] using e
    omega
  · by_cases hji:j=i
    · subst hji
      simp only [if_true] at e
      omega
    · simp only [if_neg hji] at e
      have l1:=World.block_lt_of_cell? wr _ (box j (by omega)).1
      dsimp only at l1
      omega
theorem mS0_wp {x:World} {tv bp:Value} {A:Option Addr} {n cap bb:Nat} {Q:Exit→Act→World→Prop} (htv:tv=.slice A n cap) (hbp:bp=.pointer (some ⟨bb,0,none⟩))
    (hQ:∀ T' x',T'.size=28→T'[2]?=some (.pointer (some ⟨x.heap.size,0,none⟩))→T'[3]?=some (.pointer (some ⟨x.heap.size+1,0,none⟩))→(∀ b,b < x.heap.size→x'.heap[b]?=x.heap[b]?)→x'.heap[x.heap.size]?=some (.cells #[tv] 57)→x'.heap[x.heap.size+1]?=some (.cells #[bp] 61)→Q .normal ⟨T',[]⟩ x'):mS0.wp Try.prog Q ⟨#[tv,bp] ++ Array.replicate 26 undef,[]⟩ x:=by
  subst htv hbp
  replace hQ:=Lib.hid hQ
  simp only [mS0,mdB,Try.f39,Option.getD_some]
  walk_nrm
  go_wp2_with fail
  refine hQ.out _ _ (by simp) (by simp) (by simp) (fun b hb=>?_) ?_ ?_
  · exact (alloc_old (by rw [alloc_size]; omega)).trans (alloc_old hb)
  · exact (alloc_old (by rw [alloc_size]; omega)).trans alloc_new
  · have h:=alloc_new (w:=x.alloc (.cells #[.slice A n cap] 57)) (o:=.cells #[.pointer (some ⟨bb,0,none⟩)] 61)
    rw [alloc_size] at h
    exact h
theorem mS1_wp {T:Array Value} {x:World} {Q:Exit→Act→World→Prop} (hs:T.size=28)
    (hQ:∀ T' x',T'.size=28→(∀ j,j < 5→T'[j]?=T[j]?)→T'[5]?=some (.slice (some ⟨x.heap.size,0,none⟩) 0 0)→x'.heap=x.heap.push (.cells #[] 52)→Q .normal ⟨T',[]⟩ x'):mS1.wp Try.prog Q ⟨T,[]⟩ x:=by
  obtain ⟨f,rfl,_⟩:=arrfv T hs
  have hj:∀ j,j < 5→(List.map f (List.range 28)).toArray[j]?=some (f j):=fun j hj=>arrf_get f (by omega)
  replace hj:=Lib.hid hj
  replace hQ:=Lib.hid hQ
  simp only [List.range,List.range.loop,List.map_cons,List.map_nil]
  simp only [mS1,mdB,Try.f39,Option.getD_some]
  go_wp2_with fail
  refine hQ.out _ _ (by simp) (fun j hj'=>?_) (by simp) rfl
  rw [hj.out j hj']
  match j,hj' with
  | 0,_ | 1,_ | 2,_ | 3,_ | 4,_=>simp
  | j+5,h=>exact absurd h (by omega)
theorem mS2_wp {T:Array Value} {x:World} {ba bo n cap tbx bbx B bb:Nat} {ta:Option Addr} {LA:Nat→Option Addr} {LN LC:Nat→Nat} {v0:Value} {Q:Exit→Act→World→Prop} (hs:T.size=28) (t2:T[2]?=some (.pointer (some ⟨tbx,0,none⟩))) (t3:T[3]?=some (.pointer (some ⟨bbx,0,none⟩))) (t5:T[5]?=some v0)
    (hv0:x.ownsRow B 52 1 v0 0 []) (hta:0 < n→ta=some ⟨ba,bo,none⟩) (hx:x.cell? ⟨tbx,0,none⟩=some (.slice ta n cap)) (hbb:x.cell? ⟨bbx,0,none⟩=some (.pointer (some ⟨bb,0,none⟩))) (hc:∀ i,i < n→x.cell? ⟨ba,bo+i,none⟩=some (.slice (LA i) (LN i) (LC i))) (hn:n≤1000000000000)
    (hB:B≤x.heap.size) (hold:tbx < B∧bbx < B∧(0 < n→ba < B))
    (hQ:∀ T' x' v TB,T'.size=28→T'[5]?=some v→Bx2 B (bvR LA tbx bbx) TB v n x'→Below B x x'→Q .normal ⟨T',[]⟩ x'):mS2.wp Try.prog Q ⟨T,[]⟩ x:=by
  obtain ⟨i0,hinf,hz0,hz1,hz2⟩:=info52
  obtain ⟨f,rfl,fz⟩:=arrfv T hs
  have e2:=fz 2 _ t2
  have e3:=fz 3 _ t3
  have e5:=fz 5 _ t5
  clear fz t2 t3 t5 hs
  obtain ⟨xs,hxs⟩:∃ xs,xs=x.heap.size:=⟨_,rfl⟩
  replace hQ:=Lib.hid hQ
  replace hc:=Lib.hid hc
  replace hta:=Lib.hid hta
  replace hv0:=Lib.hid hv0
  replace hx:=Lib.hid hx
  replace hbb:=Lib.hid hbb
  simp only [List.range,List.range.loop,List.map_cons,List.map_nil,e2,e3,e5]
  simp only [mS2,mdB,Try.f39,Option.getD_some]
  go_wp2_with fail
  go_loopw [5,6] (fun b c wr=>∃ (i cb:Nat) (TB:Nat→Nat),c=.pointer (some ⟨cb,0,none⟩)∧i≤n∧Hid (Bx2 B (bvR LA tbx bbx) TB b i wr)∧Hid (BxC B cb TB b i wr)∧Hid (Below B x wr)∧wr.cell? ⟨cb,0,none⟩=some (.int .i64 (i:Int))∧wr.frozen? ⟨cb,0,none⟩=false) (fun _ c wr=>match c with | .pointer (some a)=>n+1 - natOfV ((wr.cell? a).getD undef) | _=>0)
  case atStart =>
    refine ⟨0,x.heap.size,fun _=>0,rfl,Nat.zero_le _,Lib.hid ⟨hv0.out.alloc _,fun i hi=>absurd hi (Nat.not_lt_zero _)⟩,Lib.hid ⟨alloc_new,hB,fun e=>?_,fun i hi=>absurd hi (Nat.not_lt_zero _)⟩,Lib.hid ((Below.refl _ _).alloc hB _),obj_cell alloc_new rfl,obj_thaw alloc_new 0⟩
    have:=(hv0.out.lt _ e).2
    omega
  case round =>
    obtain ⟨i,cb,TB,rfl,hi,hb2,hC,hbel,hcur,hfz⟩:=hrel
    have hbs:=hbel.out.size
    have hbs2:B≤wr.heap.size:=by omega
    have k1:wr.cell? ⟨tbx,0,none⟩=some (.slice ta n cap):=(hbel.out.cell (p:=⟨tbx,0,none⟩) hold.1).trans hx.out
    by_cases hlt:i < n
    · have hta':=hta.out (by omega)
      subst hta'
      have g1:(i:Int) < (n:Int):=by omega
      have g0:(0:Int)≤(i:Int):=by omega
      have hiw:IntKind.i64.wrap ((i:Int)+1)=((i+1:Nat):Int):=by rw [IntKind.wrap_i64]; omega
      have hcell:wr.cell? ⟨ba,bo+i,none⟩=some (.slice (LA i) (LN i) (LC i)):=(hbel.out.cell (p:=⟨ba,bo+i,none⟩) (hold.2.2 (by omega))).trans (hc.out i hlt)
      cases hA:LA i with
      | none =>
        rw [hA] at hcell
        have heq:=fun W=>Lib.run_eql_slice_nil (P:=Try.prog) W 23 3 none (LN i) (LC i) 0 0 Try.underlying23
        have hcv:(.nilFunc:Value)=bodyV LA (fun _=>cb) tbx bbx i:=by unfold bodyV; rw [hA]; rfl
        obtain ⟨w3,hw3⟩:∃ w3,w3=wr.alloc (.cells #[(.nilFunc:Value)] 52):=⟨_,rfl⟩
        have s3:w3.heap.size=wr.heap.size+1:=by rw [hw3,alloc_size]
        have row3:w3.ownsRow B 52 1 u5 i ((List.range i).map (bodyV LA TB tbx bbx)):=by rw [hw3]; exact hb2.out.row.alloc _
        have hnews:∀ j u,[(.nilFunc:Value)][j]?=some u→w3.cell? ((⟨wr.heap.size,0,none⟩:Addr).add j)=some u:=by
          rw [hw3]
          exact World.news_of_block (cs:=#[(.nilFunc:Value)]) (heap_alloc_new _ _)
        have c3:w3.heap[cb]?=some (.cells #[.int .i64 (i:Int)] 3):=by rw [hw3]; exact (alloc_old (Array.getElem?_eq_some_iff.1 hC.out.cur).1).trans hC.out.cur
        have hone:∀ u ∈ [(.nilFunc:Value)],u.oneCell'=true:=by intro u hu; simp at hu; subst hu; rfl
        have hnb:=hC.out.ne
        have hcl:=(Array.getElem?_eq_some_iff.1 c3).1
        replace hw3:=Lib.hid hw3
        replace hcv:=Lib.hid hcv
        replace c3:=Lib.hid c3
        go_wp2_with (at_builtin; rw [← hw3.out]; refine wpList_append_lies _ rfl _ _ _ rfl B 52 i0 _ 1 8 Try.underlying53 hinf hz0 hz1 hz2 rfl (by decide) u5 i _ (by rfl) row3 ⟨wr.heap.size,0,none⟩ 1 1 [(.nilFunc:Value)] (by rfl) (by rfl) hnews hone (by omega) (by unfold maxLen; omega) (by omega) (by omega) _ rfl ?_; intro gg cp w4 ho4 hgrow hat hlt4; have hb4:=(hgrow.block cb hcl (fun e=>hnb e.symm)).trans c3.out; have hc4:w4.cell? ⟨cb,0,none⟩=some (.int .i64 (i:Int)):=obj_cell hb4 (o:=0) rfl; have hf4:=obj_thaw hb4 0; replace hb4:=Lib.hid hb4)
        have h6:∀ b,b < w4.heap.size→(w4.alloc (.cells #[.int .i64 ((i:Int)+1)] 3)).heap[b]?=w4.heap[b]?:=fun b hb=>alloc_old hb
        have h6n:(w4.alloc (.cells #[.int .i64 ((i:Int)+1)] 3)).heap[w4.heap.size]?=some (.cells #[.int .i64 ((i+1:Nat):Int)] 3):=alloc_new
        obtain ⟨nb2,nC⟩:=bx_next (bodyV_succ LA TB tbx bbx i cb) hb2.out.row hb2.out.box hC.out hw3.out hcv.out ho4 hgrow hat rfl h6 h6n hbs2
        have hbel4:Below B x (w4.alloc (.cells #[.int .i64 ((i:Int)+1)] 3)):=by
          have b3:Below B x w3:=by rw [hw3.out]; exact hbel.out.alloc (by omega) _
          have b4:Below B x w4:=b3.grown hgrow (by omega) (fun k hk=>(row3.lt k hk).1)
          have s4:=hgrow.size
          exact b4.alloc (by omega) _
        have hcn:(w4.alloc (.cells #[.int .i64 ((i:Int)+1)] 3)).cell? ⟨w4.heap.size,0,none⟩=some (.int .i64 ((i+1:Nat):Int)):=obj_cell h6n (o:=0) rfl
        have hfn:=obj_thaw h6n 0
        have e1:((w4.alloc (.cells #[.int .i64 ((i:Int)+1)] 3)).cell? ⟨w4.heap.size,0,none⟩).getD undef=.int .i64 ((i+1:Nat):Int):=by rw [hcn]; rfl
        have hmeas:n+1 - natOfV (((w4.alloc (.cells #[.int .i64 ((i:Int)+1)] 3)).cell? ⟨w4.heap.size,0,none⟩).getD undef) < n+1 - natOfV ((wr.cell? ⟨cb,0,none⟩).getD undef):=by
          rw [e1,hcur]
          simp [natOfV]
          omega
        replace nb2:=Lib.hid nb2
        replace nC:=Lib.hid nC
        replace hbel4:=Lib.hid hbel4
        replace hmeas:=Lib.hid hmeas
        clear ho4 hgrow hnews row3 h6 h6n e1
        try go_wp2_with fail
        try simp only [hiw]
        exact ⟨⟨i+1,_,_,rfl,by omega,nb2,nC,hbel4,hcn,hfn⟩,hmeas.out⟩
      | some aa =>
        rw [hA] at hcell
        have heq:=fun W=>Lib.run_eql_slice_nil (P:=Try.prog) W 23 3 (some aa) (LN i) (LC i) 0 0 Try.underlying23
        have hcv:(Value.func (.func 78) #[] #[.pointer (some ⟨tbx,0,none⟩),.pointer (some ⟨cb,0,none⟩),.pointer (some ⟨bbx,0,none⟩)])=bodyV LA (fun _=>cb) tbx bbx i:=by unfold bodyV; rw [hA]; rfl
        obtain ⟨w3,hw3⟩:∃ w3,w3=wr.alloc (.cells #[(Value.func (.func 78) #[] #[.pointer (some ⟨tbx,0,none⟩),.pointer (some ⟨cb,0,none⟩),.pointer (some ⟨bbx,0,none⟩)])] 52):=⟨_,rfl⟩
        have s3:w3.heap.size=wr.heap.size+1:=by rw [hw3,alloc_size]
        have row3:w3.ownsRow B 52 1 u5 i ((List.range i).map (bodyV LA TB tbx bbx)):=by rw [hw3]; exact hb2.out.row.alloc _
        have hnews:∀ j u,[(Value.func (.func 78) #[] #[.pointer (some ⟨tbx,0,none⟩),.pointer (some ⟨cb,0,none⟩),.pointer (some ⟨bbx,0,none⟩)])][j]?=some u→w3.cell? ((⟨wr.heap.size,0,none⟩:Addr).add j)=some u:=by
          rw [hw3]
          exact World.news_of_block (cs:=#[(Value.func (.func 78) #[] #[.pointer (some ⟨tbx,0,none⟩),.pointer (some ⟨cb,0,none⟩),.pointer (some ⟨bbx,0,none⟩)])]) (heap_alloc_new _ _)
        have c3:w3.heap[cb]?=some (.cells #[.int .i64 (i:Int)] 3):=by rw [hw3]; exact (alloc_old (Array.getElem?_eq_some_iff.1 hC.out.cur).1).trans hC.out.cur
        have hone:∀ u ∈ [(Value.func (.func 78) #[] #[.pointer (some ⟨tbx,0,none⟩),.pointer (some ⟨cb,0,none⟩),.pointer (some ⟨bbx,0,none⟩)])],u.oneCell'=true:=by intro u hu; simp at hu; subst hu; rfl
        have hnb:=hC.out.ne
        have hcl:=(Array.getElem?_eq_some_iff.1 c3).1
        replace hw3:=Lib.hid hw3
        replace hcv:=Lib.hid hcv
        replace c3:=Lib.hid c3
        go_wp2_with (at_builtin; rw [← hw3.out]; refine wpList_append_lies _ rfl _ _ _ rfl B 52 i0 _ 1 8 Try.underlying53 hinf hz0 hz1 hz2 rfl (by decide) u5 i _ (by rfl) row3 ⟨wr.heap.size,0,none⟩ 1 1 [(Value.func (.func 78) #[] #[.pointer (some ⟨tbx,0,none⟩),.pointer (some ⟨cb,0,none⟩),.pointer (some ⟨bbx,0,none⟩)])] (by rfl) (by rfl) hnews hone (by omega) (by unfold maxLen; omega) (by omega) (by omega) _ rfl ?_; intro gg cp w4 ho4 hgrow hat hlt4; have hb4:=(hgrow.block cb hcl (fun e=>hnb e.symm)).trans c3.out; have hc4:w4.cell? ⟨cb,0,none⟩=some (.int .i64 (i:Int)):=obj_cell hb4 (o:=0) rfl; have hf4:=obj_thaw hb4 0; replace hb4:=Lib.hid hb4)
        have h6:∀ b,b < w4.heap.size→(w4.alloc (.cells #[.int .i64 ((i:Int)+1)] 3)).heap[b]?=w4.heap[b]?:=fun b hb=>alloc_old hb
        have h6n:(w4.alloc (.cells #[.int .i64 ((i:Int)+1)] 3)).heap[w4.heap.size]?=some (.cells #[.int .i64 ((i+1:Nat):Int)] 3):=alloc_new
        obtain ⟨nb2,nC⟩:=bx_next (bodyV_succ LA TB tbx bbx i cb) hb2.out.row hb2.out.box hC.out hw3.out hcv.out ho4 hgrow hat rfl h6 h6n hbs2
        have hbel4:Below B x (w4.alloc (.cells #[.int .i64 ((i:Int)+1)] 3)):=by
          have b3:Below B x w3:=by rw [hw3.out]; exact hbel.out.alloc (by omega) _
          have b4:Below B x w4:=b3.grown hgrow (by omega) (fun k hk=>(row3.lt k hk).1)
          have s4:=hgrow.size
          exact b4.alloc (by omega) _
        have hcn:(w4.alloc (.cells #[.int .i64 ((i:Int)+1)] 3)).cell? ⟨w4.heap.size,0,none⟩=some (.int .i64 ((i+1:Nat):Int)):=obj_cell h6n (o:=0) rfl
        have hfn:=obj_thaw h6n 0
        have e1:((w4.alloc (.cells #[.int .i64 ((i:Int)+1)] 3)).cell? ⟨w4.heap.size,0,none⟩).getD undef=.int .i64 ((i+1:Nat):Int):=by rw [hcn]; rfl
        have hmeas:n+1 - natOfV (((w4.alloc (.cells #[.int .i64 ((i:Int)+1)] 3)).cell? ⟨w4.heap.size,0,none⟩).getD undef) < n+1 - natOfV ((wr.cell? ⟨cb,0,none⟩).getD undef):=by
          rw [e1,hcur]
          simp [natOfV]
          omega
        replace nb2:=Lib.hid nb2
        replace nC:=Lib.hid nC
        replace hbel4:=Lib.hid hbel4
        replace hmeas:=Lib.hid hmeas
        clear ho4 hgrow hnews row3 h6 h6n e1
        try go_wp2_with fail
        try simp only [hiw]
        exact ⟨⟨i+1,_,_,rfl,by omega,nb2,nC,hbel4,hcn,hfn⟩,hmeas.out⟩
    · obtain rfl:i=n:=by omega
      have g1:¬ (i:Int) < (i:Int):=by omega
      go_wp2_with fail
      exact hQ.out _ _ _ TB (by simp) (by simp) hb2.out hbel.out
structure RegC (T:Array Value) (wp gp:Value) (la lo n cap i:Nat) (v:Int):Prop where
  sz:T.size=77
  t0:T[0]?=some wp
  t1:∃ A,T[1]?=some (.slice A n cap)∧(0 < n→A=some ⟨la,lo,none⟩)
  t2:T[2]?=some gp
  t7:T[7]?=some (.int .i64 v)
  t8:T[8]?=some (.int .i64 (i:Int))
theorem RegC.up {T T':Array Value} {wp gp:Value} {la lo n cap i:Nat} {v:Int} (R:RegC T wp gp la lo n cap i v) (hs:T'.size=77) (h:∀ j,j < 9→T'[j]?=T[j]?):RegC T' wp gp la lo n cap i v:=by
  obtain ⟨sz,t0,⟨A,t1,tA⟩,t2,t7,t8⟩:=R
  exact ⟨hs,(h 0 (by decide)).trans t0,⟨A,(h 1 (by decide)).trans t1,tA⟩,(h 2 (by decide)).trans t2,(h 7 (by decide)).trans t7,(h 8 (by decide)).trans t8⟩
section
variable {j:Nat} {F:Machine→Trace→Prop} {E:Env} {w:World} {T:Array Value} {wp gp:Value} {la lo n cap i:Nat} {v:Int} {cs:List Frame}
end
structure AS where
  held:Int
  ok:Bool
  st:Int
structure AL where
  i:Nat
  c:Nat
  v:Int
inductive AdvA (ops:List Op3) (c:Nat):Nat→AS→AS × Option AL→Prop
  | stop {i s} (h:ops.length≤i):AdvA ops c i s ({ s with ok:=true,st:=(c:Int) },none)
  | call {i s} {op:Op3} (h:ops[i]?=some op) (hc:isC op.1=true):AdvA ops c i s (s,some ⟨i,c,s.held⟩)
  | skip {i s z} {op:Op3} (h:ops[i]?=some op) (hc:isC op.1=false) (t:AdvA ops c (i+1) s z):AdvA ops c i s z
theorem AdvA.held {ops:List Op3} {c i:Nat} {s:AS} {z:AS × Option AL} (h:AdvA ops c i s z) {s':AS} {l':AL}:z=(s',some l')→s'.held=l'.v:=by
  induction h with
  | stop=>intro e; cases e
  | call=>intro e; cases e; rfl
  | skip _ _ _ ih=>exact ih
structure AM (xb okb stb:Nat) (K:Nat→Obj→Prop) (s:AS) (E:Env) (w:World):Prop where
  word:WordAt w ⟨xb,0,none⟩ s.held
  wordH:E.H xb=none
  okc:w.heap[okb]?=some (.cells #[.bool s.ok] 4)
  okH:E.H okb=none
  stc:w.heap[stb]?=some (.cells #[.int .i64 s.st] 3)
  stH:E.H stb=none
  kobj:∀ b o,K b o→w.heap[b]?=some o∧E.H b=none∧b≠xb∧b≠okb∧b≠stb
  d1:xb≠okb
  d2:xb≠stb
  d3:okb≠stb
  rng:-9223372036854775808≤s.held∧s.held≤9223372036854775807
theorem AM.konst {xb okb stb:Nat} {K:Nat→Obj→Prop} {s:AS} {E:Env} {w:World} (m:AM xb okb stb K s E w) (a:Addr) (v:Value) (h:KC K a v):w.cell? a=some v∧E.H a.block=none:=by
  obtain ⟨o,h1,h2⟩:=h
  obtain ⟨k1,k2,_⟩:=m.kobj _ _ h1
  exact ⟨h2 w k1,k2⟩
theorem AM.move {xb okb stb:Nat} {K:Nat→Obj→Prop} {s:AS} {E E':Env} {w w':World} (m:AM xb okb stb K s E w) (hb:∀ b,b < w.heap.size→E.H b=none→E'.H b=none∧w'.heap[b]?=w.heap[b]?):AM xb okb stb K s E' w':=by
  obtain ⟨h0,c,t,h1,h2⟩:=m.word
  have l1:=(Array.getElem?_eq_some_iff.1 h1).1
  have l2:=(Array.getElem?_eq_some_iff.1 m.okc).1
  have l3:=(Array.getElem?_eq_some_iff.1 m.stc).1
  refine ⟨m.word.same (hb xb l1 m.wordH).2,(hb xb l1 m.wordH).1,(hb okb l2 m.okH).2.trans m.okc,(hb okb l2 m.okH).1,(hb stb l3 m.stH).2.trans m.stc,(hb stb l3 m.stH).1,fun b o hk=>?_,m.d1,m.d2,m.d3,m.rng⟩
  obtain ⟨k1,k2,k3⟩:=m.kobj b o hk
  have l4:=(Array.getElem?_eq_some_iff.1 k1).1
  exact ⟨(hb b l4 k2).2.trans k1,(hb b l4 k2).1,k3⟩
theorem AM.still {xb okb stb j:Nat} {K:Nat→Obj→Prop} {s:AS} {E E':Env} {w w':World} (m:AM xb okb stb K s E w) (S:Still j E w E' w'):AM xb okb stb K s E' w' :=
  m.move fun b hb hn=>by
    obtain ⟨s1,s2⟩:=S.st b _ hn (Array.getElem?_eq_getElem hb)
    exact ⟨s1,by rw [s2,Array.getElem?_eq_getElem hb]⟩
noncomputable def aB:Code:=Try.f30.body.getD .skip
noncomputable def a0:Code:=match aB with | .seq x _=>x | _=>.skip
noncomputable def a1:Code:=match aB with | .seq _ x=>x | _=>.skip
section
variable {h rb xb okb stb:Nat} {home:Goroutine→Prop} {k:Int} {th:Th} {F:Machine→Trace→Prop} {E:Env} {w:World} {s:AS} {K:Nat→Obj→Prop} {ops:List Op3} {b₀:Frame} {a₀:Act} {ops₀:Array Oper} {i₀:Nat} {rest₀:List Nat} {k₀:List Item} {cl:List Frame}
end
section
variable {σ Λ:Type}
end
section
variable {P:Program} {h:Nat} {F:Machine→Trace→Prop} {E:Env} {w:World} {Fs:FuncId→Bool}
theorem HG.quietM (os:List Obj) (hC:Closed P Fs) {fr:Frame} {T:Array Value} {k:List Item} {cs:List Frame} {c:Code} (R:Array Value→Nat→Prop) (hq:quietCode P Fs c=true) (hk:fr.kind=.normal)
    (hwp:∀ x:World,x.heap.size=w.heap.size→(∀ b,E.H b=none→x.heap[b]?=w.heap[b]?)→c.wp P (fun e a' x'=>e=.normal∧a'.defers=[]∧(∀ b,b < x.heap.size→x'.heap[b]?=x.heap[b]?)∧(∀ (i:Nat) o,os[i]?=some o→x'.heap[x.heap.size+i]?=some o)∧R a'.tmps x.heap.size) ⟨T,[]⟩ x)
    (hg:∀ (E1:Env) (w1:World) (T':Array Value),Still h E w E1 w1→(∀ (i:Nat) o,os[i]?=some o→w1.heap[w.heap.size+i]?=some o∧E1.H (w.heap.size+i)=none)→R T' w.heap.size→HG P h F E1 (G (fr.at ⟨T',[]⟩ k) cs) w1):HG P h F E (G (fr.at ⟨T,[]⟩ (.code c :: k)) cs) w:=by
  refine HG.quietS (fun _=>False) (fun _ z=>z.elim) hC (Q:=fun a' x x'=>(∀ (i:Nat) o,os[i]?=some o→x'.heap[x.heap.size+i]?=some o)∧R a'.tmps x.heap.size) hq hk rfl (fun x hxs hx=>?_) (fun E1 w' a' x x' hE hd hxs hx hxs' hx' hK hB hSt hq=>?_)
  · exact Code.wp_mono (fun e a' x' ⟨q1,q2,q3,q4,q5⟩=>⟨q1,q2,fun b hb _=>q3 b hb,q4,q5⟩) (hwp x hxs hx)
  · obtain ⟨Ta,df⟩:=a'
    have hdf:df=[]:=hd
    subst hdf
    refine hg E1 w' Ta ⟨hK,hE.H',fun b o h1 h2=>⟨by rw [hE.H']; exact h1,?_⟩⟩ (fun i o hi=>?_) (by rw [← hxs]; exact hq.2)
    · have hl:=(Array.getElem?_eq_some_iff.1 h2).1
      rw [hx' b h1,hSt b (by omega) id,hx b h1]
      exact h2
    · have h1:=hq.1 i o hi
      rw [hxs] at h1
      have h2:=hB (w.heap.size+i) (by omega)
      exact ⟨(hx' _ h2).trans h1,by rw [hE.H']; exact h2⟩
end
structure NM (xb:Nat) (K:Nat→Obj→Prop) (v:Int) (E:Env) (w:World):Prop where
  word:WordAt w ⟨xb,0,none⟩ v
  wordH:E.H xb=none
  kobj:∀ b o,K b o→w.heap[b]?=some o∧E.H b=none∧b≠xb
  rng:-9223372036854775808≤v∧v≤9223372036854775807
theorem NM.konst {xb:Nat} {K:Nat→Obj→Prop} {v:Int} {E:Env} {w:World} (m:NM xb K v E w) (a:Addr) (u:Value) (h:KC K a u):w.cell? a=some u∧E.H a.block=none:=by
  obtain ⟨o,h1,h2⟩:=h
  obtain ⟨k1,k2,_⟩:=m.kobj _ _ h1
  exact ⟨h2 w k1,k2⟩
theorem NM.still {xb j:Nat} {K:Nat→Obj→Prop} {v:Int} {E E':Env} {w w':World} (m:NM xb K v E w) (S:Still j E w E' w'):NM xb K v E' w':=by
  obtain ⟨s1,s2⟩:=S.word m.word m.wordH
  refine ⟨s1,s2,fun b o hk=>?_,m.rng⟩
  obtain ⟨k1,k2,k3⟩:=m.kobj b o hk
  obtain ⟨z1,z2⟩:=S.st b o k2 k1
  exact ⟨z2,z1,k3⟩
section
variable {j xb la lo cap:Nat} {F:Machine→Trace→Prop} {K:Nat→Obj→Prop} {ops:List Op3} {b₀:Frame} {a₀:Act} {ops₀:Array Oper} {i₀:Nat} {rest₀:List Nat} {k₀:List Item} {cl:List Frame}
end
section
variable {P:Program} {h:Nat} {F:Machine→Trace→Prop} {E:Env} {w:World} {Fs:FuncId→Bool}
theorem HG.quietX (os:List Obj) (hC:Closed P Fs) {fr:Frame} {T:Array Value} {k:List Item} {cs:List Frame} {c:Code} (R:Array Value→Nat→Prop) (hq:quietCode P Fs c=true) (hk:fr.kind=.normal)
    (hwp:∀ x:World,x.heap.size=w.heap.size→(∀ b,E.H b=none→x.heap[b]?=w.heap[b]?)→c.wp P (fun e a' x'=>e=.normal∧a'.defers=[]∧(∀ b,b < x.heap.size→x'.heap[b]?=x.heap[b]?)∧x'.heap.size=x.heap.size+os.length∧(∀ (i:Nat) o,os[i]?=some o→x'.heap[x.heap.size+i]?=some o)∧R a'.tmps x.heap.size) ⟨T,[]⟩ x)
    (hg:∀ (E1:Env) (w1:World) (T':Array Value),Still h E w E1 w1→w1.heap.size=w.heap.size+os.length→(∀ (i:Nat) o,os[i]?=some o→w1.heap[w.heap.size+i]?=some o∧E1.H (w.heap.size+i)=none)→R T' w.heap.size→HG P h F E1 (G (fr.at ⟨T',[]⟩ k) cs) w1):HG P h F E (G (fr.at ⟨T,[]⟩ (.code c :: k)) cs) w:=by
  refine HG.quietS (fun _=>False) (fun _ z=>z.elim) hC (Q:=fun a' x x'=>x'.heap.size=x.heap.size+os.length∧(∀ (i:Nat) o,os[i]?=some o→x'.heap[x.heap.size+i]?=some o)∧R a'.tmps x.heap.size) hq hk rfl (fun x hxs hx=>?_) (fun E1 w' a' x x' hE hd hxs hx hxs' hx' hK hB hSt hq=>?_)
  · exact Code.wp_mono (fun e a' x' ⟨q1,q2,q3,q4,q5,q6⟩=>⟨q1,q2,fun b hb _=>q3 b hb,q4,q5,q6⟩) (hwp x hxs hx)
  · obtain ⟨Ta,df⟩:=a'
    have hdf:df=[]:=hd
    subst hdf
    refine hg E1 w' Ta ⟨hK,hE.H',fun b o h1 h2=>⟨by rw [hE.H']; exact h1,?_⟩⟩ (by rw [← hxs',hq.1,hxs]) (fun i o hi=>?_) (by rw [← hxs]; exact hq.2.2)
    · have hl:=(Array.getElem?_eq_some_iff.1 h2).1
      rw [hx' b h1,hSt b (by omega) id,hx b h1]
      exact h2
    · have h1:=hq.2.1 i o hi
      rw [hxs] at h1
      have h2:=hB (w.heap.size+i) (by omega)
      exact ⟨(hx' _ h2).trans h1,by rw [hE.H']; exact h2⟩
end
noncomputable def xmS3:Code:=mS3
section
variable {h:Nat} {F:Machine→Trace→Prop} {E:Env} {w:World} {b₀:Frame} {a₀:Act} {ops₀:Array Oper} {i₀:Nat} {rest₀:List Nat} {k₀:List Item} {cl:List Frame}
structure MadeR (E:Env) (w:World) (B tbx bbx bb:Nat) (tv:Value) (n:Nat) (LA:Nat→Option Addr) (TB:Nat→Nat) (v:Value):Prop where
  row:w.ownsRow B 52 1 v n ((List.range n).map (bodyV LA TB tbx bbx))
  rowH:∀ g,v.ownBlock=some g→E.H g=none
  box:∀ i,i < n→w.cell? ⟨TB i,0,none⟩=some (.int .i64 (i:Int))∧E.H (TB i)=none∧B≤TB i
  cx:w.cell? ⟨tbx,0,none⟩=some tv
  cxH:E.H tbx=none
  cb:w.cell? ⟨bbx,0,none⟩=some (.pointer (some ⟨bb,0,none⟩))
  cbH:E.H bbx=none
  le:B≤tbx∧B≤bbx
theorem bodies_in {tv:Value} {ta:Option Addr} {ba bo n cap bb:Nat} {LA:Nat→Option Addr} {LN LC:Nat→Nat} (htv:tv=.slice ta n cap) (hta:0 < n→ta=some ⟨ba,bo,none⟩) (hn:n≤1000000000000)
    (hcell:∀ i,i < n→w.cell? ⟨ba,bo+i,none⟩=some (.slice (LA i) (LN i) (LC i))∧E.H ba=none)
    (hc:∀ E' w' v TB,Still h E w E' w'→MadeR E' w' w.heap.size w.heap.size (w.heap.size+1) bb tv n LA TB v→HG Try.prog h F E' (G (b₀.at (a₀.put ((ops₀[i₀]?).bind (·.dst)) v) (.inRegion ops₀ rest₀ :: k₀)) cl) w') :
    HGn Try.prog h F E w 200 (entry 39 Try.f39 #[tv,.pointer (some ⟨bb,0,none⟩)] (b₀.at a₀ (.inRegion ops₀ (i₀ :: rest₀) :: k₀) :: cl)):=by
  unfold entry
  rw [show Try.f39.body.getD .skip=.seq mS0 (.seq mS1 (.seq mS2 mS3)) from mdB_parts,show Try.f39.ntmps=28 from rfl]
  refine Idl.step (idl_hg Try.prog h F E w) _ _ _ rfl (fun _=>stepG_seq) ?_
  refine HG.quietM [.cells #[tv] 57,.cells #[.pointer (some ⟨bb,0,none⟩)] 61] (closed_none _) (fun T s=>T.size=28∧T[2]?=some (.pointer (some ⟨s,0,none⟩))∧T[3]?=some (.pointer (some ⟨s+1,0,none⟩))) (by kernel_rfl) (by rfl) (fun x _ hx=>?_) (fun E1 w1 T1 S1 N1 hR=>?_)
  · refine mS0_wp htv rfl (fun T' x' a1 a2 a3 a4 a5 a6=>⟨rfl,rfl,a4,(fun i o hi=>?_),a1,a2,a3⟩)
    match i,hi with
    | 0,hi=>cases hi; exact a5
    | 1,hi=>cases hi; exact a6
    | i+2,hi=>simp at hi
  obtain ⟨s1,r2,r3⟩:=hR
  obtain ⟨n1,n1H⟩:=N1 0 _ rfl
  obtain ⟨n2,n2H⟩:=N1 1 _ rfl
  rw [Nat.add_zero] at n1 n1H
  have z1:=(Array.getElem?_eq_some_iff.1 n2).1
  change HGn Try.prog h F E1 w1 100 _
  refine Idl.step (idl_hg Try.prog h F E1 w1) _ _ _ rfl (fun _=>stepG_seq) ?_
  refine HG.quietX [.cells #[] 52] (closed_none _) (fun T s=>T.size=28∧(∀ j,j < 5→T[j]?=T1[j]?)∧T[5]?=some (.slice (some ⟨s,0,none⟩) 0 0)) (by kernel_rfl) (by rfl) (fun x _ hx=>?_) (fun E2 w2 T2 S2 z2' N2 hR=>?_)
  · refine mS1_wp s1 (fun T' x' a1 a2 a3 a4=>⟨rfl,rfl,fun b hb=>by rw [a4,Array.getElem?_push,if_neg (by omega)],by rw [a4,Array.size_push]; rfl,(fun i o hi=>?_),a1,a2,a3⟩)
    match i,hi with
    | 0,hi=>cases hi; rw [a4]; simp
  obtain ⟨s2,o2,r5⟩:=hR
  have z2':w2.heap.size=w1.heap.size+1:=z2'
  obtain ⟨n3,n3H⟩:=N2 0 _ rfl
  rw [Nat.add_zero] at n3 n3H
  have z2:=(Array.getElem?_eq_some_iff.1 n3).1
  obtain ⟨n12H,n12⟩:=S2.st _ _ n1H n1
  obtain ⟨n22H,n22⟩:=S2.st _ _ n2H n2
  have S12:=S1.trans S2
  have hrow0:w2.ownsRow w1.heap.size 52 1 (.slice (some ⟨w1.heap.size,0,none⟩) 0 0) 0 []:=⟨by simp,.inr ⟨w1.heap.size,0,#[],rfl,Nat.le_refl _,n3,by simp,by simp,by simp,by simp⟩⟩
  change HGn Try.prog h F E2 w2 100 _
  refine Idl.step (idl_hg Try.prog h F E2 w2) _ _ _ rfl (fun _=>stepG_seq) ?_
  refine HG.quietS (fun c=>c=w1.heap.size) (fun c e=>by rw [e]; exact n3H) (closed_none _) (Q:=fun a' x x'=>∃ v TB,a'.tmps.size=28∧a'.tmps[5]?=some v∧Bx2 w1.heap.size (bvR LA w.heap.size (w.heap.size+1)) TB v n x'∧Below w1.heap.size x x') (by kernel_rfl) (by rfl) rfl (fun x hxs hx=>?_) (fun E3 w3 a' x x' hE hd hxs hx hxs' hx' hK hB hSt hq=>?_)
  · refine mS2_wp (B:=w1.heap.size) (tbx:=w.heap.size) (bbx:=w.heap.size+1) (bb:=bb) (ta:=ta) (ba:=ba) (bo:=bo) (cap:=cap) (LN:=LN) (LC:=LC) s2 ((o2 2 (by decide)).trans r2) ((o2 3 (by decide)).trans r3) r5 (ownsRow_same hrow0 (fun g hg=>hx g ?_)) hta ?_ ?_ (fun i hi=>?_) hn (by omega) ⟨by omega,by omega,fun hp=>?_⟩ (fun T' x' v TB a1 a2 a3 a4=>⟨rfl,rfl,fun b hb hne=>a4.block b (by omega),v,TB,a1,a2,a3,a4⟩)
    · have:w1.heap.size=g:=by simpa [Value.ownBlock] using hg
      rw [← this]; exact n3H
    · exact (World.cell?_of_block (a:=⟨w.heap.size,0,none⟩) (hx _ n12H)).trans ((obj_cell n12 (o:=0) rfl).trans (by rw [htv]; rfl))
    · exact (World.cell?_of_block (a:=⟨w.heap.size+1,0,none⟩) (hx _ n22H)).trans (obj_cell n22 (o:=0) rfl)
    · obtain ⟨k1,k2⟩:=hcell i hi
      obtain ⟨d1,d2⟩:=S12.st.cell k1 k2
      exact (World.cell?_of_block (a:=⟨ba,bo+i,none⟩) (hx _ d2)).trans d1
    · have:=World.block_lt_of_cell? w _ (hcell 0 hp).1
      have:=S1.kept.size
      dsimp only at *
      omega
  obtain ⟨Ta,df⟩:=a'
  have hdf:df=[]:=hd
  subst hdf
  obtain ⟨v,TB,q1,q2,q3,q4⟩:=hq
  dsimp only at q1 q2
  have hvis:∀ b,w1.heap.size≤b→E2.H b=none:=fun b hb=>by
    by_cases e:b=w1.heap.size
    · rw [e]; exact n3H
    · exact hB b (by omega)
  have hkeep:∀ b,b < w1.heap.size→E2.H b=none→w3.heap[b]?=w2.heap[b]?:=fun b hb hH=>by rw [hx' b hH,hSt b (by omega) (by omega),hx b hH]
  have S13:Still h E w E3 w3:=by
    refine ⟨S12.kept.trans hK,hE.H'.trans S12.H,fun b o h1 h2=>?_⟩
    obtain ⟨y1,y2⟩:=S12.st b o h1 h2
    have hl:=(Array.getElem?_eq_some_iff.1 h2).1
    have:=S1.kept.size
    exact ⟨by rw [hE.H']; exact y1,by rw [hkeep b (by omega) y1]; exact y2⟩
  have hM:MadeR E3 w3 w.heap.size w.heap.size (w.heap.size+1) bb tv n LA TB v:=by
    have hs1:=S1.kept.size
    refine ⟨owns_lower (ownsRow_same q3.row (fun g hg=>hx' g (hvis g (q3.row.lt g hg).1))) hs1,fun g hg=>by rw [hE.H']; exact hvis g (q3.row.lt g hg).1,fun i hi=>?_,?_,by rw [hE.H']; exact n12H,?_,by rw [hE.H']; exact n22H,Nat.le_refl _,Nat.le_succ _⟩
    · obtain ⟨b1,b2,b3⟩:=q3.box i hi
      exact ⟨(World.cell?_of_block (a:=⟨TB i,0,none⟩) (hx' _ (hvis _ b2))).trans b1,by rw [hE.H']; exact hvis _ b2,by omega⟩
    · exact (World.cell?_of_block (a:=⟨w.heap.size,0,none⟩) (hkeep w.heap.size (by omega) n12H)).trans (obj_cell n12 (o:=0) rfl)
    · exact (World.cell?_of_block (a:=⟨w.heap.size+1,0,none⟩) (hkeep (w.heap.size+1) (by omega) n22H)).trans (obj_cell n22 (o:=0) rfl)
  have hfin:=hc E3 w3 v TB S13 hM
  replace hfin:=Lib.hid hfin
  obtain ⟨f,hf,fz⟩:=arrfv Ta q1
  have e5:=fz 5 _ q2
  clear hM S13 hkeep hvis q4 q3 q2 q1 hSt hB hK hx' hxs' hx hxs hE hrow0 S12 n22 n12 n22H n12H n3 n3H r5 o2 s2 N2 S2 n1 n2 n1H n2H r2 r3 s1 N1 S1 fz hcell hn hta hc hd htv z1 z2
  rw [hf]
  change HGn Try.prog h F E3 w3 100 _
  rw [show mS3=xmS3 from rfl]
  simp only [xmS3,mS3,mdB,Try.f39,Option.getD_some,List.range,List.range.loop,List.map_cons,List.map_nil,e5]
  refine Idl.q (idl_hg Try.prog h F E3 w3) (Idl.rg (idl_hg Try.prog h F E3 w3) [0,1] rfl ?_)
  iterate 2 (apply Idl.value (idl_hg Try.prog h F E3 w3) rfl rfl (by first | decide | exact base_kind _ | exact baseD_kind _ | assumption); (focus (intro w; go_simp; (try w_num); first | done | rfl)); (focus (intro w; simp [go_sem, *])); walk_nrm)
  refine Idl.re (idl_hg Try.prog h F E3 w3) (Idl.rt (idl_hg Try.prog h F E3 w3) ?_)
  refine Idl.leaveV (n:=1) (v:=v) (fn:=Try.f39) (idl_hg Try.prog h F E3 w3) rfl rfl Try.func39 (fun w=>by simp [results,Try.f39,go_sem]) (fun w=>by simp [results,Try.f39,go_sem]) ?_
  exact hfin.out
end
end Go.Proofs.Ytimlbbleblijnaa.Co
