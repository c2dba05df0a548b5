/- Lemmas for the laws of this seat, laid together of PIc, PId. -/
import Derived.Test.YtimlbbleblijnaaV20

open Go.ConcR.Gen (base_kind baseD_kind)
set_option linter.unusedVariables false
set_option linter.unusedSimpArgs false
set_option maxRecDepth 100000
set_option maxHeartbeats 4000000
namespace Go.Proofs.Ytimlbbleblijnaa.Co
open Go Go.Conc Go.RowKit
open Go.ConcN (sumTo upd sumTo_upd upd_ne upd_same sumTo_congr le_sumTo)
noncomputable def dB:Code:=Try.f42.body.getD .skip
noncomputable def dH:Code:=match dB with | .seq _ (.block _ (.seq _ (.cond _ _ (.seq _ (.cond _ _ (.seq _ (.cond _ _ (.seq _ (.cond _ _ (.seq _ (.cond _ x _))))))))))) =>x | _=>.skip
noncomputable def dR10:Code:=match dH with | .seq x _=>x | _=>.skip
noncomputable def dR11:Code:=match dH with | .seq _ (.seq x _)=>x | _=>.skip
noncomputable def dR12:Code:=match dH with | .seq _ (.seq _ x)=>x | _=>.skip
noncomputable def xdR10:Code:=dR10
noncomputable def xdR11:Code:=dR11
theorem dH_parts:dH=.seq dR10 (.seq dR11 dR12):=by kernel_rfl
noncomputable def dBx (H:Code):Code:=match dB with
  | .seq a (.block i (.seq b1 (.cond c1 y1 (.seq b2 (.cond c2 y2 (.seq b3 (.cond c3 y3 (.seq b4 (.cond c4 y4 (.seq b5 (.cond c5 _ y5)))))))))))=>.seq a (.block i (.seq b1 (.cond c1 y1 (.seq b2 (.cond c2 y2 (.seq b3 (.cond c3 y3 (.seq b4 (.cond c4 y4 (.seq b5 (.cond c5 H y5)))))))))))
  | _=>.skip
theorem dB_parts:dB=dBx dH:=by kernel_rfl
theorem told_wp {T:Array Value} {x:World} {bb n:Nat} {t k s p q:Int} {mv:Value} {xs:List Value} {Q:Exit→Act→World→Prop} (hs:T.size=54) (t1:T[1]?=some (.int .i64 t)) (t3:T[3]?=some (.pointer (some ⟨bb,0,none⟩))) (t8:T[8]?=some (.int .i64 k)) (t9:T[9]?=some (.int .i64 s)) (t10:T[10]?=some (.int .i64 p)) (t11:T[11]?=some (.int .i64 q))
    (c3:x.heap[bb]?=some (.cells #[mv] 63)) (ho:x.ownsRow (bb+1) 117 5 mv n xs) (n3:mv.ownBlock≠some bb) (hn:n≤1000000000000)
    (hQ:∀ T' x',T'.size=54→Told1 bb mv (xs ++ tldV (t,k,s,p,q)) (n+1) x x'→Q .normal ⟨T',[]⟩ x'):dR12.wp Try.prog Q ⟨T,[]⟩ x:=by
  obtain ⟨i0,hinf,hz0,hz1,hz2⟩:=info117
  obtain ⟨f,rfl,fz⟩:=arrfv T hs
  have e1:=fz 1 _ t1
  have e3:=fz 3 _ t3
  have e8:=fz 8 _ t8
  have e9:=fz 9 _ t9
  have e10:=fz 10 _ t10
  have e11:=fz 11 _ t11
  clear fz t1 t3 t8 t9 t10 t11 hs
  have hl:=(Array.getElem?_eq_some_iff.1 c3).1
  have c3':x.cell? ⟨bb,0,none⟩=some mv:=obj_cell c3 rfl
  have wn:=World.new_ne x _ c3'
  obtain ⟨w1,hw1⟩:∃ w1,w1=x.alloc (.cells #[.int .i64 t,.int .i64 k,.int .i64 s,.int .i64 p,.int .i64 q] 117):=⟨_,rfl⟩
  have ho1:w1.ownsRow (bb+1) 117 5 mv n xs:=by rw [hw1]; exact ho.alloc _
  have s1:w1.heap.size=x.heap.size+1:=by rw [hw1,alloc_size]
  have hnews:∀ j u,(tldV (t,k,s,p,q))[j]?=some u→w1.cell? ((⟨x.heap.size,0,none⟩:Addr).add j)=some u:=by
    rw [hw1]
    exact World.news_of_block (cs:=#[.int .i64 t,.int .i64 k,.int .i64 s,.int .i64 p,.int .i64 q]) (heap_alloc_new _ _)
  have c1:w1.heap[bb]?=some (.cells #[mv] 63):=by rw [hw1]; exact (alloc_old hl).trans c3
  replace hQ:=Lib.hid hQ
  replace hw1:=Lib.hid hw1
  replace c3:=Lib.hid c3
  replace c1:=Lib.hid c1
  simp only [List.range,List.range.loop,List.map_cons,List.map_nil,e1,e3,e8,e9,e10,e11]
  simp only [dR12,dH,dB,Try.f42,Option.getD_some]
  go_wp2_with (at_builtin; rw [← hw1.out]; refine wpList_append_lies _ rfl _ _ _ rfl (bb+1) 117 i0 _ 5 40 Try.underlying58 hinf hz0 hz1 hz2 rfl (by decide) mv n xs (by rfl) ho1 ⟨x.heap.size,0,none⟩ 1 1 (tldV (t,k,s,p,q)) (by rfl) (by rfl) hnews (by simp [tldV,Value.oneCell']) (by omega) (by unfold maxLen; omega) (by omega) (by omega) _ rfl ?_; intro gg cp w4 ho4 hgrow hat hlt4; have hb4:=(hgrow.block bb (by omega) (Ne.symm n3)).trans c1.out; have hc4:w4.cell? ⟨bb,0,none⟩=some mv:=obj_cell hb4 (o:=0) rfl; have hf4:=obj_thaw hb4 0)
  have hfin:Told1 bb mv (xs ++ tldV (t,k,s,p,q)) (n+1) x (w4.setCell ⟨bb,0,none⟩ (.slice (some ⟨gg,0,none⟩) (n+1) cp)):=by
    have hg2:gg≠bb:=fun e=>by
      rcases hat with z | z
      · exact n3 (by rw [z,e])
      · omega
    refine ⟨?_,fun c hc h1 h2=>?_,⟨_,heap_set (a:=⟨bb,0,none⟩) (w:=w4) rfl hb4,?_,fun g hg=>?_⟩⟩
    · have:=hgrow.size
      simp [World.setCell]
      omega
    · rw [heap_setCell_ne (a:=⟨bb,0,none⟩) (b:=c) (Ne.symm h1),hgrow.block c (by omega) (Ne.symm h2),hw1.out]
      exact alloc_old hc
    · refine ownsRow_setCell_other ho4 (fun e=>?_) _
      exact hg2 (by simpa [Value.ownBlock] using e)
    · have hg3:gg=g:=by simpa [Value.ownBlock] using hg
      subst hg3
      rcases hat with z | z
      · exact .inl z
      · exact .inr (by omega)
  replace hfin:=Lib.hid hfin
  replace hb4:=Lib.hid hb4
  clear ho4 hgrow hnews ho1
  try go_wp2
  exact hQ.out _ _ (by simp) hfin.out
section
variable {h rb bb:Nat} {home:Goroutine→Prop} {k:Int} {th:Th} {F:Machine→Trace→Prop} {E:Env} {w:World} {s:RSt} {K:Nat→Obj→Prop} {L:List RT} {tl:Tl3} {b₀:Frame} {a₀:Act} {ops₀:Array Oper} {i₀:Nat} {rest₀:List Nat} {k₀:List Item} {cl:List Frame} {tv:Int}
theorem does_step (hc : ∀ (a₁ : Act) (ops : Array Oper) (i' : Nat) (rest' : List Nat) (k' : List Item), a₁.defers = [] →
      (∀ (F':Machine→Trace→Prop) (E2:Env) (w2:World),HG Try.prog th.j F' E2 (G (b₀.at (a₀.put ((ops₀[i₀]?).bind (·.dst)) (.tuple #[])) (.inRegion ops₀ rest₀ :: k₀)) cl) w2→HG Try.prog th.j F' E2 (G ((base 42).at (a₁.put ((ops[i']?).bind (·.dst)) (.tuple #[])) (.inRegion ops rest' :: k')) (b₀.at a₀ (.inRegion ops₀ (i₀ :: rest₀) :: k₀) :: cl)) w2) →
      HGn Try.prog th.j F E w 100 (entry 33 Try.f33 #[.pointer (some ⟨th.gb,0,none⟩)] ((base 42).at a₁ (.inRegion ops (i' :: rest') :: k') :: b₀.at a₀ (.inRegion ops₀ (i₀ :: rest₀) :: k₀) :: cl))) :
    HGn Try.prog th.j F E w 200 (entry 42 Try.f42 #[.pointer (some ⟨th.gb,0,none⟩),.int .i64 tv,.int .i64 1,.pointer (some ⟨bb,0,none⟩)] (b₀.at a₀ (.inRegion ops₀ (i₀ :: rest₀) :: k₀) :: cl)):=by
  replace hc:=Lib.hid hc
  unfold entry
  rw [show Try.f42.body.getD .skip=dBx dH from dB_parts,show Try.f42.ntmps=54 from rfl]
  generalize dH=LH
  simp only [dBx,dB,Try.f42,Option.getD_some]
  walk_nrm
  refine Idl.q (idl_hg Try.prog th.j F E w) (Idl.rg (idl_hg Try.prog th.j F E w) [0] rfl ?_)
  apply Idl.value (idl_hg Try.prog th.j F E w) rfl rfl (by first | decide | exact base_kind _ | exact baseD_kind _ | assumption)
  focus (intro w; go_simp; (try w_num); first | done | rfl)
  focus (intro w; simp [go_sem, *])
  walk_nrm
  refine Idl.re (idl_hg Try.prog th.j F E w) (Idl.bl (idl_hg Try.prog th.j F E w) (Idl.q (idl_hg Try.prog th.j F E w) (Idl.rg (idl_hg Try.prog th.j F E w) [0,1] rfl ?_)))
  iterate 2 (apply Idl.value (idl_hg Try.prog th.j F E w) rfl rfl (by first | decide | exact base_kind _ | exact baseD_kind _ | assumption); (focus (intro w; go_simp; (try w_num); first | done | rfl)); (focus (intro w; simp [go_sem, *])); walk_nrm)
  refine Idl.re (idl_hg Try.prog th.j F E w) (Idl.ct (idl_hg Try.prog th.j F E w) rfl (Idl.rg (idl_hg Try.prog th.j F E w) [0,1] rfl ?_))
  apply Idl.value (idl_hg Try.prog th.j F E w) rfl rfl (by first | decide | exact base_kind _ | exact baseD_kind _ | assumption)
  focus (intro w; go_simp; (try w_num); first | done | rfl)
  focus (intro w; simp [go_sem, *])
  walk_nrm
  refine Idl.callE (fn:=Try.f33) (vs:=#[.pointer (some ⟨th.gb,0,none⟩)]) (idl_hg Try.prog th.j F E w) rfl rfl (by k_ne) rfl Try.func33 rfl rfl (by simp [Act.eval]) ?_
  refine hc.out _ _ _ _ _ rfl (fun F' E2 w2 hh=>?_)
  replace hh:=Lib.hid hh
  clear hc
  change HGn Try.prog th.j F' E2 w2 100 _
  walk_nrm
  refine Idl.re (idl_hg Try.prog th.j F' E2 w2) (Idl.ib (idl_hg Try.prog th.j F' E2 w2) (Idl.en (idl_hg Try.prog th.j F' E2 w2) ?_))
  refine Idl.leave0 (n:=1) (idl_hg Try.prog th.j F' E2 w2) rfl rfl Try.func42 rfl ?_
  exact hh.out
theorem does_begin (T:TKn h rb home k th E w) (g:GA w rb th false false tl) (M:RunM bb K L s E w)
    (hc:∀ E' w',Kept th.j (some th.gb) E w E' w'→TKn h rb home k th E' w'→GA w' rb th false false (0,0,0)→RunM bb K L s E' w'→HG Try.prog th.j F E' (G (b₀.at (a₀.put ((ops₀[i₀]?).bind (·.dst)) (.tuple #[])) (.inRegion ops₀ rest₀ :: k₀)) cl) w') :
    HGn Try.prog th.j F E w 200 (entry 42 Try.f42 #[.pointer (some ⟨th.gb,0,none⟩),.int .i64 tv,.int .i64 2,.pointer (some ⟨bb,0,none⟩)] (b₀.at a₀ (.inRegion ops₀ (i₀ :: rest₀) :: k₀) :: cl)):=by
  have key:∀ {b₁:Frame} {a₁:Act} {ops₁:Array Oper} {i₁:Nat} {rest₁:List Nat} {k₁:List Item} {cl₁:List Frame},(∀ w',Kept th.j (some th.gb) E w E w'→TKn h rb home k th E w'→GA w' rb th false false (0,0,0)→RunM bb K L s E w'→HG Try.prog th.j F E (G (b₁.at (a₁.put ((ops₁[i₁]?).bind (·.dst)) (.tuple #[])) (.inRegion ops₁ rest₁ :: k₁)) cl₁) w') →
      HGn Try.prog th.j F E w 100 (entry 34 Try.f34 #[.pointer (some ⟨th.gb,0,none⟩)] (b₁.at a₁ (.inRegion ops₁ (i₁ :: rest₁) :: k₁) :: cl₁)):=fun hh=>by
    obtain ⟨t1,t2,t3⟩:=tl
    exact begin_own (D:=runD bb K L) T g M hh
  clear T g M
  replace hc:=Lib.hid hc
  replace key:=@Lib.hid _ @key
  unfold entry
  rw [show Try.f42.body.getD .skip=dBx dH from dB_parts,show Try.f42.ntmps=54 from rfl]
  generalize dH=LH
  simp only [dBx,dB,Try.f42,Option.getD_some]
  walk_nrm
  refine Idl.q (idl_hg Try.prog th.j F E w) (Idl.rg (idl_hg Try.prog th.j F E w) [0] rfl ?_)
  apply Idl.value (idl_hg Try.prog th.j F E w) rfl rfl (by first | decide | exact base_kind _ | exact baseD_kind _ | assumption)
  focus (intro w; go_simp; (try w_num); first | done | rfl)
  focus (intro w; simp [go_sem, *])
  walk_nrm
  refine Idl.re (idl_hg Try.prog th.j F E w) (Idl.bl (idl_hg Try.prog th.j F E w) (Idl.q (idl_hg Try.prog th.j F E w) (Idl.rg (idl_hg Try.prog th.j F E w) [0,1] rfl ?_)))
  iterate 2 (apply Idl.value (idl_hg Try.prog th.j F E w) rfl rfl (by first | decide | exact base_kind _ | exact baseD_kind _ | assumption); (focus (intro w; go_simp; (try w_num); first | done | rfl)); (focus (intro w; simp [go_sem, *])); walk_nrm)
  refine Idl.re (idl_hg Try.prog th.j F E w) (Idl.cf (idl_hg Try.prog th.j F E w) rfl (Idl.q (idl_hg Try.prog th.j F E w) (Idl.rg (idl_hg Try.prog th.j F E w) [0,1] rfl ?_)))
  iterate 2 (apply Idl.value (idl_hg Try.prog th.j F E w) rfl rfl (by first | decide | exact base_kind _ | exact baseD_kind _ | assumption); (focus (intro w; go_simp; (try w_num); first | done | rfl)); (focus (intro w; simp [go_sem, *])); walk_nrm)
  refine Idl.re (idl_hg Try.prog th.j F E w) (Idl.ct (idl_hg Try.prog th.j F E w) rfl (Idl.rg (idl_hg Try.prog th.j F E w) [0,1] rfl ?_))
  apply Idl.value (idl_hg Try.prog th.j F E w) rfl rfl (by first | decide | exact base_kind _ | exact baseD_kind _ | assumption)
  focus (intro w; go_simp; (try w_num); first | done | rfl)
  focus (intro w; simp [go_sem, *])
  walk_nrm
  refine Idl.callE (fn:=Try.f34) (vs:=#[.pointer (some ⟨th.gb,0,none⟩)]) (idl_hg Try.prog th.j F E w) rfl rfl (by k_ne) rfl Try.func34 rfl rfl (by simp [Act.eval]) ?_
  refine key.out (fun w' k1 t1 g1 m1=>?_)
  replace k1:=Lib.hid k1
  replace t1:=Lib.hid t1
  replace g1:=Lib.hid g1
  replace m1:=Lib.hid m1
  clear key
  change HGn Try.prog th.j F E w' 100 _
  walk_nrm
  refine Idl.re (idl_hg Try.prog th.j F E w') (Idl.ib (idl_hg Try.prog th.j F E w') (Idl.en (idl_hg Try.prog th.j F E w') ?_))
  refine Idl.leave0 (n:=1) (idl_hg Try.prog th.j F E w') rfl rfl Try.func42 rfl ?_
  exact hc.out E w' k1.out t1.out g1.out m1.out
theorem does_poll (T:TKn h rb home k th E w) (g:GA w rb th false false tl) (M:RunM bb K L s E w)
    (hc:∀ E' w',Kept th.j (some th.gb) E w E' w'→TKn h rb home k th E' w'→GA w' rb th false false (tl.1,IntKind.i64.wrap (tl.2.1+1),tl.2.2)→RunM bb K L s E' w'→HG Try.prog th.j F E' (G (b₀.at (a₀.put ((ops₀[i₀]?).bind (·.dst)) (.tuple #[])) (.inRegion ops₀ rest₀ :: k₀)) cl) w') :
    HGn Try.prog th.j F E w 200 (entry 42 Try.f42 #[.pointer (some ⟨th.gb,0,none⟩),.int .i64 tv,.int .i64 3,.pointer (some ⟨bb,0,none⟩)] (b₀.at a₀ (.inRegion ops₀ (i₀ :: rest₀) :: k₀) :: cl)):=by
  have key:∀ {b₁:Frame} {a₁:Act} {ops₁:Array Oper} {i₁:Nat} {rest₁:List Nat} {k₁:List Item} {cl₁:List Frame},(∀ w',Kept th.j (some th.gb) E w E w'→TKn h rb home k th E w'→GA w' rb th false false (tl.1,IntKind.i64.wrap (tl.2.1+1),tl.2.2)→RunM bb K L s E w'→HG Try.prog th.j F E (G (b₁.at (a₁.put ((ops₁[i₁]?).bind (·.dst)) (.tuple #[])) (.inRegion ops₁ rest₁ :: k₁)) cl₁) w') →
      HGn Try.prog th.j F E w 100 (entry 35 Try.f35 #[.pointer (some ⟨th.gb,0,none⟩)] (b₁.at a₁ (.inRegion ops₁ (i₁ :: rest₁) :: k₁) :: cl₁)):=fun hh=>by
    obtain ⟨t1,t2,t3⟩:=tl
    exact poll_own (D:=runD bb K L) T g M hh
  clear T g M
  replace hc:=Lib.hid hc
  replace key:=@Lib.hid _ @key
  unfold entry
  rw [show Try.f42.body.getD .skip=dBx dH from dB_parts,show Try.f42.ntmps=54 from rfl]
  generalize dH=LH
  simp only [dBx,dB,Try.f42,Option.getD_some]
  walk_nrm
  refine Idl.q (idl_hg Try.prog th.j F E w) (Idl.rg (idl_hg Try.prog th.j F E w) [0] rfl ?_)
  apply Idl.value (idl_hg Try.prog th.j F E w) rfl rfl (by first | decide | exact base_kind _ | exact baseD_kind _ | assumption)
  focus (intro w; go_simp; (try w_num); first | done | rfl)
  focus (intro w; simp [go_sem, *])
  walk_nrm
  refine Idl.re (idl_hg Try.prog th.j F E w) (Idl.bl (idl_hg Try.prog th.j F E w) (Idl.q (idl_hg Try.prog th.j F E w) (Idl.rg (idl_hg Try.prog th.j F E w) [0,1] rfl ?_)))
  iterate 2 (apply Idl.value (idl_hg Try.prog th.j F E w) rfl rfl (by first | decide | exact base_kind _ | exact baseD_kind _ | assumption); (focus (intro w; go_simp; (try w_num); first | done | rfl)); (focus (intro w; simp [go_sem, *])); walk_nrm)
  refine Idl.re (idl_hg Try.prog th.j F E w) (Idl.cf (idl_hg Try.prog th.j F E w) rfl (Idl.q (idl_hg Try.prog th.j F E w) (Idl.rg (idl_hg Try.prog th.j F E w) [0,1] rfl ?_)))
  iterate 2 (apply Idl.value (idl_hg Try.prog th.j F E w) rfl rfl (by first | decide | exact base_kind _ | exact baseD_kind _ | assumption); (focus (intro w; go_simp; (try w_num); first | done | rfl)); (focus (intro w; simp [go_sem, *])); walk_nrm)
  refine Idl.re (idl_hg Try.prog th.j F E w) (Idl.cf (idl_hg Try.prog th.j F E w) rfl (Idl.q (idl_hg Try.prog th.j F E w) (Idl.rg (idl_hg Try.prog th.j F E w) [0,1] rfl ?_)))
  iterate 2 (apply Idl.value (idl_hg Try.prog th.j F E w) rfl rfl (by first | decide | exact base_kind _ | exact baseD_kind _ | assumption); (focus (intro w; go_simp; (try w_num); first | done | rfl)); (focus (intro w; simp [go_sem, *])); walk_nrm)
  refine Idl.re (idl_hg Try.prog th.j F E w) (Idl.ct (idl_hg Try.prog th.j F E w) rfl (Idl.rg (idl_hg Try.prog th.j F E w) [0,1] rfl ?_))
  apply Idl.value (idl_hg Try.prog th.j F E w) rfl rfl (by first | decide | exact base_kind _ | exact baseD_kind _ | assumption)
  focus (intro w; go_simp; (try w_num); first | done | rfl)
  focus (intro w; simp [go_sem, *])
  walk_nrm
  refine Idl.callE (fn:=Try.f35) (vs:=#[.pointer (some ⟨th.gb,0,none⟩)]) (idl_hg Try.prog th.j F E w) rfl rfl (by k_ne) rfl Try.func35 rfl rfl (by simp [Act.eval]) ?_
  refine key.out (fun w' k1 t1 g1 m1=>?_)
  replace k1:=Lib.hid k1
  replace t1:=Lib.hid t1
  replace g1:=Lib.hid g1
  replace m1:=Lib.hid m1
  clear key
  change HGn Try.prog th.j F E w' 100 _
  walk_nrm
  refine Idl.re (idl_hg Try.prog th.j F E w') (Idl.ib (idl_hg Try.prog th.j F E w') (Idl.en (idl_hg Try.prog th.j F E w') ?_))
  refine Idl.leave0 (n:=1) (idl_hg Try.prog th.j F E w') rfl rfl Try.func42 rfl ?_
  exact hc.out E w' k1.out t1.out g1.out m1.out
theorem does_point (T:TKn h rb home k th E w) (g:GA w rb th false false tl) (M:RunM bb K L s E w)
    (hc:∀ E' w',Kept th.j (some th.gb) E w E' w'→TKn h rb home k th E' w'→GA w' rb th false false (tl.1,tl.2.1,k)→RunM bb K L s E' w'→HG Try.prog th.j F E' (G (b₀.at (a₀.put ((ops₀[i₀]?).bind (·.dst)) (.tuple #[])) (.inRegion ops₀ rest₀ :: k₀)) cl) w') :
    HGn Try.prog th.j F E w 200 (entry 42 Try.f42 #[.pointer (some ⟨th.gb,0,none⟩),.int .i64 tv,.int .i64 4,.pointer (some ⟨bb,0,none⟩)] (b₀.at a₀ (.inRegion ops₀ (i₀ :: rest₀) :: k₀) :: cl)):=by
  have key:∀ {b₁:Frame} {a₁:Act} {ops₁:Array Oper} {i₁:Nat} {rest₁:List Nat} {k₁:List Item} {cl₁:List Frame},(∀ w',Kept th.j (some th.gb) E w E w'→TKn h rb home k th E w'→GA w' rb th false false (tl.1,tl.2.1,k)→RunM bb K L s E w'→HG Try.prog th.j F E (G (b₁.at (a₁.put ((ops₁[i₁]?).bind (·.dst)) (.tuple #[])) (.inRegion ops₁ rest₁ :: k₁)) cl₁) w') →
      HGn Try.prog th.j F E w 100 (entry 36 Try.f36 #[.pointer (some ⟨th.gb,0,none⟩)] (b₁.at a₁ (.inRegion ops₁ (i₁ :: rest₁) :: k₁) :: cl₁)):=fun hh=>by
    obtain ⟨t1,t2,t3⟩:=tl
    exact point_own (D:=runD bb K L) T g M hh
  clear T g M
  replace hc:=Lib.hid hc
  replace key:=@Lib.hid _ @key
  unfold entry
  rw [show Try.f42.body.getD .skip=dBx dH from dB_parts,show Try.f42.ntmps=54 from rfl]
  generalize dH=LH
  simp only [dBx,dB,Try.f42,Option.getD_some]
  walk_nrm
  refine Idl.q (idl_hg Try.prog th.j F E w) (Idl.rg (idl_hg Try.prog th.j F E w) [0] rfl ?_)
  apply Idl.value (idl_hg Try.prog th.j F E w) rfl rfl (by first | decide | exact base_kind _ | exact baseD_kind _ | assumption)
  focus (intro w; go_simp; (try w_num); first | done | rfl)
  focus (intro w; simp [go_sem, *])
  walk_nrm
  refine Idl.re (idl_hg Try.prog th.j F E w) (Idl.bl (idl_hg Try.prog th.j F E w) (Idl.q (idl_hg Try.prog th.j F E w) (Idl.rg (idl_hg Try.prog th.j F E w) [0,1] rfl ?_)))
  iterate 2 (apply Idl.value (idl_hg Try.prog th.j F E w) rfl rfl (by first | decide | exact base_kind _ | exact baseD_kind _ | assumption); (focus (intro w; go_simp; (try w_num); first | done | rfl)); (focus (intro w; simp [go_sem, *])); walk_nrm)
  refine Idl.re (idl_hg Try.prog th.j F E w) (Idl.cf (idl_hg Try.prog th.j F E w) rfl (Idl.q (idl_hg Try.prog th.j F E w) (Idl.rg (idl_hg Try.prog th.j F E w) [0,1] rfl ?_)))
  iterate 2 (apply Idl.value (idl_hg Try.prog th.j F E w) rfl rfl (by first | decide | exact base_kind _ | exact baseD_kind _ | assumption); (focus (intro w; go_simp; (try w_num); first | done | rfl)); (focus (intro w; simp [go_sem, *])); walk_nrm)
  refine Idl.re (idl_hg Try.prog th.j F E w) (Idl.cf (idl_hg Try.prog th.j F E w) rfl (Idl.q (idl_hg Try.prog th.j F E w) (Idl.rg (idl_hg Try.prog th.j F E w) [0,1] rfl ?_)))
  iterate 2 (apply Idl.value (idl_hg Try.prog th.j F E w) rfl rfl (by first | decide | exact base_kind _ | exact baseD_kind _ | assumption); (focus (intro w; go_simp; (try w_num); first | done | rfl)); (focus (intro w; simp [go_sem, *])); walk_nrm)
  refine Idl.re (idl_hg Try.prog th.j F E w) (Idl.cf (idl_hg Try.prog th.j F E w) rfl (Idl.q (idl_hg Try.prog th.j F E w) (Idl.rg (idl_hg Try.prog th.j F E w) [0,1] rfl ?_)))
  iterate 2 (apply Idl.value (idl_hg Try.prog th.j F E w) rfl rfl (by first | decide | exact base_kind _ | exact baseD_kind _ | assumption); (focus (intro w; go_simp; (try w_num); first | done | rfl)); (focus (intro w; simp [go_sem, *])); walk_nrm)
  refine Idl.re (idl_hg Try.prog th.j F E w) (Idl.ct (idl_hg Try.prog th.j F E w) rfl (Idl.rg (idl_hg Try.prog th.j F E w) [0,1] rfl ?_))
  apply Idl.value (idl_hg Try.prog th.j F E w) rfl rfl (by first | decide | exact base_kind _ | exact baseD_kind _ | assumption)
  focus (intro w; go_simp; (try w_num); first | done | rfl)
  focus (intro w; simp [go_sem, *])
  walk_nrm
  refine Idl.callE (fn:=Try.f36) (vs:=#[.pointer (some ⟨th.gb,0,none⟩)]) (idl_hg Try.prog th.j F E w) rfl rfl (by k_ne) rfl Try.func36 rfl rfl (by simp [Act.eval]) ?_
  refine key.out (fun w' k1 t1 g1 m1=>?_)
  replace k1:=Lib.hid k1
  replace t1:=Lib.hid t1
  replace g1:=Lib.hid g1
  replace m1:=Lib.hid m1
  clear key
  change HGn Try.prog th.j F E w' 100 _
  walk_nrm
  refine Idl.re (idl_hg Try.prog th.j F E w') (Idl.ib (idl_hg Try.prog th.j F E w') (Idl.en (idl_hg Try.prog th.j F E w') ?_))
  refine Idl.leave0 (n:=1) (idl_hg Try.prog th.j F E w') rfl rfl Try.func42 rfl ?_
  exact hc.out E w' k1.out t1.out g1.out m1.out
theorem does_other {c:Int} (h1:c≠1) (h2:c≠2) (h3:c≠3) (h4:c≠4) (h5:c≠5) (hc:HG Try.prog th.j F E (G (b₀.at (a₀.put ((ops₀[i₀]?).bind (·.dst)) (.tuple #[])) (.inRegion ops₀ rest₀ :: k₀)) cl) w) :
    HGn Try.prog th.j F E w 200 (entry 42 Try.f42 #[.pointer (some ⟨th.gb,0,none⟩),.int .i64 tv,.int .i64 c,.pointer (some ⟨bb,0,none⟩)] (b₀.at a₀ (.inRegion ops₀ (i₀ :: rest₀) :: k₀) :: cl)):=by
  have q1:(c == 1)=false:=beq_eq_false_iff_ne.2 h1
  have q2:(c == 2)=false:=beq_eq_false_iff_ne.2 h2
  have q3:(c == 3)=false:=beq_eq_false_iff_ne.2 h3
  have q4:(c == 4)=false:=beq_eq_false_iff_ne.2 h4
  have q5:(c == 5)=false:=beq_eq_false_iff_ne.2 h5
  clear h1 h2 h3 h4 h5
  replace hc:=Lib.hid hc
  unfold entry
  rw [show Try.f42.body.getD .skip=dBx dH from dB_parts,show Try.f42.ntmps=54 from rfl]
  generalize dH=LH
  simp only [dBx,dB,Try.f42,Option.getD_some]
  walk_nrm
  refine Idl.q (idl_hg Try.prog th.j F E w) (Idl.rg (idl_hg Try.prog th.j F E w) [0] rfl ?_)
  apply Idl.value (idl_hg Try.prog th.j F E w) rfl rfl (by first | decide | exact base_kind _ | exact baseD_kind _ | assumption)
  focus (intro w; go_simp; (try w_num); first | done | rfl)
  focus (intro w; simp [go_sem, *])
  walk_nrm
  refine Idl.re (idl_hg Try.prog th.j F E w) (Idl.bl (idl_hg Try.prog th.j F E w) (Idl.q (idl_hg Try.prog th.j F E w) (Idl.rg (idl_hg Try.prog th.j F E w) [0,1] rfl ?_)))
  iterate 2 (apply Idl.value (idl_hg Try.prog th.j F E w) rfl rfl (by first | decide | exact base_kind _ | exact baseD_kind _ | assumption); (focus (intro w; go_simp; (try w_num); first | done | rfl)); (focus (intro w; simp [go_sem, *])); walk_nrm)
  refine Idl.re (idl_hg Try.prog th.j F E w) (Idl.cf (idl_hg Try.prog th.j F E w) rfl (Idl.q (idl_hg Try.prog th.j F E w) (Idl.rg (idl_hg Try.prog th.j F E w) [0,1] rfl ?_)))
  iterate 2 (apply Idl.value (idl_hg Try.prog th.j F E w) rfl rfl (by first | decide | exact base_kind _ | exact baseD_kind _ | assumption); (focus (intro w; go_simp; (try w_num); first | done | rfl)); (focus (intro w; simp [go_sem, *])); walk_nrm)
  refine Idl.re (idl_hg Try.prog th.j F E w) (Idl.cf (idl_hg Try.prog th.j F E w) rfl (Idl.q (idl_hg Try.prog th.j F E w) (Idl.rg (idl_hg Try.prog th.j F E w) [0,1] rfl ?_)))
  iterate 2 (apply Idl.value (idl_hg Try.prog th.j F E w) rfl rfl (by first | decide | exact base_kind _ | exact baseD_kind _ | assumption); (focus (intro w; go_simp; (try w_num); first | done | rfl)); (focus (intro w; simp [go_sem, *])); walk_nrm)
  refine Idl.re (idl_hg Try.prog th.j F E w) (Idl.cf (idl_hg Try.prog th.j F E w) rfl (Idl.q (idl_hg Try.prog th.j F E w) (Idl.rg (idl_hg Try.prog th.j F E w) [0,1] rfl ?_)))
  iterate 2 (apply Idl.value (idl_hg Try.prog th.j F E w) rfl rfl (by first | decide | exact base_kind _ | exact baseD_kind _ | assumption); (focus (intro w; go_simp; (try w_num); first | done | rfl)); (focus (intro w; simp [go_sem, *])); walk_nrm)
  refine Idl.re (idl_hg Try.prog th.j F E w) (Idl.cf (idl_hg Try.prog th.j F E w) rfl (Idl.q (idl_hg Try.prog th.j F E w) (Idl.rg (idl_hg Try.prog th.j F E w) [0,1] rfl ?_)))
  iterate 2 (apply Idl.value (idl_hg Try.prog th.j F E w) rfl rfl (by first | decide | exact base_kind _ | exact baseD_kind _ | assumption); (focus (intro w; go_simp; (try w_num); first | done | rfl)); (focus (intro w; simp [go_sem, *])); walk_nrm)
  refine Idl.re (idl_hg Try.prog th.j F E w) (Idl.cf (idl_hg Try.prog th.j F E w) rfl (Idl.sk (idl_hg Try.prog th.j F E w) (Idl.ib (idl_hg Try.prog th.j F E w) (Idl.en (idl_hg Try.prog th.j F E w) ?_))))
  refine Idl.leave0 (n:=1) (idl_hg Try.prog th.j F E w) rfl rfl Try.func42 rfl ?_
  exact hc.out
theorem does_tell {t i:Nat} (htv:tv=(t:Int)) (T:TKn h rb home k th E w) (g:GA w rb th false false tl) (M:RunM bb K L s E w) (hi:s.cnt t=i) (hl:i < (opsR L t).length) (ht:t < L.length) (hbound:sumTo L.length (fun t=>(opsR L t).length)≤1000000000000)
    (hc:∀ E' w',Kept th.j (some th.gb) E w E' w'→TKn h rb home k th E' w'→GA w' rb th false false tl→RunM bb K L ⟨s.told ++ [((t:Int),k,tl.1,tl.2.1,tl.2.2)],upd s.cnt t (i+1)⟩ E' w'→HG Try.prog th.j F E' (G (b₀.at (a₀.put ((ops₀[i₀]?).bind (·.dst)) (.tuple #[])) (.inRegion ops₀ rest₀ :: k₀)) cl) w') :
    HGn Try.prog th.j F E w 200 (entry 42 Try.f42 #[.pointer (some ⟨th.gb,0,none⟩),.int .i64 tv,.int .i64 5,.pointer (some ⟨bb,0,none⟩)] (b₀.at a₀ (.inRegion ops₀ (i₀ :: rest₀) :: k₀) :: cl)):=by
  subst htv
  obtain ⟨st,po,pt⟩:=tl
  have P3:∀ T':Array Value,T'.size=54→T'[1]?=some (.int .i64 (t:Int))→T'[3]?=some (.pointer (some ⟨bb,0,none⟩))→T'[8]?=some (.int .i64 k)→T'[9]?=some (.int .i64 st)→T'[10]?=some (.int .i64 po)→T'[11]?=some (.int .i64 pt)→∀ E1 w1,Kept th.j (some th.gb) E w E1 w1→TKn h rb home k th E1 w1→GA w1 rb th false false (st,po,pt)→RunM bb K L s E1 w1 →
      HGn Try.prog th.j F E1 w1 100 (G ((base 42).at ⟨T',[]⟩ [.code dR12,.inBlock 0]) (b₀.at a₀ (.inRegion ops₀ (i₀ :: rest₀) :: k₀) :: cl)):=by
    intro T' h1 h2 h3 h4 h5 h6 h7 E1 w1 k1 T1 g1 M1
    obtain ⟨mv,r1,r2,r3⟩:=M1.row
    have hlen:s.told.length≤1000000000000:=Nat.le_trans M1.len (Nat.le_trans (sumTo_le L.length M1.cnt) hbound)
    have hne:mv.ownBlock≠some bb:=fun e=>by have:=(r2.lt bb e).1; omega
    refine HG.quietS (fun c=>c=bb∨mv.ownBlock=some c) (fun c e=>e.elim (fun e=>by rw [e]; exact M1.bbH) (fun e=>(r3 c e).1)) (closed_none _) (Q:=fun a' x x'=>a'.tmps.size=54∧Told1 bb mv (tldsV s.told ++ tldV ((t:Int),k,st,po,pt)) (s.told.length+1) x x') (by kernel_rfl) (by rfl) rfl (fun x hxs hx=>?_) (fun E2 w2 a' x x' hE hd hxs hx hxs' hx' hK hB hSt hq=>?_)
    · refine told_wp (bb:=bb) (mv:=mv) (n:=s.told.length) (xs:=tldsV s.told) h1 h2 h3 h4 h5 h6 h7 ((hx bb M1.bbH).trans r1) (ownsRow_same r2 (fun g hg=>hx g (r3 g hg).1)) hne hlen (fun T2 x' a1 a2=>⟨rfl,rfl,fun b hb hn=>a2.old b hb (fun e=>hn (.inl e)) (fun e=>hn (.inr e)),a1,a2⟩)
    · obtain ⟨Ta,df⟩:=a'
      have hdf:df=[]:=hd
      subst hdf
      obtain ⟨q1,q2⟩:=hq
      have hS:=M1.step hi hl ht (tl:=s.told) rfl
      have M2:RunM bb K L ⟨s.told ++ [((t:Int),k,st,po,pt)],upd s.cnt t (i+1)⟩ E2 w2:=runM_told M1 r1 hE.H' hxs hx hx' hB q2 rfl (by
        have h1:=sumTo_upd s.cnt (i+1) (fun x=>x) (j:=L.length) (i:=t) ht
        have h2:=M1.len
        have h3:sumTo L.length (fun a=>upd s.cnt t (i+1) a)=sumTo L.length (upd s.cnt t (i+1)):=rfl
        have h4:sumTo L.length (fun a=>s.cnt a)=sumTo L.length s.cnt:=rfl
        show (s.told ++ [_]).length≤sumTo L.length (upd s.cnt t (i+1))
        simp only [List.length_append,List.length_cons,List.length_nil]
        omega) hS.cnt
      have hfin:=hc E2 w2 (k1.trans hK.weaken) (T1.kept hK.weaken T1.gct) (GA.kept hK g1 T1.gH T1.gW) M2
      replace hfin:=Lib.hid hfin
      dsimp only at q1
      obtain ⟨f,rfl⟩:=arrf Ta q1
      change HGn Try.prog th.j F E2 w2 100 _
      refine Idl.step (idl_hg Try.prog th.j F E2 w2) _ _ _ rfl (fun _=>stepG_inBlock) ?_
      refine Idl.step (idl_hg Try.prog th.j F E2 w2) _ _ _ rfl (fun _=>stepG_end) ?_
      refine Idl.leave0 (n:=1) (idl_hg Try.prog th.j F E2 w2) rfl rfl Try.func42 rfl ?_
      exact hfin.out
  have key1:∀ {b₁:Frame} {a₁:Act} {ops₁:Array Oper} {i₁:Nat} {rest₁:List Nat} {k₁:List Item} {cl₁:List Frame},HG Try.prog th.j F E (G (b₁.at (a₁.put ((ops₁[i₁]?).bind (·.dst)) (.int .i64 k)) (.inRegion ops₁ rest₁ :: k₁)) cl₁) w→HGn Try.prog th.j F E w 100 (entry 37 Try.f37 #[.pointer (some ⟨th.gb,0,none⟩)] (b₁.at a₁ (.inRegion ops₁ (i₁ :: rest₁) :: k₁) :: cl₁)):=fun hh=>picks_own T g hh
  have key2:∀ {b₁:Frame} {a₁:Act} {ops₁:Array Oper} {i₁:Nat} {rest₁:List Nat} {k₁:List Item} {cl₁:List Frame},(∀ E' w',Kept th.j (some th.gb) E w E' w'→TKn h rb home k th E' w'→GA w' rb th false false (st,po,pt)→RunM bb K L s E' w'→HG Try.prog th.j F E' (G (b₁.at (a₁.put ((ops₁[i₁]?).bind (·.dst)) (.tuple #[.int .i64 st,.int .i64 po,.int .i64 pt])) (.inRegion ops₁ rest₁ :: k₁)) cl₁) w')→HGn Try.prog th.j F E w 100 (entry 31 Try.f31 #[.pointer (some ⟨th.gb,0,none⟩)] (b₁.at a₁ (.inRegion ops₁ (i₁ :: rest₁) :: k₁) :: cl₁)):=fun hh=>tally_th (D:=runD bb K L) T g M hh
  clear hc hbound hi hl ht T g M
  replace P3:=Lib.hid P3
  replace key1:=@Lib.hid _ @key1
  replace key2:=@Lib.hid _ @key2
  unfold entry
  rw [show Try.f42.body.getD .skip=dBx (.seq xdR10 (.seq xdR11 dR12)) from dB_parts.trans (congrArg dBx dH_parts),show Try.f42.ntmps=54 from rfl]
  generalize dR12=L12 at P3 ⊢
  simp only [dBx,dB,Try.f42,Option.getD_some]
  walk_nrm
  refine Idl.q (idl_hg Try.prog th.j F E w) (Idl.rg (idl_hg Try.prog th.j F E w) [0] rfl ?_)
  apply Idl.value (idl_hg Try.prog th.j F E w) rfl rfl (by first | decide | exact base_kind _ | exact baseD_kind _ | assumption)
  focus (intro w; go_simp; (try w_num); first | done | rfl)
  focus (intro w; simp [go_sem, *])
  walk_nrm
  refine Idl.re (idl_hg Try.prog th.j F E w) (Idl.bl (idl_hg Try.prog th.j F E w) (Idl.q (idl_hg Try.prog th.j F E w) (Idl.rg (idl_hg Try.prog th.j F E w) [0,1] rfl ?_)))
  iterate 2 (apply Idl.value (idl_hg Try.prog th.j F E w) rfl rfl (by first | decide | exact base_kind _ | exact baseD_kind _ | assumption); (focus (intro w; go_simp; (try w_num); first | done | rfl)); (focus (intro w; simp [go_sem, *])); walk_nrm)
  refine Idl.re (idl_hg Try.prog th.j F E w) (Idl.cf (idl_hg Try.prog th.j F E w) rfl (Idl.q (idl_hg Try.prog th.j F E w) (Idl.rg (idl_hg Try.prog th.j F E w) [0,1] rfl ?_)))
  iterate 2 (apply Idl.value (idl_hg Try.prog th.j F E w) rfl rfl (by first | decide | exact base_kind _ | exact baseD_kind _ | assumption); (focus (intro w; go_simp; (try w_num); first | done | rfl)); (focus (intro w; simp [go_sem, *])); walk_nrm)
  refine Idl.re (idl_hg Try.prog th.j F E w) (Idl.cf (idl_hg Try.prog th.j F E w) rfl (Idl.q (idl_hg Try.prog th.j F E w) (Idl.rg (idl_hg Try.prog th.j F E w) [0,1] rfl ?_)))
  iterate 2 (apply Idl.value (idl_hg Try.prog th.j F E w) rfl rfl (by first | decide | exact base_kind _ | exact baseD_kind _ | assumption); (focus (intro w; go_simp; (try w_num); first | done | rfl)); (focus (intro w; simp [go_sem, *])); walk_nrm)
  refine Idl.re (idl_hg Try.prog th.j F E w) (Idl.cf (idl_hg Try.prog th.j F E w) rfl (Idl.q (idl_hg Try.prog th.j F E w) (Idl.rg (idl_hg Try.prog th.j F E w) [0,1] rfl ?_)))
  iterate 2 (apply Idl.value (idl_hg Try.prog th.j F E w) rfl rfl (by first | decide | exact base_kind _ | exact baseD_kind _ | assumption); (focus (intro w; go_simp; (try w_num); first | done | rfl)); (focus (intro w; simp [go_sem, *])); walk_nrm)
  refine Idl.re (idl_hg Try.prog th.j F E w) (Idl.cf (idl_hg Try.prog th.j F E w) rfl (Idl.q (idl_hg Try.prog th.j F E w) (Idl.rg (idl_hg Try.prog th.j F E w) [0,1] rfl ?_)))
  iterate 2 (apply Idl.value (idl_hg Try.prog th.j F E w) rfl rfl (by first | decide | exact base_kind _ | exact baseD_kind _ | assumption); (focus (intro w; go_simp; (try w_num); first | done | rfl)); (focus (intro w; simp [go_sem, *])); walk_nrm)
  refine Idl.re (idl_hg Try.prog th.j F E w) (Idl.ct (idl_hg Try.prog th.j F E w) rfl (Idl.q (idl_hg Try.prog th.j F E w) ?_))
  simp only [xdR10,dR10,dH,dB,Try.f42,Option.getD_some]
  refine Idl.rg (idl_hg Try.prog th.j F E w) [0,1,2] rfl ?_
  apply Idl.value (idl_hg Try.prog th.j F E w) rfl rfl (by first | decide | exact base_kind _ | exact baseD_kind _ | assumption)
  focus (intro w; go_simp; (try w_num); first | done | rfl)
  focus (intro w; simp [go_sem, *])
  walk_nrm
  refine Idl.callE (fn:=Try.f37) (vs:=#[.pointer (some ⟨th.gb,0,none⟩)]) (idl_hg Try.prog th.j F E w) rfl rfl (by k_ne) rfl Try.func37 rfl rfl (by simp [Act.eval]) ?_
  refine key1.out ?_
  change HGn Try.prog th.j F E w 100 _
  walk_nrm
  apply Idl.value (idl_hg Try.prog th.j F E w) rfl rfl (by first | decide | exact base_kind _ | exact baseD_kind _ | assumption)
  focus (intro w; go_simp; (try w_num); first | done | rfl)
  focus (intro w; simp [go_sem, *])
  walk_nrm
  refine Idl.re (idl_hg Try.prog th.j F E w) (Idl.q (idl_hg Try.prog th.j F E w) ?_)
  simp only [xdR11,dR11,dH,dB,Try.f42,Option.getD_some]
  refine Idl.rg (idl_hg Try.prog th.j F E w) [0,1,2,3,4,5,6,7,8] rfl ?_
  apply Idl.value (idl_hg Try.prog th.j F E w) rfl rfl (by first | decide | exact base_kind _ | exact baseD_kind _ | assumption)
  focus (intro w; go_simp; (try w_num); first | done | rfl)
  focus (intro w; simp [go_sem, *])
  walk_nrm
  refine Idl.callE (fn:=Try.f31) (vs:=#[.pointer (some ⟨th.gb,0,none⟩)]) (idl_hg Try.prog th.j F E w) rfl rfl (by k_ne) rfl Try.func31 rfl rfl (by simp [Act.eval]) ?_
  refine key2.out (fun E1 w1 k1 T1 g1 M1=>?_)
  replace k1:=Lib.hid k1
  replace T1:=Lib.hid T1
  replace g1:=Lib.hid g1
  replace M1:=Lib.hid M1
  clear key1 key2
  change HGn Try.prog th.j F E1 w1 100 _
  walk_nrm
  iterate 7 (apply Idl.value (idl_hg Try.prog th.j F E1 w1) rfl rfl (by first | decide | exact base_kind _ | exact baseD_kind _ | assumption); (focus (intro w; go_simp; (try w_num); first | done | rfl)); (focus (intro w; simp [go_sem, *])); walk_nrm)
  refine Idl.re (idl_hg Try.prog th.j F E1 w1) ?_
  exact P3.out _ (by simp) (by simp) (by simp) (by simp) (by simp) (by simp) (by simp) E1 w1 k1.out T1.out g1.out M1.out
end
noncomputable def bB:Code:=Try.f78.body.getD .skip
noncomputable def bR0:Code:=match bB with | .seq x _=>x | _=>.skip
noncomputable def bL:Code:=match bB with | .seq _ (.block _ (.loop c))=>c | _=>.skip
noncomputable def bR1:Code:=match bL with | .seq (.seq x _) _=>x | _=>.skip
noncomputable def bIf:Code:=match bL with | .seq (.seq _ x) _=>x | _=>.skip
noncomputable def bR3:Code:=match bL with | .seq _ (.seq (.block _ x) _)=>x | _=>.skip
noncomputable def bR2:Code:=match bL with | .seq _ (.seq _ x)=>x | _=>.skip
noncomputable def ops3:Array Oper:=match bR3 with | .region _ o _=>o | _=>#[]
noncomputable def op42:Oper:=(ops3[10]?).getD default
theorem bB_parts:bB=.seq bR0 (.block 0 (.loop bL)):=by kernel_rfl
theorem bL_parts:bL=.seq (.seq bR1 bIf) (.seq (.block 1 bR3) bR2):=by kernel_rfl
noncomputable def hdB:List Item:=[.code bL,.inLoop bL,.inBlock 0]
noncomputable def hdB3:List Item:=[.inBlock 1,.code bR2,.inLoop bL,.inBlock 0]
noncomputable def xbIf:Code:=bIf
noncomputable def xbR2:Code:=bR2
noncomputable def xbR0:Code:=bR0
structure RegB (T:Array Value) (gp:Value) (tbx tb bbx i:Nat):Prop where
  sz:T.size=26
  t0:T[0]?=some gp
  t1:T[1]?=some (.pointer (some ⟨tbx,0,none⟩))
  t2:T[2]?=some (.pointer (some ⟨tb,0,none⟩))
  t3:T[3]?=some (.pointer (some ⟨bbx,0,none⟩))
  t5:T[5]?=some (.int .i64 (i:Int))
theorem RegB.up {T T':Array Value} {gp:Value} {tbx tb bbx i:Nat} (R:RegB T gp tbx tb bbx i) (hs:T'.size=26) (h:∀ j,j < 6→T'[j]?=T[j]?):RegB T' gp tbx tb bbx i :=
  ⟨hs,(h 0 (by decide)).trans R.t0,(h 1 (by decide)).trans R.t1,(h 2 (by decide)).trans R.t2,(h 3 (by decide)).trans R.t3,(h 5 (by decide)).trans R.t5⟩
theorem slots6 (f:Nat→Value) {l:List Value}:∀ j,j < 6→(List.toArray (f 0 :: f 1 :: f 2 :: f 3 :: f 4 :: f 5 :: l))[j]?=some (f j)
  | 0,_ | 1,_ | 2,_ | 3,_ | 4,_ | 5,_=>rfl
  | n+6,h=>absurd h (by omega)
theorem bR1_wp {T:Array Value} {x:World} {gp:Value} {tbx tb bbx i t ba bo nn cp len cap:Nat} {A:Option Addr} {Q:Exit→Act→World→Prop} (R:RegB T gp tbx tb bbx i) (k1:x.cell? ⟨tbx,0,none⟩=some (.slice (some ⟨ba,bo,none⟩) nn cp)) (k2:x.cell? ⟨tb,0,none⟩=some (.int .i64 (t:Int))) (k3:x.cell? ⟨ba,bo+t,none⟩=some (.slice A len cap)) (ht:t < nn)
    (hQ:∀ T',T'.size=26→(∀ j,j < 6→T'[j]?=T[j]?)→T'[12]?=some (.bool (decide ((i:Int) < (len:Int))))→Q .normal ⟨T',[]⟩ x):bR1.wp Try.prog Q ⟨T,[]⟩ x:=by
  obtain ⟨sz,t0,t1,t2,t3,t5⟩:=R
  obtain ⟨f,rfl,fz⟩:=arrfv T sz
  have e0:=fz 0 _ t0
  have e1:=fz 1 _ t1
  have e2:=fz 2 _ t2
  have e3:=fz 3 _ t3
  have e5:=fz 5 _ t5
  have hj:∀ j,j < 6→(List.map f (List.range 26)).toArray[j]?=some (f j):=fun j hj=>arrf_get f (by omega)
  have q1:(0:Int)≤(t:Int):=by omega
  have q2:(t:Int) < (nn:Int):=by omega
  clear fz t0 t1 t2 t3 t5 sz ht
  replace hj:=Lib.hid hj
  replace hQ:=Lib.hid hQ
  simp only [List.range,List.range.loop,List.map_cons,List.map_nil,e0,e1,e2,e3,e5]
  simp only [bR1,bL,bB,Try.f78,Option.getD_some]
  go_wp2_with fail
  refine hQ.out _ (by simp) (fun j hj'=>?_) (by simp)
  rw [hj.out j hj',← e0,← e1,← e2,← e3,← e5]
  exact slots6 f j hj'
section
variable {j:Nat} {F:Machine→Trace→Prop} {E:Env} {w:World} {T:Array Value} {gp:Value} {tbx tb bbx bb i t ba bo nn cp len cap la lo:Nat} {cs:List Frame} {c:Int}
theorem bd_r3 (R:RegB T gp tbx tb bbx i) (k1:w.cell? ⟨tbx,0,none⟩=some (.slice (some ⟨ba,bo,none⟩) nn cp)) (k2:w.cell? ⟨tb,0,none⟩=some (.int .i64 (t:Int))) (k3:w.cell? ⟨ba,bo+t,none⟩=some (.slice (some ⟨la,lo,none⟩) len cap)) (k4:w.cell? ⟨la,lo+i,none⟩=some (.int .i64 c)) (k5:w.cell? ⟨bbx,0,none⟩=some (.pointer (some ⟨bb,0,none⟩)))
    (W1:E.W tbx=false) (W2:E.W tb=false) (W3:E.W ba=false) (W4:E.W la=false) (W5:E.W bbx=false) (ht:t < nn) (hi:i < len)
    (hc:∀ T' w',AtE j E w E w'→RegB T' gp tbx tb bbx i→HGn Try.prog j F E w' 200 (entry 42 Try.f42 #[gp,.int .i64 (t:Int),.int .i64 c,.pointer (some ⟨bb,0,none⟩)] ((base 78).at ⟨T',[]⟩ (.inRegion ops3 [10] :: hdB3) :: cs))) :
    HG Try.prog j F E (G ((base 78).at ⟨T,[]⟩ (.code bR3 :: hdB3)) cs) w:=by
  have hcell:∀ {x y:World} {a:Addr} {v:Value},x.cell? a=some v→E.W a.block=false→Aw E.W x y→y.cell? a=some v:=fun {x y a v} h1 h2 h3=>(World.cell?_of_block (h3.heap _ h2)).trans h1
  have hSR:∀ x y:World,(x.cell? ⟨tbx,0,none⟩=some (.slice (some ⟨ba,bo,none⟩) nn cp)∧x.cell? ⟨tb,0,none⟩=some (.int .i64 (t:Int))∧x.cell? ⟨ba,bo+t,none⟩=some (.slice (some ⟨la,lo,none⟩) len cap)∧x.cell? ⟨la,lo+i,none⟩=some (.int .i64 c)∧x.cell? ⟨bbx,0,none⟩=some (.pointer (some ⟨bb,0,none⟩)))→Aw E.W x y →
      (y.cell? ⟨tbx,0,none⟩=some (.slice (some ⟨ba,bo,none⟩) nn cp)∧y.cell? ⟨tb,0,none⟩=some (.int .i64 (t:Int))∧y.cell? ⟨ba,bo+t,none⟩=some (.slice (some ⟨la,lo,none⟩) len cap)∧y.cell? ⟨la,lo+i,none⟩=some (.int .i64 c)∧y.cell? ⟨bbx,0,none⟩=some (.pointer (some ⟨bb,0,none⟩))) :=
    fun x y ⟨a1,a2,a3,a4,a5⟩ hA=>⟨hcell a1 W1 hA,hcell a2 W2 hA,hcell a3 W3 hA,hcell a4 W4 hA,hcell a5 W5 hA⟩
  have TT:Terms (Aw E.W) E.D:=terms_aw _ _ _ _
  have q1:(0:Int)≤(t:Int):=by omega
  have q2:(t:Int) < (nn:Int):=by omega
  have q3:(0:Int)≤(i:Int):=by omega
  have q4:(i:Int) < (len:Int):=by omega
  obtain ⟨sz,t0,t1,t2,t3,t5⟩:=R
  obtain ⟨f,hf,fz⟩:=arrfv T sz
  have e0:=fz 0 _ t0
  have e1:=fz 1 _ t1
  have e2:=fz 2 _ t2
  have e3:=fz 3 _ t3
  have e5:=fz 5 _ t5
  clear fz t0 t1 t2 t3 t5 sz
  rw [hf]
  clear hf
  obtain ⟨aF,haF⟩:∃ aF:Act,aF=⟨#[gp,.pointer (some ⟨tbx,0,none⟩),.pointer (some ⟨tb,0,none⟩),.pointer (some ⟨bbx,0,none⟩),f 4,.int .i64 (i:Int),f 6,f 7,f 8,f 9,f 10,f 11,f 12,f 13,f 14,gp,.int .i64 (t:Int),.slice (some ⟨ba,bo,none⟩) nn cp,.int .i64 (t:Int),.pointer (some ⟨ba,bo+t,none⟩),.slice (some ⟨la,lo,none⟩) len cap,.int .i64 (i:Int),.pointer (some ⟨la,lo+i,none⟩),.int .i64 c,.pointer (some ⟨bb,0,none⟩),f 25],[]⟩:=⟨_,rfl⟩
  have hS0:w.cell? ⟨tbx,0,none⟩=some (.slice (some ⟨ba,bo,none⟩) nn cp)∧w.cell? ⟨tb,0,none⟩=some (.int .i64 (t:Int))∧w.cell? ⟨ba,bo+t,none⟩=some (.slice (some ⟨la,lo,none⟩) len cap)∧w.cell? ⟨la,lo+i,none⟩=some (.int .i64 c)∧w.cell? ⟨bbx,0,none⟩=some (.pointer (some ⟨bb,0,none⟩)):=⟨k1,k2,k3,k4,k5⟩
  clear k1 k2 k3 k4 k5 hcell
  replace hc:=Lib.hid hc
  generalize hdB3=KB at hc ⊢
  rw [show bR3=.region 3 ops3 true from by kernel_rfl]
  simp only [List.range,List.range.loop,List.map_cons,List.map_nil,e0,e1,e2,e3,e5]
  refine HG.looksTo (n:=10) (o:=op42) (aF:=aF) (S:=fun x=>x.cell? ⟨tbx,0,none⟩=some (.slice (some ⟨ba,bo,none⟩) nn cp)∧x.cell? ⟨tb,0,none⟩=some (.int .i64 (t:Int))∧x.cell? ⟨ba,bo+t,none⟩=some (.slice (some ⟨la,lo,none⟩) len cap)∧x.cell? ⟨la,lo+i,none⟩=some (.int .i64 c)∧x.cell? ⟨bbx,0,none⟩=some (.pointer (some ⟨bb,0,none⟩))) (by kernel_rfl) (by rfl) (by kernel_rfl) (by kernel_rfl) (fun w₁ hA=>?_) (fun w' hA=>?_)
  · have hS1:=hSR w w₁ hS0 hA
    have hQR:∀ (a:Act) (x y:World),(Exit.normal=Exit.normal∧a=aF∧Aw E.W w x)→Aw E.W x y→(Exit.normal=Exit.normal∧a=aF∧Aw E.W w y):=fun a x y ⟨q1,q2,q3⟩ hxy=>⟨q1,q2,Aw.trans _ _ _ q3 hxy⟩
    have hA1:=aw_draw hA (w₁.drawn+1)
    replace hA1:=Lib.hid hA1
    replace haF:=Lib.hid haF
    clear hA hc hS0
    simp only [ops3,bR3,bL,bB,Try.f78,Option.getD_some,nopOf,List.setIfInBounds_toArray,List.set_cons_zero,List.set_cons_succ,List.size_toArray,List.length_cons,List.length_nil,Nat.zero_add,Nat.reduceAdd]
    refine anyCH_take TT hSR hQR (i:=0) (v:=gp) rfl (by kernel_rfl) (by kernel_rfl) (by kernel_rfl) (yields_pure (by rfl) (fun w=>by go_simp) (fun w=>by simp [go_sem, *])) hS1 ?_
    simp only [Act.put,List.setIfInBounds_toArray,List.set_cons_zero,List.set_cons_succ,List.getElem_toArray,List.getElem_cons_succ,List.getElem_cons_zero]
    refine anyCH_take TT hSR hQR (i:=1) (v:=.int .i64 (t:Int)) rfl (by kernel_rfl) (by kernel_rfl) (by kernel_rfl) (yields_ld (ad:=⟨tb,0,none⟩) (fun w hs=>hs.2.1) W2 (by rfl) (fun w hc=>⟨by go_simp,fun e he=>by (have he':=he; simp [go_sem,hc] at he'; exact he')⟩)) hS1 ?_
    simp only [Act.put,List.setIfInBounds_toArray,List.set_cons_zero,List.set_cons_succ,List.getElem_toArray,List.getElem_cons_succ,List.getElem_cons_zero]
    refine anyCH_take TT hSR hQR (i:=2) (v:=.slice (some ⟨ba,bo,none⟩) nn cp) rfl (by kernel_rfl) (by kernel_rfl) (by kernel_rfl) (yields_ld (ad:=⟨tbx,0,none⟩) (fun w hs=>hs.1) W1 (by rfl) (fun w hc=>⟨by go_simp,fun e he=>by (have he':=he; simp [go_sem,hc] at he'; exact he')⟩)) hS1 ?_
    simp only [Act.put,List.setIfInBounds_toArray,List.set_cons_zero,List.set_cons_succ,List.getElem_toArray,List.getElem_cons_succ,List.getElem_cons_zero]
    refine anyCH_take TT hSR hQR (i:=3) (v:=.int .i64 (t:Int)) rfl (by kernel_rfl) (by kernel_rfl) (by kernel_rfl) (yields_ld (ad:=⟨tb,0,none⟩) (fun w hs=>hs.2.1) W2 (by rfl) (fun w hc=>⟨by go_simp,fun e he=>by (have he':=he; simp [go_sem,hc] at he'; exact he')⟩)) hS1 ?_
    simp only [Act.put,List.setIfInBounds_toArray,List.set_cons_zero,List.set_cons_succ,List.getElem_toArray,List.getElem_cons_succ,List.getElem_cons_zero]
    refine anyCH_take TT hSR hQR (i:=4) (v:=.pointer (some ⟨ba,bo+t,none⟩)) rfl (by kernel_rfl) (by kernel_rfl) (by kernel_rfl) (yields_pure (by rfl) (fun w=>by go_simp) (fun w=>by simp [go_sem, *])) hS1 ?_
    simp only [Act.put,List.setIfInBounds_toArray,List.set_cons_zero,List.set_cons_succ,List.getElem_toArray,List.getElem_cons_succ,List.getElem_cons_zero]
    refine anyCH_take TT hSR hQR (i:=5) (v:=.slice (some ⟨la,lo,none⟩) len cap) rfl (by kernel_rfl) (by kernel_rfl) (by kernel_rfl) (yields_ld (ad:=⟨ba,bo+t,none⟩) (fun w hs=>hs.2.2.1) W3 (by rfl) (fun w hc=>⟨by go_simp,fun e he=>by (have he':=he; simp [go_sem,hc] at he'; exact he')⟩)) hS1 ?_
    simp only [Act.put,List.setIfInBounds_toArray,List.set_cons_zero,List.set_cons_succ,List.getElem_toArray,List.getElem_cons_succ,List.getElem_cons_zero]
    refine anyCH_take TT hSR hQR (i:=6) (v:=.int .i64 (i:Int)) rfl (by kernel_rfl) (by kernel_rfl) (by kernel_rfl) (yields_pure (by rfl) (fun w=>by go_simp) (fun w=>by simp [go_sem, *])) hS1 ?_
    simp only [Act.put,List.setIfInBounds_toArray,List.set_cons_zero,List.set_cons_succ,List.getElem_toArray,List.getElem_cons_succ,List.getElem_cons_zero]
    refine anyCH_take TT hSR hQR (i:=7) (v:=.pointer (some ⟨la,lo+i,none⟩)) rfl (by kernel_rfl) (by kernel_rfl) (by kernel_rfl) (yields_pure (by rfl) (fun w=>by go_simp) (fun w=>by simp [go_sem, *])) hS1 ?_
    simp only [Act.put,List.setIfInBounds_toArray,List.set_cons_zero,List.set_cons_succ,List.getElem_toArray,List.getElem_cons_succ,List.getElem_cons_zero]
    refine anyCH_take TT hSR hQR (i:=8) (v:=.int .i64 c) rfl (by kernel_rfl) (by kernel_rfl) (by kernel_rfl) (yields_ld (ad:=⟨la,lo+i,none⟩) (fun w hs=>hs.2.2.2.1) W4 (by rfl) (fun w hc=>⟨by go_simp,fun e he=>by (have he':=he; simp [go_sem,hc] at he'; exact he')⟩)) hS1 ?_
    simp only [Act.put,List.setIfInBounds_toArray,List.set_cons_zero,List.set_cons_succ,List.getElem_toArray,List.getElem_cons_succ,List.getElem_cons_zero]
    refine anyCH_take TT hSR hQR (i:=9) (v:=.pointer (some ⟨bb,0,none⟩)) rfl (by kernel_rfl) (by kernel_rfl) (by kernel_rfl) (yields_ld (ad:=⟨bbx,0,none⟩) (fun w hs=>hs.2.2.2.2) W5 (by rfl) (fun w hc=>⟨by go_simp,fun e he=>by (have he':=he; simp [go_sem,hc] at he'; exact he')⟩)) hS1 ?_
    simp only [Act.put,List.setIfInBounds_toArray,List.set_cons_zero,List.set_cons_succ,List.getElem_toArray,List.getElem_cons_succ,List.getElem_cons_zero]
    refine anyCH_take TT hSR hQR (i:=10) (v:=undef) rfl (by kernel_rfl) (by kernel_rfl) (by kernel_rfl) (yields_pure (by rfl) (fun w=>by go_simp) (fun w=>by simp [go_sem])) hS1 ?_
    simp only [Act.put,List.getElem_toArray,List.getElem_cons_succ,List.getElem_cons_zero]
    refine anyCH_done (by kernel_rfl) ⟨rfl,haF.out.symm,hA1.out⟩ _
  · subst haF
    change HGn Try.prog j F E w' 300 _
    refine Idl.callE (fn:=Try.f42) (vs:=#[gp,.int .i64 (t:Int),.int .i64 c,.pointer (some ⟨bb,0,none⟩)]) (idl_hg Try.prog j F E w') (o:=op42) (by kernel_rfl) rfl (by k_ne) rfl Try.func42 rfl rfl (by simp [Act.eval]) ?_
    exact hc.out _ w' ⟨.refl j E,hA⟩ ⟨by simp,by simp,by simp,by simp,by simp,by simp⟩
theorem bd_back (R:RegB T gp tbx tb bbx i) (hi:i≤1000000000000) (hc:∀ T',RegB T' gp tbx tb bbx (i+1)→HG Try.prog j F E (G ((base 78).at ⟨T',[]⟩ hdB) cs) w) :
    HG Try.prog j F E (G ((base 78).at ((⟨T,[]⟩:Act).put ((ops3[10]?).bind (·.dst)) (.tuple #[])) (.inRegion ops3 [] :: hdB3)) cs) w:=by
  have w3:IntKind.i64.wrap ((i:Int)+1)=((i+1:Nat):Int):=by rw [IntKind.wrap_i64]; omega
  rw [show (ops3[10]?).bind (·.dst)=some 25 by kernel_rfl]
  obtain ⟨sz,t0,t1,t2,t3,t5⟩:=R
  obtain ⟨f,hf,fz⟩:=arrfv T sz
  have e0:=fz 0 _ t0
  have e1:=fz 1 _ t1
  have e2:=fz 2 _ t2
  have e3:=fz 3 _ t3
  have e5:=fz 5 _ t5
  clear fz t0 t1 t2 t3 t5 sz hi
  rw [hf]
  clear hf
  have hc':∀ T':Array Value,T'.size=26→T'[0]?=some gp→T'[1]?=some (.pointer (some ⟨tbx,0,none⟩))→T'[2]?=some (.pointer (some ⟨tb,0,none⟩))→T'[3]?=some (.pointer (some ⟨bbx,0,none⟩))→T'[5]?=some (.int .i64 ((i+1:Nat):Int))→HG Try.prog j F E (G ((base 78).at ⟨T',[]⟩ hdB) cs) w:=fun T' a1 a2 a3 a4 a5 a6=>hc T' ⟨a1,a2,a3,a4,a5,a6⟩
  clear hc
  replace hc':=Lib.hid hc'
  change HGn Try.prog j F E w 100 _
  refine Idl.step (idl_hg Try.prog j F E w) _ _ _ rfl (fun _=>stepG_region_end) ?_
  unfold hdB3
  unfold hdB at hc'
  generalize bL=L4 at hc' ⊢
  rw [show bR2=xbR2 from rfl]
  simp only [Act.put,xbR2,bR2,bL,bB,Try.f78,Option.getD_some,List.range,List.range.loop,List.map_cons,List.map_nil,e0,e1,e2,e3,e5,List.setIfInBounds_toArray,List.set_cons_zero,List.set_cons_succ]
  refine Idl.ib (idl_hg Try.prog j F E w) (Idl.rg (idl_hg Try.prog j F E w) [0,1,2] rfl ?_)
  iterate 3 (apply Idl.value (idl_hg Try.prog j F E w) rfl rfl (by first | decide | exact base_kind _ | exact baseD_kind _ | assumption); (focus (intro w; go_simp; (try w_num); first | done | rfl)); (focus (intro w; simp [go_sem, *])); walk_nrm)
  refine Idl.re (idl_hg Try.prog j F E w) (Idl.il (idl_hg Try.prog j F E w) ?_)
  try simp only [w3]
  exact hc'.out _ (by simp) (by simp) (by simp) (by simp) (by simp) (by simp)
theorem bd_head {A:Option Addr} (R:RegB T gp tbx tb bbx i) (k1:w.cell? ⟨tbx,0,none⟩=some (.slice (some ⟨ba,bo,none⟩) nn cp)) (k2:w.cell? ⟨tb,0,none⟩=some (.int .i64 (t:Int))) (k3:w.cell? ⟨ba,bo+t,none⟩=some (.slice A len cap)) (h1:E.H tbx=none) (h2:E.H tb=none) (h3:E.H ba=none) (ht:t < nn)
    (hgo:i < len→∀ E1 w1 T',Still j E w E1 w1→RegB T' gp tbx tb bbx i→HG Try.prog j F E1 (G ((base 78).at ⟨T',[]⟩ (.code bR3 :: hdB3)) cs) w1)
    (hend:len≤i→∀ E1 w1 T',Still j E w E1 w1→T'.size=26→HGn Try.prog j F E1 w1 100 (G ((base 78).at ⟨T',[]⟩ []) cs)) :
    HG Try.prog j F E (G ((base 78).at ⟨T,[]⟩ hdB) cs) w:=by
  unfold hdB
  change HGn Try.prog j F E w 100 _
  have e:([.code bL,.inLoop bL,.inBlock 0]:List Item)=[.code (.seq (.seq bR1 bIf) (.seq (.block 1 bR3) bR2)),.inLoop bL,.inBlock 0]:=congrArg (fun z=>[Item.code z,.inLoop bL,.inBlock 0]) bL_parts
  rw [e]
  clear e
  refine Idl.step (idl_hg Try.prog j F E w) _ _ _ rfl (fun _=>stepG_seq) ?_
  refine Idl.step (idl_hg Try.prog j F E w) _ _ _ rfl (fun _=>stepG_seq) ?_
  refine HG.quietN (closed_none _) (fun T'=>T'.size=26∧(∀ j,j < 6→T'[j]?=T[j]?)∧T'[12]?=some (.bool (decide ((i:Int) < (len:Int))))) (by kernel_rfl) (by rfl) (fun x hx=>bR1_wp R ((World.cell?_of_block (a:=⟨tbx,0,none⟩) (hx _ h1)).trans k1) ((World.cell?_of_block (a:=⟨tb,0,none⟩) (hx _ h2)).trans k2) ((World.cell?_of_block (a:=⟨ba,bo+t,none⟩) (hx _ h3)).trans k3) ht (fun T' a1 a2 a3=>⟨rfl,rfl,fun _ _=>rfl,a1,a2,a3⟩)) (fun E1 w1 T1 S1 hR=>?_)
  obtain ⟨s1,o1,r12⟩:=hR
  have R1:=R.up s1 o1
  by_cases hlt:i < len
  · rw [decide_eq_true (show (i:Int) < (len:Int) by omega)] at r12
    have hg:=fun T' (h:RegB T' gp tbx tb bbx i)=>hgo hlt E1 w1 T' S1 h
    obtain ⟨sz,t0,t1,t2,t3,t5⟩:=R1
    obtain ⟨f,hf,fz⟩:=arrfv T1 sz
    have e0:=fz 0 _ t0
    have e1:=fz 1 _ t1
    have e2:=fz 2 _ t2
    have e3:=fz 3 _ t3
    have e5:=fz 5 _ t5
    have e12:=fz 12 _ r12
    have hg':∀ T':Array Value,T'.size=26→T'[0]?=some gp→T'[1]?=some (.pointer (some ⟨tbx,0,none⟩))→T'[2]?=some (.pointer (some ⟨tb,0,none⟩))→T'[3]?=some (.pointer (some ⟨bbx,0,none⟩))→T'[5]?=some (.int .i64 (i:Int))→HG Try.prog j F E1 (G ((base 78).at ⟨T',[]⟩ (.code bR3 :: hdB3)) cs) w1:=fun T' a1 a2 a3 a4 a5 a6=>hg T' ⟨a1,a2,a3,a4,a5,a6⟩
    clear fz t0 t1 t2 t3 t5 sz hg hgo hend k1 k2 k3 h1 h2 h3 ht R o1 s1 hlt r12
    replace hg':=Lib.hid hg'
    replace S1:=Lib.hid S1
    rw [hf]
    clear hf
    unfold hdB3 at hg'
    change HGn Try.prog j F E1 w1 100 _
    generalize bR3=L3 at hg' ⊢
    generalize bR2=L2 at hg' ⊢
    generalize bL=L4 at hg' ⊢
    rw [show bIf=xbIf from rfl]
    simp only [xbIf,bIf,bL,bB,Try.f78,Option.getD_some,List.range,List.range.loop,List.map_cons,List.map_nil,e0,e1,e2,e3,e5,e12]
    refine Idl.ct (idl_hg Try.prog j F E1 w1) rfl (Idl.sk (idl_hg Try.prog j F E1 w1) (Idl.q (idl_hg Try.prog j F E1 w1) (Idl.bl (idl_hg Try.prog j F E1 w1) ?_)))
    exact hg'.out _ (by simp) (by simp) (by simp) (by simp) (by simp) (by simp)
  · rw [decide_eq_false (show ¬ (i:Int) < (len:Int) by omega)] at r12
    have hg:=fun T' h=>hend (by omega) E1 w1 T' S1 h
    obtain ⟨f,hf,fz⟩:=arrfv T1 s1
    have e12:=fz 12 _ r12
    clear fz hgo hend k1 k2 k3 h1 h2 h3 ht R R1 o1 s1 hlt r12
    replace hg:=Lib.hid hg
    replace S1:=Lib.hid S1
    rw [hf]
    clear hf
    change HGn Try.prog j F E1 w1 200 _
    generalize bR3=L3 at ⊢
    generalize bR2=L2 at ⊢
    generalize bL=L4 at ⊢
    rw [show bIf=xbIf from rfl]
    simp only [xbIf,bIf,bL,bB,Try.f78,Option.getD_some,List.range,List.range.loop,List.map_cons,List.map_nil,e12]
    refine Idl.cond (idl_hg Try.prog j F E1 w1) false rfl ?_
    simp only [if_true,if_false,Bool.false_eq_true,↓reduceIte]
    refine Idl.exit (idl_hg Try.prog j F E1 w1) rfl ?_
    exact hg.out _ (by simp)
end
end Go.Proofs.Ytimlbbleblijnaa.Co
