/- Lemmas for the laws of this seat, laid together of PHb0, PHb, PHc0, PHc, PHe0, PHe. -/
import Derived.Test.YtimlbbleblijnaaW18
import Derived.Conc.CompanyDraw

open Go.ConcR.Gen (base_kind baseD_kind)
set_option linter.unusedVariables false
set_option linter.unusedSimpArgs false
set_option maxRecDepth 100000
set_option maxHeartbeats 4000000
namespace Go.Proofs.Ytimlbbleblijnaa.Co
open Go Go.Conc
structure WSet0 (x x':World) (a:Addr) (n:Int):Prop where
  old:∀ b,b≠a.block→x'.heap[b]?=x.heap[b]?
  new:∀ c t,x.heap[a.block]?=some (.cells c t)→x'.heap[a.block]?=some (.cells (c.setIfInBounds a.off (.int .i64 n)) t)
theorem WSet0.refl {x:World} {b o:Nat} {v:Int} (h:WordAt x ⟨b,o,none⟩ v):WSet0 x x ⟨b,o,none⟩ v:=by
  refine ⟨fun _ _=>rfl,fun c t hc=>?_⟩
  obtain ⟨_,c',t',h1,h2⟩:=h
  dsimp only at h1 h2 hc ⊢
  rw [h1] at hc
  simp only [Option.some.injEq,Obj.cells.injEq] at hc
  obtain ⟨rfl,rfl,_⟩:=hc
  rw [h1]
  have hl:=(Array.getElem?_eq_some_iff.1 h2).1
  have e:c'.setIfInBounds o (.int .i64 v)=c':=by
    apply Array.ext
    · simp
    · intro i h3 h4
      rw [Array.getElem_setIfInBounds]
      split
      · rename_i e
        subst e
        exact (Array.getElem?_eq_some_iff.1 h2).2.symm
      · rfl
  rw [e]
theorem WSet0.set {x:World} {b o:Nat} {v n:Int} (h:WordAt x ⟨b,o,none⟩ v):WSet0 x (x.setCell ⟨b,o,none⟩ (.int .i64 n)) ⟨b,o,none⟩ n:=by
  refine ⟨fun c hc=>heap_setCell_ne (a:=⟨b,o,none⟩) (fun e=>hc e.symm),fun c t hc=>?_⟩
  exact heap_set (a:=⟨b,o,none⟩) (w:=x) rfl hc
structure WSet (E:Env) (w:World) (E1:Env) (w1:World) (a:Addr) (n:Int):Prop where
  H:E1.H=E.H
  old:∀ b,E.H b=none→b≠a.block→w1.heap[b]?=w.heap[b]?
  new:∀ c t,w.heap[a.block]?=some (.cells c t)→w1.heap[a.block]?=some (.cells (c.setIfInBounds a.off (.int .i64 n)) t)
theorem WSet0.up {x x' w w':World} {E E1:Env} {b o:Nat} {n:Int} (h:WSet0 x x' ⟨b,o,none⟩ n) (hH:E.H b=none) (hE:E1.H=E.H) (hx:∀ b,E.H b=none→x.heap[b]?=w.heap[b]?) (hx':∀ b,E.H b=none→w'.heap[b]?=x'.heap[b]?):WSet E w E1 w' ⟨b,o,none⟩ n:=by
  refine ⟨hE,fun c hc hne=>?_,fun c t hc=>?_⟩
  · rw [hx' c hc,h.old c hne,hx c hc]
  · have h1:=h.new c t ((hx b hH).trans hc)
    exact (hx' b hH).trans h1
theorem WSet.stands {E E1:Env} {w w1:World} {a:Addr} {n:Int} (h:WSet E w E1 w1 a n) {b:Nat} {o:Obj} (h1:E.H b=none) (h2:w.heap[b]?=some o) (hne:b≠a.block):E1.H b=none∧w1.heap[b]?=some o:=⟨by rw [h.H]; exact h1,by rw [h.old b h1 hne]; exact h2⟩
theorem WSet.word {E E1:Env} {w w1:World} {b o:Nat} {v n:Int} (h:WSet E w E1 w1 ⟨b,o,none⟩ n) (hW:WordAt w ⟨b,o,none⟩ v):WordAt w1 ⟨b,o,none⟩ n:=by
  obtain ⟨h0,c,t,h1,h2⟩:=hW
  refine ⟨rfl,_,t,h.new c t h1,?_⟩
  have hl:=(Array.getElem?_eq_some_iff.1 h2).1
  dsimp only at hl ⊢
  rw [Array.getElem?_setIfInBounds_self_of_lt hl]
noncomputable def wloadB:Code:=Try.f70.body.getD .skip
noncomputable def wload0:Code:=match wloadB with | .seq x _=>x | _=>.skip
noncomputable def wload1:Code:=match wloadB with | .seq _ (.seq x _)=>x | _=>.skip
noncomputable def wload2:Code:=match wloadB with | .seq _ (.seq _ (.seq x _))=>x | _=>.skip
theorem wload_parts:wloadB=.seq wload0 (.seq wload1 (.seq wload2 .ret)):=by kernel_rfl
noncomputable def xwload0:Code:=wload0
noncomputable def xwload1:Code:=wload1
theorem wload2_wp {T:Array Value} {x:World} {b o:Nat} {v:Int} {Q:Exit→Act→World→Prop} (hs:T.size=11) (h0:T[0]?=some (.pointer (some ⟨b,o,none⟩))) (hW:WordAt x ⟨b,o,none⟩ v)
    (hQ:∀ T',T'.size=11→T'[4]?=some (.int .i64 v)→Q .normal ⟨T',[]⟩ x):wload2.wp Try.prog Q ⟨T,[]⟩ x:=by
  obtain ⟨f,rfl,fz⟩:=arrfv T hs
  have e0:=fz 0 _ h0
  clear fz h0
  have hcl:=aload_any (x:=x) (b:=b) (o:=o) hW
  have hc:=hW.cell
  have hz:=hW.thaw
  simp only [List.range,List.range.loop,List.map_cons,List.map_nil,e0]
  simp only [wload2,wloadB,Try.f70,Option.getD_some]
  go_wp2_with fail
  refine hcl.mono ?_
  rintro _ _ ⟨rfl,rfl⟩
  go_wp2_with fail
  skip
  refine hQ _ (by simp) (by simp [w64])
section
variable {j:Nat} {F:Machine→Trace→Prop} {E:Env} {w:World} {b₀:Frame} {a₀:Act} {ops₀:Array Oper} {i₀:Nat} {rest₀:List Nat} {k₀:List Item} {cl:List Frame}
theorem wload_pre {wv gv : Value} (hc : ∀ T' ops i' rest' k', T'.size = 11 → T'[0]? = some wv → (ops[i']?).bind (·.dst) = some 6 → k' = [.code (.seq wload2 .ret)] → rest' = [] →
      HGn Try.prog j F E w 100 (entry 33 Try.f33 #[gv] ((base 70).at ⟨T',[]⟩ (.inRegion ops (i' :: rest') :: k') :: b₀.at a₀ (.inRegion ops₀ (i₀ :: rest₀) :: k₀) :: cl))) :
    HGn Try.prog j F E w 200 (entry 70 Try.f70 #[wv,gv] (b₀.at a₀ (.inRegion ops₀ (i₀ :: rest₀) :: k₀) :: cl)):=by
  unfold entry
  rw [show Try.f70.body.getD .skip=.seq xwload0 (.seq xwload1 (.seq wload2 .ret)) from wload_parts,show Try.f70.ntmps=11 from rfl]
  generalize hG:wload2=L at hc ⊢
  simp only [xwload0,xwload1,wload0,wload1,wloadB,Try.f70,Option.getD_some]
  walk_nrm
  refine Idl.q (idl_hg Try.prog j F E w) (Idl.rg (idl_hg Try.prog j F E w) [0] rfl ?_)
  apply Idl.value (idl_hg Try.prog j F E w) rfl rfl (by first | decide | exact base_kind _ | exact baseD_kind _ | assumption)
  focus (intro w; go_simp; (try w_num); first | done | rfl)
  focus (intro w; simp [go_sem, *])
  walk_nrm
  refine Idl.re (idl_hg Try.prog j F E w) (Idl.q (idl_hg Try.prog j F E w) (Idl.rg (idl_hg Try.prog j F E w) [0,1] rfl ?_))
  apply Idl.value (idl_hg Try.prog j F E w) rfl rfl (by first | decide | exact base_kind _ | exact baseD_kind _ | assumption)
  focus (intro w; go_simp; (try w_num); first | done | rfl)
  focus (intro w; simp [go_sem, *])
  walk_nrm
  refine Idl.callE (fn:=Try.f33) (vs:=#[gv]) (idl_hg Try.prog j F E w) rfl rfl (by k_ne) rfl Try.func33 rfl rfl (by simp [Act.eval]) ?_
  exact hc _ _ _ _ _ (by simp) (by simp) rfl rfl rfl
theorem wload_post {T':Array Value} {ops:Array Oper} {i' b o:Nat} {v:Int} (hs:T'.size=11) (h0:T'[0]?=some (.pointer (some ⟨b,o,none⟩))) (hd:(ops[i']?).bind (·.dst)=some 6) (hW:WordAt w ⟨b,o,none⟩ v) (hH:E.H b=none)
    (hc:∀ E2 w2,E.Eq j E2→Kept j none E w E2 w2→WSet E w E2 w2 ⟨b,o,none⟩ v→HG Try.prog j F E2 (G (b₀.at (a₀.put ((ops₀[i₀]?).bind (·.dst)) (.int .i64 v)) (.inRegion ops₀ rest₀ :: k₀)) cl) w2) :
    HGn Try.prog j F E w 200 (G ((base 70).at ((⟨T',[]⟩:Act).put ((ops[i']?).bind (·.dst)) (.tuple #[])) (.inRegion ops [] :: [.code (.seq wload2 .ret)])) (b₀.at a₀ (.inRegion ops₀ (i₀ :: rest₀) :: k₀) :: cl)):=by
  rw [hd]
  refine Idl.step (idl_hg Try.prog j F E w) _ _ _ rfl (fun _=>stepG_region_end) ?_
  refine Idl.step (idl_hg Try.prog j F E w) _ _ _ rfl (fun _=>stepG_seq) ?_
  refine HG.quietS (fun c=>c=b) (fun c e=>by rw [e]; exact hH) closed_atom (Q:=fun a' x x'=>a'.tmps.size=11∧a'.tmps[4]?=some (.int .i64 v)∧WSet0 x x' ⟨b,o,none⟩ v) (by kernel_rfl) (by rfl) rfl (fun x hxs hx=>?_) (fun E1 w' a' x x' hE hd' hxs hx hxs' hx' hK hB hSt hq=>?_)
  · refine wload2_wp (v:=v) (by simp [Act.put,hs]) (by simp [Act.put]; exact h0) (hW.same (hx b hH)) (fun T'' q1 q2=>⟨rfl,rfl,?_,q1,q2,?_⟩)
    · exact fun _ _ _=>rfl
    · exact WSet0.refl (hW.same (hx b hH))
  · obtain ⟨Ta,df⟩:=a'
    have hdf:df=[]:=hd'
    subst hdf
    obtain ⟨q1,q2,q3⟩:=hq
    change HGn Try.prog j F E1 w' 100 _
    dsimp only at q1 q2
    obtain ⟨f,rfl,fz⟩:=arrfv Ta q1
    have e4:=fz 4 _ q2
    refine Idl.step (idl_hg Try.prog j F E1 w') _ _ _ rfl (fun _=>stepG_ret') ?_
    refine Idl.leaveV (n:=1) (v:=.int .i64 v) (fn:=Try.f70) (idl_hg Try.prog j F E1 w') rfl rfl Try.func70 (fun w=>by simp [results,Try.f70,e4,go_sem]) (fun w=>by simp [results,Try.f70,e4,go_sem]) ?_
    exact hc E1 w' hE hK (q3.up hH (hE.H') hx hx')
end
section
variable {σ Λ:Type} {D:Prot σ Λ} {h rb:Nat} {home:Goroutine→Prop} {k:Int} {th:Th} {F:Machine→Trace→Prop} {E:Env} {w:World} {s:σ} {b₀:Frame} {a₀:Act} {ops₀:Array Oper} {i₀:Nat} {rest₀:List Nat} {k₀:List Item} {cl:List Frame}
theorem wload_go {m:Nat} {ℓ:Λ} {b o:Nat} (T:TKn h rb home k th E w) (g:GA w rb th false false (D.tal ℓ)) (M:D.M s E w) (O:OffAt th.gb th.box rb b₀ a₀ ops₀ i₀ rest₀ k₀ cl)
    (B:Back D h rb home th F E w s (some ℓ) (.seat th.ct (Srv D rb th (m+1) ℓ)))
    (hgo:∀ (h':Nat) (home':Goroutine→Prop) (k':Int) (F':Machine→Trace→Prop) (E':Env) (w':World) (s':σ),TKn h' rb home' k' th E' w'→D.M s' E' w'→D.fits ℓ s' →
      (∀ s'' o,D.next ℓ k' s' (s'',o)→Back D h' rb home' th F' E' w' s'' o (roleOf (Srv D rb th m) rb th o)) →
      ∃ v,WordAt w' ⟨b,o,none⟩ v∧E'.H b=none∧∀ E2 w2,Kept th.j (some th.gb) E' w' E2 w2→TKn h' rb home' k' th E2 w2→GA w2 rb th false false (IntKind.i64.wrap ((D.tal ℓ).1+1),(D.tal ℓ).2.1,(D.tal ℓ).2.2)→WSet E' w' E2 w2 ⟨b,o,none⟩ v →
        HG Try.prog th.j F' E2 (G (b₀.at (a₀.put ((ops₀[i₀]?).bind (·.dst)) (.int .i64 v)) (.inRegion ops₀ rest₀ :: k₀)) cl) w2) :
    HGn Try.prog th.j F E w 200 (entry 70 Try.f70 #[.pointer (some ⟨b,o,none⟩),.pointer (some ⟨th.gb,0,none⟩)] (b₀.at a₀ (.inRegion ops₀ (i₀ :: rest₀) :: k₀) :: cl)):=by
  refine wload_pre (fun T' ops i' rest' k' hs h0 hd hk hr=>?_)
  subst hk hr
  refine body_step (n:=m) (ℓ:=ℓ) T g M (OffAt.up O Try.func70 rfl) B (fun h' home' k' F' E' w' s' T1 g1 M1 f1 B1=>?_)
  obtain ⟨v,hW,hH,hgo'⟩:=hgo h' home' k' F' E' w' s' T1 M1 f1 B1
  refine wload_post (v:=v) hs h0 hd hW hH (fun E2 w2 hE hK hWS=>?_)
  exact hgo' E2 w2 hK.weaken (T1.kept hK.weaken T1.gct) (GA.kept hK g1 T1.gH T1.gW) hWS
end
section
variable {j:Nat} {F:Machine→Trace→Prop} {E:Env} {w:World} {b₀:Frame} {a₀:Act} {ops₀:Array Oper} {i₀:Nat} {rest₀:List Nat} {k₀:List Item} {cl:List Frame}
theorem wload_nil {b o:Nat} {v:Int} (hW:WordAt w ⟨b,o,none⟩ v) (hH:E.H b=none)
    (hc:∀ E2 w2,E.Eq j E2→Kept j none E w E2 w2→WSet E w E2 w2 ⟨b,o,none⟩ v→HG Try.prog j F E2 (G (b₀.at (a₀.put ((ops₀[i₀]?).bind (·.dst)) (.int .i64 v)) (.inRegion ops₀ rest₀ :: k₀)) cl) w2) :
    HGn Try.prog j F E w 200 (entry 70 Try.f70 #[.pointer (some ⟨b,o,none⟩),.pointer none] (b₀.at a₀ (.inRegion ops₀ (i₀ :: rest₀) :: k₀) :: cl)):=by
  refine wload_pre (fun T' ops i' rest' k' hs h0 hd hk hr=>?_)
  subst hk hr
  refine step_nil ?_
  exact wload_post (v:=v) hs h0 hd hW hH hc
end
noncomputable def wstoreB:Code:=Try.f71.body.getD .skip
noncomputable def wstore1:Code:=match wstoreB with | .seq x _=>x | _=>.skip
noncomputable def wstore2:Code:=match wstoreB with | .seq _ x=>x | _=>.skip
theorem wstore_parts:wstoreB=.seq wstore1 wstore2:=by kernel_rfl
noncomputable def xwstore1:Code:=wstore1
theorem wstore2_wp {T:Array Value} {x:World} {b o:Nat} {v n:Int} {Q:Exit→Act→World→Prop} (hs:T.size=13) (h0:T[0]?=some (.pointer (some ⟨b,o,none⟩))) (h2:T[2]?=some (.int .i64 n)) (hW:WordAt x ⟨b,o,none⟩ v)
    (hQ:∀ T',T'.size=13→Q .normal ⟨T',[]⟩ (x.setCell ⟨b,o,none⟩ (.int .i64 n))):wstore2.wp Try.prog Q ⟨T,[]⟩ x:=by
  obtain ⟨f,rfl,fz⟩:=arrfv T hs
  have e0:=fz 0 _ h0
  have e2:=fz 2 _ h2
  clear fz h0 h2
  have hcl:=astore_any (x:=x) (b:=b) (o:=o) (n:=n) hW
  have hc:=hW.cell
  have hz:=hW.thaw
  simp only [List.range,List.range.loop,List.map_cons,List.map_nil,e0,e2]
  simp only [wstore2,wstoreB,Try.f71,Option.getD_some]
  go_wp2_with fail
  refine hcl.mono ?_
  rintro _ _ ⟨rfl,rfl⟩
  go_wp2_with fail
  skip
  simp
section
variable {j:Nat} {F:Machine→Trace→Prop} {E:Env} {w:World} {b₀:Frame} {a₀:Act} {ops₀:Array Oper} {i₀:Nat} {rest₀:List Nat} {k₀:List Item} {cl:List Frame}
theorem wstore_pre {wv gv : Value} {n : Int} (hc : ∀ T' ops i' rest' k', T'.size = 13 → T'[0]? = some wv → T'[2]? = some (.int .i64 n) → (ops[i']?).bind (·.dst) = some 7 → k' = [.code wstore2] → rest' = [] →
      HGn Try.prog j F E w 100 (entry 33 Try.f33 #[gv] ((base 71).at ⟨T',[]⟩ (.inRegion ops (i' :: rest') :: k') :: b₀.at a₀ (.inRegion ops₀ (i₀ :: rest₀) :: k₀) :: cl))) :
    HGn Try.prog j F E w 200 (entry 71 Try.f71 #[wv,gv,.int .i64 n] (b₀.at a₀ (.inRegion ops₀ (i₀ :: rest₀) :: k₀) :: cl)):=by
  unfold entry
  rw [show Try.f71.body.getD .skip=.seq xwstore1 wstore2 from wstore_parts,show Try.f71.ntmps=13 from rfl]
  generalize hG:wstore2=L at hc ⊢
  simp only [xwstore1,wstore1,wstoreB,Try.f71,Option.getD_some]
  walk_nrm
  refine Idl.q (idl_hg Try.prog j F E w) (Idl.rg (idl_hg Try.prog j F E w) [0,1] rfl ?_)
  apply Idl.value (idl_hg Try.prog j F E w) rfl rfl (by first | decide | exact base_kind _ | exact baseD_kind _ | assumption)
  focus (intro w; go_simp; (try w_num); first | done | rfl)
  focus (intro w; simp [go_sem, *])
  walk_nrm
  refine Idl.callE (fn:=Try.f33) (vs:=#[gv]) (idl_hg Try.prog j F E w) rfl rfl (by k_ne) rfl Try.func33 rfl rfl (by simp [Act.eval]) ?_
  exact hc _ _ _ _ _ (by simp) (by simp) (by simp) rfl rfl rfl
theorem wstore_post {T':Array Value} {ops:Array Oper} {i' b o:Nat} {v n:Int} (hs:T'.size=13) (h0:T'[0]?=some (.pointer (some ⟨b,o,none⟩))) (h2:T'[2]?=some (.int .i64 n)) (hd:(ops[i']?).bind (·.dst)=some 7) (hW:WordAt w ⟨b,o,none⟩ v) (hH:E.H b=none)
    (hc:∀ E2 w2,E.Eq j E2→Kept j none E w E2 w2→WSet E w E2 w2 ⟨b,o,none⟩ n→HG Try.prog j F E2 (G (b₀.at (a₀.put ((ops₀[i₀]?).bind (·.dst)) (.tuple #[])) (.inRegion ops₀ rest₀ :: k₀)) cl) w2) :
    HGn Try.prog j F E w 200 (G ((base 71).at ((⟨T',[]⟩:Act).put ((ops[i']?).bind (·.dst)) (.tuple #[])) (.inRegion ops [] :: [.code wstore2])) (b₀.at a₀ (.inRegion ops₀ (i₀ :: rest₀) :: k₀) :: cl)):=by
  rw [hd]
  refine Idl.step (idl_hg Try.prog j F E w) _ _ _ rfl (fun _=>stepG_region_end) ?_
  skip
  refine HG.quietS (fun c=>c=b) (fun c e=>by rw [e]; exact hH) closed_atom (Q:=fun a' x x'=>a'.tmps.size=13∧WSet0 x x' ⟨b,o,none⟩ n) (by kernel_rfl) (by rfl) rfl (fun x hxs hx=>?_) (fun E1 w' a' x x' hE hd' hxs hx hxs' hx' hK hB hSt hq=>?_)
  · refine wstore2_wp (v:=v) (by simp [Act.put,hs]) (by simp [Act.put]; exact h0) (by simp [Act.put]; exact h2) (hW.same (hx b hH)) (fun T'' q1=>⟨rfl,rfl,?_,q1,?_⟩)
    · exact fun c _ hc=>heap_setCell_ne (a:=⟨b,o,none⟩) (fun e=>hc e.symm)
    · exact WSet0.set (hW.same (hx b hH))
  · obtain ⟨Ta,df⟩:=a'
    have hdf:df=[]:=hd'
    subst hdf
    obtain ⟨q1,q3⟩:=hq
    change HGn Try.prog j F E1 w' 100 _
    dsimp only at q1
    obtain ⟨f,rfl,fz⟩:=arrfv Ta q1
    refine Idl.en (idl_hg Try.prog j F E1 w') ?_
    refine Idl.leave0 (n:=1) (idl_hg Try.prog j F E1 w') rfl rfl Try.func71 rfl ?_
    exact hc E1 w' hE hK (q3.up hH (hE.H') hx hx')
end
section
variable {σ Λ:Type} {D:Prot σ Λ} {h rb:Nat} {home:Goroutine→Prop} {k:Int} {th:Th} {F:Machine→Trace→Prop} {E:Env} {w:World} {s:σ} {b₀:Frame} {a₀:Act} {ops₀:Array Oper} {i₀:Nat} {rest₀:List Nat} {k₀:List Item} {cl:List Frame}
theorem wstore_go {m:Nat} {ℓ:Λ} {b o:Nat} {n:Int} (T:TKn h rb home k th E w) (g:GA w rb th false false (D.tal ℓ)) (M:D.M s E w) (O:OffAt th.gb th.box rb b₀ a₀ ops₀ i₀ rest₀ k₀ cl)
    (B:Back D h rb home th F E w s (some ℓ) (.seat th.ct (Srv D rb th (m+1) ℓ)))
    (hgo:∀ (h':Nat) (home':Goroutine→Prop) (k':Int) (F':Machine→Trace→Prop) (E':Env) (w':World) (s':σ),TKn h' rb home' k' th E' w'→D.M s' E' w'→D.fits ℓ s' →
      (∀ s'' o,D.next ℓ k' s' (s'',o)→Back D h' rb home' th F' E' w' s'' o (roleOf (Srv D rb th m) rb th o)) →
      ∃ v,WordAt w' ⟨b,o,none⟩ v∧E'.H b=none∧∀ E2 w2,Kept th.j (some th.gb) E' w' E2 w2→TKn h' rb home' k' th E2 w2→GA w2 rb th false false (IntKind.i64.wrap ((D.tal ℓ).1+1),(D.tal ℓ).2.1,(D.tal ℓ).2.2)→WSet E' w' E2 w2 ⟨b,o,none⟩ n →
        HG Try.prog th.j F' E2 (G (b₀.at (a₀.put ((ops₀[i₀]?).bind (·.dst)) (.tuple #[])) (.inRegion ops₀ rest₀ :: k₀)) cl) w2) :
    HGn Try.prog th.j F E w 200 (entry 71 Try.f71 #[.pointer (some ⟨b,o,none⟩),.pointer (some ⟨th.gb,0,none⟩),.int .i64 n] (b₀.at a₀ (.inRegion ops₀ (i₀ :: rest₀) :: k₀) :: cl)):=by
  refine wstore_pre (fun T' ops i' rest' k' hs h0 h2 hd hk hr=>?_)
  subst hk hr
  refine body_step (n:=m) (ℓ:=ℓ) T g M (OffAt.up O Try.func71 rfl) B (fun h' home' k' F' E' w' s' T1 g1 M1 f1 B1=>?_)
  obtain ⟨v,hW,hH,hgo'⟩:=hgo h' home' k' F' E' w' s' T1 M1 f1 B1
  refine wstore_post (v:=v) hs h0 h2 hd hW hH (fun E2 w2 hE hK hWS=>?_)
  exact hgo' E2 w2 hK.weaken (T1.kept hK.weaken T1.gct) (GA.kept hK g1 T1.gH T1.gW) hWS
end
section
variable {j:Nat} {F:Machine→Trace→Prop} {E:Env} {w:World} {b₀:Frame} {a₀:Act} {ops₀:Array Oper} {i₀:Nat} {rest₀:List Nat} {k₀:List Item} {cl:List Frame}
end
noncomputable def waddB:Code:=Try.f68.body.getD .skip
noncomputable def wadd0:Code:=match waddB with | .seq x _=>x | _=>.skip
noncomputable def wadd1:Code:=match waddB with | .seq _ (.seq x _)=>x | _=>.skip
noncomputable def wadd2:Code:=match waddB with | .seq _ (.seq _ (.seq x _))=>x | _=>.skip
theorem wadd_parts:waddB=.seq wadd0 (.seq wadd1 (.seq wadd2 .ret)):=by kernel_rfl
noncomputable def xwadd0:Code:=wadd0
noncomputable def xwadd1:Code:=wadd1
theorem wadd2_wp {T:Array Value} {x:World} {b o:Nat} {v n:Int} {Q:Exit→Act→World→Prop} (hs:T.size=16) (h0:T[0]?=some (.pointer (some ⟨b,o,none⟩))) (h2:T[2]?=some (.int .i64 n)) (hW:WordAt x ⟨b,o,none⟩ v)
    (hQ:∀ T',T'.size=16→T'[6]?=some (.int .i64 (IntKind.i64.wrap (IntKind.i64.wrap (v+n) - n)))→Q .normal ⟨T',[]⟩ (x.setCell ⟨b,o,none⟩ (.int .i64 (IntKind.i64.wrap (v+n))))):wadd2.wp Try.prog Q ⟨T,[]⟩ x:=by
  obtain ⟨f,rfl,fz⟩:=arrfv T hs
  have e0:=fz 0 _ h0
  have e2:=fz 2 _ h2
  clear fz h0 h2
  have hcl:=aadd_any (x:=x) (b:=b) (o:=o) (n:=n) hW
  have hc:=hW.cell
  have hz:=hW.thaw
  simp only [List.range,List.range.loop,List.map_cons,List.map_nil,e0,e2]
  simp only [wadd2,waddB,Try.f68,Option.getD_some]
  go_wp2_with fail
  refine hcl.mono ?_
  rintro _ _ ⟨rfl,rfl⟩
  go_wp2_with fail
  simp only [w64] at hQ ⊢
  refine hQ _ (by simp) (by simp [w64])
section
variable {j:Nat} {F:Machine→Trace→Prop} {E:Env} {w:World} {b₀:Frame} {a₀:Act} {ops₀:Array Oper} {i₀:Nat} {rest₀:List Nat} {k₀:List Item} {cl:List Frame}
theorem wadd_pre {wv gv : Value} {n : Int} (hc : ∀ T' ops i' rest' k', T'.size = 16 → T'[0]? = some wv → T'[2]? = some (.int .i64 n) → (ops[i']?).bind (·.dst) = some 8 → k' = [.code (.seq wadd2 .ret)] → rest' = [] →
      HGn Try.prog j F E w 100 (entry 33 Try.f33 #[gv] ((base 68).at ⟨T',[]⟩ (.inRegion ops (i' :: rest') :: k') :: b₀.at a₀ (.inRegion ops₀ (i₀ :: rest₀) :: k₀) :: cl))) :
    HGn Try.prog j F E w 200 (entry 68 Try.f68 #[wv,gv,.int .i64 n] (b₀.at a₀ (.inRegion ops₀ (i₀ :: rest₀) :: k₀) :: cl)):=by
  unfold entry
  rw [show Try.f68.body.getD .skip=.seq xwadd0 (.seq xwadd1 (.seq wadd2 .ret)) from wadd_parts,show Try.f68.ntmps=16 from rfl]
  generalize hG:wadd2=L at hc ⊢
  simp only [xwadd0,xwadd1,wadd0,wadd1,waddB,Try.f68,Option.getD_some]
  walk_nrm
  refine Idl.q (idl_hg Try.prog j F E w) (Idl.rg (idl_hg Try.prog j F E w) [0] rfl ?_)
  apply Idl.value (idl_hg Try.prog j F E w) rfl rfl (by first | decide | exact base_kind _ | exact baseD_kind _ | assumption)
  focus (intro w; go_simp; (try w_num); first | done | rfl)
  focus (intro w; simp [go_sem, *])
  walk_nrm
  refine Idl.re (idl_hg Try.prog j F E w) (Idl.q (idl_hg Try.prog j F E w) (Idl.rg (idl_hg Try.prog j F E w) [0,1] rfl ?_))
  apply Idl.value (idl_hg Try.prog j F E w) rfl rfl (by first | decide | exact base_kind _ | exact baseD_kind _ | assumption)
  focus (intro w; go_simp; (try w_num); first | done | rfl)
  focus (intro w; simp [go_sem, *])
  walk_nrm
  refine Idl.callE (fn:=Try.f33) (vs:=#[gv]) (idl_hg Try.prog j F E w) rfl rfl (by k_ne) rfl Try.func33 rfl rfl (by simp [Act.eval]) ?_
  exact hc _ _ _ _ _ (by simp) (by simp) (by simp) rfl rfl rfl
theorem wadd_post {T':Array Value} {ops:Array Oper} {i' b o:Nat} {v n:Int} (hs:T'.size=16) (h0:T'[0]?=some (.pointer (some ⟨b,o,none⟩))) (h2:T'[2]?=some (.int .i64 n)) (hd:(ops[i']?).bind (·.dst)=some 8) (hW:WordAt w ⟨b,o,none⟩ v) (hH:E.H b=none)
    (hc:∀ E2 w2,E.Eq j E2→Kept j none E w E2 w2→WSet E w E2 w2 ⟨b,o,none⟩ (IntKind.i64.wrap (v+n))→HG Try.prog j F E2 (G (b₀.at (a₀.put ((ops₀[i₀]?).bind (·.dst)) (.int .i64 (IntKind.i64.wrap (IntKind.i64.wrap (v+n) - n)))) (.inRegion ops₀ rest₀ :: k₀)) cl) w2) :
    HGn Try.prog j F E w 200 (G ((base 68).at ((⟨T',[]⟩:Act).put ((ops[i']?).bind (·.dst)) (.tuple #[])) (.inRegion ops [] :: [.code (.seq wadd2 .ret)])) (b₀.at a₀ (.inRegion ops₀ (i₀ :: rest₀) :: k₀) :: cl)):=by
  rw [hd]
  refine Idl.step (idl_hg Try.prog j F E w) _ _ _ rfl (fun _=>stepG_region_end) ?_
  refine Idl.step (idl_hg Try.prog j F E w) _ _ _ rfl (fun _=>stepG_seq) ?_
  refine HG.quietS (fun c=>c=b) (fun c e=>by rw [e]; exact hH) closed_atom (Q:=fun a' x x'=>a'.tmps.size=16∧a'.tmps[6]?=some (.int .i64 (IntKind.i64.wrap (IntKind.i64.wrap (v+n) - n)))∧WSet0 x x' ⟨b,o,none⟩ (IntKind.i64.wrap (v+n))) (by kernel_rfl) (by rfl) rfl (fun x hxs hx=>?_) (fun E1 w' a' x x' hE hd' hxs hx hxs' hx' hK hB hSt hq=>?_)
  · refine wadd2_wp (v:=v) (by simp [Act.put,hs]) (by simp [Act.put]; exact h0) (by simp [Act.put]; exact h2) (hW.same (hx b hH)) (fun T'' q1 q2=>⟨rfl,rfl,?_,q1,q2,?_⟩)
    · exact fun c _ hc=>heap_setCell_ne (a:=⟨b,o,none⟩) (fun e=>hc e.symm)
    · exact WSet0.set (hW.same (hx b hH))
  · obtain ⟨Ta,df⟩:=a'
    have hdf:df=[]:=hd'
    subst hdf
    obtain ⟨q1,q2,q3⟩:=hq
    change HGn Try.prog j F E1 w' 100 _
    dsimp only at q1 q2
    obtain ⟨f,rfl,fz⟩:=arrfv Ta q1
    have e4:=fz 6 _ q2
    refine Idl.step (idl_hg Try.prog j F E1 w') _ _ _ rfl (fun _=>stepG_ret') ?_
    refine Idl.leaveV (n:=1) (v:=.int .i64 (IntKind.i64.wrap (IntKind.i64.wrap (v+n) - n))) (fn:=Try.f68) (idl_hg Try.prog j F E1 w') rfl rfl Try.func68 (fun w=>by simp [results,Try.f68,e4,go_sem]) (fun w=>by simp [results,Try.f68,e4,go_sem]) ?_
    exact hc E1 w' hE hK (q3.up hH (hE.H') hx hx')
end
section
variable {σ Λ:Type} {D:Prot σ Λ} {h rb:Nat} {home:Goroutine→Prop} {k:Int} {th:Th} {F:Machine→Trace→Prop} {E:Env} {w:World} {s:σ} {b₀:Frame} {a₀:Act} {ops₀:Array Oper} {i₀:Nat} {rest₀:List Nat} {k₀:List Item} {cl:List Frame}
theorem wadd_go {m:Nat} {ℓ:Λ} {b o:Nat} {n:Int} (T:TKn h rb home k th E w) (g:GA w rb th false false (D.tal ℓ)) (M:D.M s E w) (O:OffAt th.gb th.box rb b₀ a₀ ops₀ i₀ rest₀ k₀ cl)
    (B:Back D h rb home th F E w s (some ℓ) (.seat th.ct (Srv D rb th (m+1) ℓ)))
    (hgo:∀ (h':Nat) (home':Goroutine→Prop) (k':Int) (F':Machine→Trace→Prop) (E':Env) (w':World) (s':σ),TKn h' rb home' k' th E' w'→D.M s' E' w'→D.fits ℓ s' →
      (∀ s'' o,D.next ℓ k' s' (s'',o)→Back D h' rb home' th F' E' w' s'' o (roleOf (Srv D rb th m) rb th o)) →
      ∃ v,WordAt w' ⟨b,o,none⟩ v∧E'.H b=none∧∀ E2 w2,Kept th.j (some th.gb) E' w' E2 w2→TKn h' rb home' k' th E2 w2→GA w2 rb th false false (IntKind.i64.wrap ((D.tal ℓ).1+1),(D.tal ℓ).2.1,(D.tal ℓ).2.2)→WSet E' w' E2 w2 ⟨b,o,none⟩ (IntKind.i64.wrap (v+n)) →
        HG Try.prog th.j F' E2 (G (b₀.at (a₀.put ((ops₀[i₀]?).bind (·.dst)) (.int .i64 (IntKind.i64.wrap (IntKind.i64.wrap (v+n) - n)))) (.inRegion ops₀ rest₀ :: k₀)) cl) w2) :
    HGn Try.prog th.j F E w 200 (entry 68 Try.f68 #[.pointer (some ⟨b,o,none⟩),.pointer (some ⟨th.gb,0,none⟩),.int .i64 n] (b₀.at a₀ (.inRegion ops₀ (i₀ :: rest₀) :: k₀) :: cl)):=by
  refine wadd_pre (fun T' ops i' rest' k' hs h0 h2 hd hk hr=>?_)
  subst hk hr
  refine body_step (n:=m) (ℓ:=ℓ) T g M (OffAt.up O Try.func68 rfl) B (fun h' home' k' F' E' w' s' T1 g1 M1 f1 B1=>?_)
  obtain ⟨v,hW,hH,hgo'⟩:=hgo h' home' k' F' E' w' s' T1 M1 f1 B1
  refine wadd_post (v:=v) hs h0 h2 hd hW hH (fun E2 w2 hE hK hWS=>?_)
  exact hgo' E2 w2 hK.weaken (T1.kept hK.weaken T1.gct) (GA.kept hK g1 T1.gH T1.gW) hWS
end
section
variable {j:Nat} {F:Machine→Trace→Prop} {E:Env} {w:World} {b₀:Frame} {a₀:Act} {ops₀:Array Oper} {i₀:Nat} {rest₀:List Nat} {k₀:List Item} {cl:List Frame}
theorem wadd_nil {b o:Nat} {v n:Int} (hW:WordAt w ⟨b,o,none⟩ v) (hH:E.H b=none)
    (hc:∀ E2 w2,E.Eq j E2→Kept j none E w E2 w2→WSet E w E2 w2 ⟨b,o,none⟩ (IntKind.i64.wrap (v+n))→HG Try.prog j F E2 (G (b₀.at (a₀.put ((ops₀[i₀]?).bind (·.dst)) (.int .i64 (IntKind.i64.wrap (IntKind.i64.wrap (v+n) - n)))) (.inRegion ops₀ rest₀ :: k₀)) cl) w2) :
    HGn Try.prog j F E w 200 (entry 68 Try.f68 #[.pointer (some ⟨b,o,none⟩),.pointer none,.int .i64 n] (b₀.at a₀ (.inRegion ops₀ (i₀ :: rest₀) :: k₀) :: cl)):=by
  refine wadd_pre (fun T' ops i' rest' k' hs h0 h2 hd hk hr=>?_)
  subst hk hr
  refine step_nil ?_
  exact wadd_post (v:=v) hs h0 h2 hd hW hH hc
end
noncomputable def wswapB:Code:=Try.f69.body.getD .skip
noncomputable def wswap0:Code:=match wswapB with | .seq x _=>x | _=>.skip
noncomputable def wswap1:Code:=match wswapB with | .seq _ (.seq x _)=>x | _=>.skip
noncomputable def wswap2:Code:=match wswapB with | .seq _ (.seq _ (.seq x _))=>x | _=>.skip
theorem wswap_parts:wswapB=.seq wswap0 (.seq wswap1 (.seq wswap2 .ret)):=by kernel_rfl
noncomputable def xwswap0:Code:=wswap0
noncomputable def xwswap1:Code:=wswap1
theorem wswap2_wp {T:Array Value} {x:World} {b o:Nat} {v n:Int} {Q:Exit→Act→World→Prop} (hs:T.size=14) (h0:T[0]?=some (.pointer (some ⟨b,o,none⟩))) (h2:T[2]?=some (.int .i64 n)) (hW:WordAt x ⟨b,o,none⟩ v)
    (hQ:∀ T',T'.size=14→T'[6]?=some (.int .i64 v)→Q .normal ⟨T',[]⟩ (x.setCell ⟨b,o,none⟩ (.int .i64 n))):wswap2.wp Try.prog Q ⟨T,[]⟩ x:=by
  obtain ⟨f,rfl,fz⟩:=arrfv T hs
  have e0:=fz 0 _ h0
  have e2:=fz 2 _ h2
  clear fz h0 h2
  have hcl:=aswap_any (x:=x) (b:=b) (o:=o) (n:=n) hW
  have hc:=hW.cell
  have hz:=hW.thaw
  simp only [List.range,List.range.loop,List.map_cons,List.map_nil,e0,e2]
  simp only [wswap2,wswapB,Try.f69,Option.getD_some]
  go_wp2_with fail
  refine hcl.mono ?_
  rintro _ _ ⟨rfl,rfl⟩
  go_wp2_with fail
  skip
  refine hQ _ (by simp) (by simp [w64])
section
variable {j:Nat} {F:Machine→Trace→Prop} {E:Env} {w:World} {b₀:Frame} {a₀:Act} {ops₀:Array Oper} {i₀:Nat} {rest₀:List Nat} {k₀:List Item} {cl:List Frame}
theorem wswap_pre {wv gv : Value} {n : Int} (hc : ∀ T' ops i' rest' k', T'.size = 14 → T'[0]? = some wv → T'[2]? = some (.int .i64 n) → (ops[i']?).bind (·.dst) = some 8 → k' = [.code (.seq wswap2 .ret)] → rest' = [] →
      HGn Try.prog j F E w 100 (entry 33 Try.f33 #[gv] ((base 69).at ⟨T',[]⟩ (.inRegion ops (i' :: rest') :: k') :: b₀.at a₀ (.inRegion ops₀ (i₀ :: rest₀) :: k₀) :: cl))) :
    HGn Try.prog j F E w 200 (entry 69 Try.f69 #[wv,gv,.int .i64 n] (b₀.at a₀ (.inRegion ops₀ (i₀ :: rest₀) :: k₀) :: cl)):=by
  unfold entry
  rw [show Try.f69.body.getD .skip=.seq xwswap0 (.seq xwswap1 (.seq wswap2 .ret)) from wswap_parts,show Try.f69.ntmps=14 from rfl]
  generalize hG:wswap2=L at hc ⊢
  simp only [xwswap0,xwswap1,wswap0,wswap1,wswapB,Try.f69,Option.getD_some]
  walk_nrm
  refine Idl.q (idl_hg Try.prog j F E w) (Idl.rg (idl_hg Try.prog j F E w) [0] rfl ?_)
  apply Idl.value (idl_hg Try.prog j F E w) rfl rfl (by first | decide | exact base_kind _ | exact baseD_kind _ | assumption)
  focus (intro w; go_simp; (try w_num); first | done | rfl)
  focus (intro w; simp [go_sem, *])
  walk_nrm
  refine Idl.re (idl_hg Try.prog j F E w) (Idl.q (idl_hg Try.prog j F E w) (Idl.rg (idl_hg Try.prog j F E w) [0,1] rfl ?_))
  apply Idl.value (idl_hg Try.prog j F E w) rfl rfl (by first | decide | exact base_kind _ | exact baseD_kind _ | assumption)
  focus (intro w; go_simp; (try w_num); first | done | rfl)
  focus (intro w; simp [go_sem, *])
  walk_nrm
  refine Idl.callE (fn:=Try.f33) (vs:=#[gv]) (idl_hg Try.prog j F E w) rfl rfl (by k_ne) rfl Try.func33 rfl rfl (by simp [Act.eval]) ?_
  exact hc _ _ _ _ _ (by simp) (by simp) (by simp) rfl rfl rfl
theorem wswap_post {T':Array Value} {ops:Array Oper} {i' b o:Nat} {v n:Int} (hs:T'.size=14) (h0:T'[0]?=some (.pointer (some ⟨b,o,none⟩))) (h2:T'[2]?=some (.int .i64 n)) (hd:(ops[i']?).bind (·.dst)=some 8) (hW:WordAt w ⟨b,o,none⟩ v) (hH:E.H b=none)
    (hc:∀ E2 w2,E.Eq j E2→Kept j none E w E2 w2→WSet E w E2 w2 ⟨b,o,none⟩ n→HG Try.prog j F E2 (G (b₀.at (a₀.put ((ops₀[i₀]?).bind (·.dst)) (.int .i64 v)) (.inRegion ops₀ rest₀ :: k₀)) cl) w2) :
    HGn Try.prog j F E w 200 (G ((base 69).at ((⟨T',[]⟩:Act).put ((ops[i']?).bind (·.dst)) (.tuple #[])) (.inRegion ops [] :: [.code (.seq wswap2 .ret)])) (b₀.at a₀ (.inRegion ops₀ (i₀ :: rest₀) :: k₀) :: cl)):=by
  rw [hd]
  refine Idl.step (idl_hg Try.prog j F E w) _ _ _ rfl (fun _=>stepG_region_end) ?_
  refine Idl.step (idl_hg Try.prog j F E w) _ _ _ rfl (fun _=>stepG_seq) ?_
  refine HG.quietS (fun c=>c=b) (fun c e=>by rw [e]; exact hH) closed_atom (Q:=fun a' x x'=>a'.tmps.size=14∧a'.tmps[6]?=some (.int .i64 v)∧WSet0 x x' ⟨b,o,none⟩ n) (by kernel_rfl) (by rfl) rfl (fun x hxs hx=>?_) (fun E1 w' a' x x' hE hd' hxs hx hxs' hx' hK hB hSt hq=>?_)
  · refine wswap2_wp (v:=v) (by simp [Act.put,hs]) (by simp [Act.put]; exact h0) (by simp [Act.put]; exact h2) (hW.same (hx b hH)) (fun T'' q1 q2=>⟨rfl,rfl,?_,q1,q2,?_⟩)
    · exact fun c _ hc=>heap_setCell_ne (a:=⟨b,o,none⟩) (fun e=>hc e.symm)
    · exact WSet0.set (hW.same (hx b hH))
  · obtain ⟨Ta,df⟩:=a'
    have hdf:df=[]:=hd'
    subst hdf
    obtain ⟨q1,q2,q3⟩:=hq
    change HGn Try.prog j F E1 w' 100 _
    dsimp only at q1 q2
    obtain ⟨f,rfl,fz⟩:=arrfv Ta q1
    have e4:=fz 6 _ q2
    refine Idl.step (idl_hg Try.prog j F E1 w') _ _ _ rfl (fun _=>stepG_ret') ?_
    refine Idl.leaveV (n:=1) (v:=.int .i64 v) (fn:=Try.f69) (idl_hg Try.prog j F E1 w') rfl rfl Try.func69 (fun w=>by simp [results,Try.f69,e4,go_sem]) (fun w=>by simp [results,Try.f69,e4,go_sem]) ?_
    exact hc E1 w' hE hK (q3.up hH (hE.H') hx hx')
end
section
variable {σ Λ:Type} {D:Prot σ Λ} {h rb:Nat} {home:Goroutine→Prop} {k:Int} {th:Th} {F:Machine→Trace→Prop} {E:Env} {w:World} {s:σ} {b₀:Frame} {a₀:Act} {ops₀:Array Oper} {i₀:Nat} {rest₀:List Nat} {k₀:List Item} {cl:List Frame}
theorem wswap_go {m:Nat} {ℓ:Λ} {b o:Nat} {n:Int} (T:TKn h rb home k th E w) (g:GA w rb th false false (D.tal ℓ)) (M:D.M s E w) (O:OffAt th.gb th.box rb b₀ a₀ ops₀ i₀ rest₀ k₀ cl)
    (B:Back D h rb home th F E w s (some ℓ) (.seat th.ct (Srv D rb th (m+1) ℓ)))
    (hgo:∀ (h':Nat) (home':Goroutine→Prop) (k':Int) (F':Machine→Trace→Prop) (E':Env) (w':World) (s':σ),TKn h' rb home' k' th E' w'→D.M s' E' w'→D.fits ℓ s' →
      (∀ s'' o,D.next ℓ k' s' (s'',o)→Back D h' rb home' th F' E' w' s'' o (roleOf (Srv D rb th m) rb th o)) →
      ∃ v,WordAt w' ⟨b,o,none⟩ v∧E'.H b=none∧∀ E2 w2,Kept th.j (some th.gb) E' w' E2 w2→TKn h' rb home' k' th E2 w2→GA w2 rb th false false (IntKind.i64.wrap ((D.tal ℓ).1+1),(D.tal ℓ).2.1,(D.tal ℓ).2.2)→WSet E' w' E2 w2 ⟨b,o,none⟩ n →
        HG Try.prog th.j F' E2 (G (b₀.at (a₀.put ((ops₀[i₀]?).bind (·.dst)) (.int .i64 v)) (.inRegion ops₀ rest₀ :: k₀)) cl) w2) :
    HGn Try.prog th.j F E w 200 (entry 69 Try.f69 #[.pointer (some ⟨b,o,none⟩),.pointer (some ⟨th.gb,0,none⟩),.int .i64 n] (b₀.at a₀ (.inRegion ops₀ (i₀ :: rest₀) :: k₀) :: cl)):=by
  refine wswap_pre (fun T' ops i' rest' k' hs h0 h2 hd hk hr=>?_)
  subst hk hr
  refine body_step (n:=m) (ℓ:=ℓ) T g M (OffAt.up O Try.func69 rfl) B (fun h' home' k' F' E' w' s' T1 g1 M1 f1 B1=>?_)
  obtain ⟨v,hW,hH,hgo'⟩:=hgo h' home' k' F' E' w' s' T1 M1 f1 B1
  refine wswap_post (v:=v) hs h0 h2 hd hW hH (fun E2 w2 hE hK hWS=>?_)
  exact hgo' E2 w2 hK.weaken (T1.kept hK.weaken T1.gct) (GA.kept hK g1 T1.gH T1.gW) hWS
end
section
variable {j:Nat} {F:Machine→Trace→Prop} {E:Env} {w:World} {b₀:Frame} {a₀:Act} {ops₀:Array Oper} {i₀:Nat} {rest₀:List Nat} {k₀:List Item} {cl:List Frame}
theorem wswap_nil {b o:Nat} {v n:Int} (hW:WordAt w ⟨b,o,none⟩ v) (hH:E.H b=none)
    (hc:∀ E2 w2,E.Eq j E2→Kept j none E w E2 w2→WSet E w E2 w2 ⟨b,o,none⟩ n→HG Try.prog j F E2 (G (b₀.at (a₀.put ((ops₀[i₀]?).bind (·.dst)) (.int .i64 v)) (.inRegion ops₀ rest₀ :: k₀)) cl) w2) :
    HGn Try.prog j F E w 200 (entry 69 Try.f69 #[.pointer (some ⟨b,o,none⟩),.pointer none,.int .i64 n] (b₀.at a₀ (.inRegion ops₀ (i₀ :: rest₀) :: k₀) :: cl)):=by
  refine wswap_pre (fun T' ops i' rest' k' hs h0 h2 hd hk hr=>?_)
  subst hk hr
  refine step_nil ?_
  exact wswap_post (v:=v) hs h0 h2 hd hW hH hc
end
end Go.Proofs.Ytimlbbleblijnaa.Co

namespace Go.Proofs.Ytimlbbleblijnaa.Co
open Go Go.Conc Go.RowKit
def doW (v k n:Int):Int × Int:=if k=1 then (v,v) else if k=2 then (n,0) else if k=3 then (IntKind.i64.wrap (v+n),v) else (n,v)
theorem do_any {x:World} {v k n:Int}:Calls Try.prog 49 #[.int .i64 v,.int .i64 k,.int .i64 n] x fun e x'=>e=.returned (.tuple #[.int .i64 (doW v k n).1,.int .i64 (doW v k n).2])∧x'=x:=by
  unfold doW
  by_cases h1:k=1
  · subst h1
    go_enter Try.func49,Try.ntmps49
    go_wp2
    refine bodyPost_ret (results_tmp2 rfl _ _ _) rfl ⟨?_,rfl⟩
    rfl
  · have b1:(k == 1)=false:=beq_eq_false_iff_ne.2 h1
    rw [if_neg h1]
    by_cases h2:k=2
    · subst h2
      go_enter Try.func49,Try.ntmps49
      go_wp2
      refine bodyPost_ret (results_tmp2 rfl _ _ _) rfl ⟨?_,rfl⟩
      rfl
    · have b2:(k == 2)=false:=beq_eq_false_iff_ne.2 h2
      rw [if_neg h2]
      by_cases h3:k=3
      · subst h3
        go_enter Try.func49,Try.ntmps49
        go_wp2
        refine bodyPost_ret (results_tmp2 rfl _ _ _) rfl ⟨?_,rfl⟩
        simp only [w64]
        rfl
      · have b3:(k == 3)=false:=beq_eq_false_iff_ne.2 h3
        rw [if_neg h3]
        go_enter Try.func49,Try.ntmps49
        go_wp2
        refine bodyPost_ret (results_tmp2 rfl _ _ _) rfl ⟨?_,rfl⟩
        rfl
def isC (k:Int):Bool:=decide (1≤k) && decide (k≤4)
structure Still (j:Nat) (E:Env) (w:World) (E1:Env) (w1:World):Prop where
  kept:Kept j none E w E1 w1
  H:E1.H=E.H
  st:Stands E w E1 w1
theorem Still.refl (j:Nat) (E:Env) (w:World):Still j E w E w:=⟨.refl _ _ _ _,rfl,fun _ _ h1 h2=>⟨h1,h2⟩⟩
theorem Still.trans {j:Nat} {E E1 E2:Env} {w w1 w2:World} (a:Still j E w E1 w1) (b:Still j E1 w1 E2 w2):Still j E w E2 w2:=⟨a.kept.trans b.kept,b.H.trans a.H,a.st.trans b.st⟩
theorem Still.word {j:Nat} {E E1:Env} {w w1:World} {b o:Nat} {v:Int} (s:Still j E w E1 w1) (hW:WordAt w ⟨b,o,none⟩ v) (hH:E.H b=none):WordAt w1 ⟨b,o,none⟩ v∧E1.H b=none:=by
  obtain ⟨h0,c,t,h1,h2⟩:=hW
  obtain ⟨s1,s2⟩:=s.st b _ hH h1
  exact ⟨⟨h0,c,t,s2,h2⟩,s1⟩
section
variable {P:Program} {h:Nat} {F:Machine→Trace→Prop} {E:Env} {w:World} {Fs:FuncId→Bool}
theorem HG.quietN (hC:Closed P Fs) {fr:Frame} {T:Array Value} {k:List Item} {cs:List Frame} {c:Code} (R:Array Value→Prop) (hq:quietCode P Fs c=true) (hk:fr.kind=.normal)
    (hwp:∀ x:World,(∀ b,E.H b=none→x.heap[b]?=w.heap[b]?)→c.wp P (fun e a' x'=>e=.normal∧a'.defers=[]∧(∀ b,b < x.heap.size→x'.heap[b]?=x.heap[b]?)∧R a'.tmps) ⟨T,[]⟩ x)
    (hg:∀ (E1:Env) (w1:World) (T':Array Value),Still h E w E1 w1→R T'→HG P h F E1 (G (fr.at ⟨T',[]⟩ k) cs) w1):HG P h F E (G (fr.at ⟨T,[]⟩ (.code c :: k)) cs) w:=by
  refine HG.quietS (fun _=>False) (fun _ z=>z.elim) hC (Q:=fun a' _ _=>R a'.tmps) hq hk rfl (fun x hxs hx=>?_) (fun E1 w' a' x x' hE hd hxs hx hxs' hx' hK hB hSt hq=>?_)
  · exact Code.wp_mono (fun e a' x' ⟨q1,q2,q3,q4⟩=>⟨q1,q2,fun b hb _=>q3 b hb,q4⟩) (hwp x hx)
  · obtain ⟨Ta,df⟩:=a'
    have hdf:df=[]:=hd
    subst hdf
    refine hg E1 w' Ta ⟨hK,hE.H',fun b o h1 h2=>⟨by rw [hE.H']; exact h1,?_⟩⟩ hq
    have hl:=(Array.getElem?_eq_some_iff.1 h2).1
    rw [hx' b h1,hSt b (by omega) id,hx b h1]
    exact h2
theorem HG.withV {g:Goroutine} (hg:(∀ i a,E.H a.block=none→E.St i a=none)→HG P h F E g w):HG P h F E g w :=
  HG.open fun E1 w1 hA ⟨gs,T,q,C,_⟩=>(hg (fun i a hH=>by
    cases e:E.St i a with
    | none=>rfl
    | some v =>
      have hs:(E1.St i a).isSome=true:=by rw [hA.1.St',e]; rfl
      obtain ⟨n,n1,n2⟩:=C.hidS i a hs
      rw [hA.1.H',hH] at n1
      cases n1)).at hA
end
structure RegC (T:Array Value) (wp gp:Value) (la lo n cap i:Nat) (v:Int):Prop where
  sz:T.size=77
  t0:T[0]?=some wp
  t1:∃ A,T[1]?=some (.slice A n cap)∧(0 < n→A=some ⟨la,lo,none⟩)
  t2:T[2]?=some gp
  t7:T[7]?=some (.int .i64 v)
  t8:T[8]?=some (.int .i64 (i:Int))
theorem RegC.up {T T':Array Value} {wp gp:Value} {la lo n cap i:Nat} {v:Int} (R:RegC T wp gp la lo n cap i v) (hs:T'.size=77) (h:∀ j,j < 9→T'[j]?=T[j]?):RegC T' wp gp la lo n cap i v:=by
  obtain ⟨sz,t0,⟨A,t1,tA⟩,t2,t7,t8⟩:=R
  exact ⟨hs,(h 0 (by decide)).trans t0,⟨A,(h 1 (by decide)).trans t1,tA⟩,(h 2 (by decide)).trans t2,(h 7 (by decide)).trans t7,(h 8 (by decide)).trans t8⟩
section
variable {j:Nat} {F:Machine→Trace→Prop} {E:Env} {w:World} {T:Array Value} {wp gp:Value} {la lo n cap i:Nat} {v:Int} {cs:List Frame}
end
end Go.Proofs.Ytimlbbleblijnaa.Co

namespace Go.Proofs.Ytimlbbleblijnaa.Co
open Go Go.Conc
theorem terms_aw (W:Nat→Bool) (H:Nat→Option Nat) (S:Addr→Prop) (Cs:Nat→Prop):Terms (Aw W) (DG H W S Cs):=⟨Aw.trans,fun w=>DG.idle _ _ _ _ w⟩
theorem aw_draw {W:Nat→Bool} {w w₁:World} (h:Aw W w w₁) (n:Nat):Aw W w { w₁ with drawn:=n }:=by
  obtain ⟨a1,a2,a3,a4,a5,a6⟩:=h
  exact ⟨a1,a2,a3,a4,a5,a6⟩
section
variable {P:Program} {h:Nat} {F:Machine→Trace→Prop} {E:Env} {w:World}
end
section
variable {P:Program} {W:Nat→Bool} {H:Nat→Option Nat} {Sx:Addr→Prop} {Cs:Nat→Prop} {fn:FuncId} {ops:Array Oper} {S:World→Prop} {o:Oper} {v:Value} {a:Act}
theorem yields_pure (hw:Region.wanted o (yielded ops a.tmps)=true) (hr:∀ w,(execOp a.eval o).run P w=.ok (.value v) w) (he:∀ w,(execOp a.eval o).events P w #[]=#[]):YieldsIfC P (DG H W Sx Cs) fn ops S o v a :=
  .inl ⟨hw,fun w _=>⟨hr w,Nat.le_refl _,fun _ _=>rfl,fun _ _=>rfl,fun _ _ x _ _ _ h=>⟨x,h⟩,id,fun e hh=>by
    have:=mem_listed hh
    rw [he w] at this
    simp at this,SameIo.refl _⟩⟩
theorem yields_ld {ad:Addr} (hS:∀ w,S w→w.cell? ad=some v) (hp:W ad.block=false) (hw:Region.wanted o (yielded ops a.tmps)=true)
    (hr:∀ w,w.cell? ad=some v→(execOp a.eval o).run P w=.ok (.value v) w∧∀ e ∈ (execOp a.eval o).events P w #[],e=⟨.cell ad,false,false⟩):YieldsIfC P (DG H W Sx Cs) fn ops S o v a :=
  .inl ⟨hw,fun w hs=>by
    have hc:=hS w hs
    obtain ⟨e1,e2⟩:=hr w hc
    refine ⟨e1,Nat.le_refl _,fun _ _=>rfl,fun _ _=>rfl,fun _ _ x _ _ _ h=>⟨x,h⟩,id,fun e hh=>?_,SameIo.refl _⟩
    rw [e2 e (mem_listed hh)]
    exact evG_plain (lt_of_cell hc) (fun z=>by rw [hp] at z; cases z) (fun z=>by cases z)⟩
end
section
variable {h:Nat} {F:Machine→Trace→Prop} {E:Env} {w:World} {b₀:Frame} {a₀:Act} {ops₀:Array Oper} {i₀:Nat} {rest₀:List Nat} {k₀:List Item} {cl:List Frame}
end
end Go.Proofs.Ytimlbbleblijnaa.Co

namespace Go.Proofs.Ytimlbbleblijnaa.Co
open Go Go.Conc Go.RowKit
structure AS where
  held:Int
  ok:Bool
  st:Int
structure AL where
  i:Nat
  c:Nat
  v:Int
inductive AdvA (ops:List Op3) (c:Nat):Nat→AS→AS × Option AL→Prop
  | stop {i s} (h:ops.length≤i):AdvA ops c i s ({ s with ok:=true,st:=(c:Int) },none)
  | call {i s} {op:Op3} (h:ops[i]?=some op) (hc:isC op.1=true):AdvA ops c i s (s,some ⟨i,c,s.held⟩)
  | skip {i s z} {op:Op3} (h:ops[i]?=some op) (hc:isC op.1=false) (t:AdvA ops c (i+1) s z):AdvA ops c i s z
theorem AdvA.held {ops:List Op3} {c i:Nat} {s:AS} {z:AS × Option AL} (h:AdvA ops c i s z) {s':AS} {l':AL}:z=(s',some l')→s'.held=l'.v:=by
  induction h with
  | stop=>intro e; cases e
  | call=>intro e; cases e; rfl
  | skip _ _ _ ih=>exact ih
structure AM (xb okb stb:Nat) (K:Nat→Obj→Prop) (s:AS) (E:Env) (w:World):Prop where
  word:WordAt w ⟨xb,0,none⟩ s.held
  wordH:E.H xb=none
  okc:w.heap[okb]?=some (.cells #[.bool s.ok] 4)
  okH:E.H okb=none
  stc:w.heap[stb]?=some (.cells #[.int .i64 s.st] 3)
  stH:E.H stb=none
  kobj:∀ b o,K b o→w.heap[b]?=some o∧E.H b=none∧b≠xb∧b≠okb∧b≠stb
  d1:xb≠okb
  d2:xb≠stb
  d3:okb≠stb
  rng:-9223372036854775808≤s.held∧s.held≤9223372036854775807
theorem kept_vis {j b o:Nat} {gb:Option Nat} {E:Env} {w:World} {v:Value} (hH:E.H b=none) (hW:E.W b=false):Kept j gb E w E (w.setCell ⟨b,o,none⟩ v) :=
  ⟨.refl j E,by simp [World.setCell],fun c n hc _ _ _=>heap_setCell_ne (a:=⟨b,o,none⟩) (fun e=>by have e':b=c:=e; rw [← e',hH] at hc; cases hc),fun c hc x st sm e hx=>⟨st,sm,by rw [heap_setCell_ne (a:=⟨b,o,none⟩) (fun z=>by have z':b=c:=z; rw [z',hc] at hW; cases hW)]; exact hx⟩,fun _ _ h=>.inl h,fun _ h=>.inl h⟩
theorem AM.konst {xb okb stb:Nat} {K:Nat→Obj→Prop} {s:AS} {E:Env} {w:World} (m:AM xb okb stb K s E w) (a:Addr) (v:Value) (h:KC K a v):w.cell? a=some v∧E.H a.block=none:=by
  obtain ⟨o,h1,h2⟩:=h
  obtain ⟨k1,k2,_⟩:=m.kobj _ _ h1
  exact ⟨h2 w k1,k2⟩
theorem AM.move {xb okb stb:Nat} {K:Nat→Obj→Prop} {s:AS} {E E':Env} {w w':World} (m:AM xb okb stb K s E w) (hb:∀ b,b < w.heap.size→E.H b=none→E'.H b=none∧w'.heap[b]?=w.heap[b]?):AM xb okb stb K s E' w':=by
  obtain ⟨h0,c,t,h1,h2⟩:=m.word
  have l1:=(Array.getElem?_eq_some_iff.1 h1).1
  have l2:=(Array.getElem?_eq_some_iff.1 m.okc).1
  have l3:=(Array.getElem?_eq_some_iff.1 m.stc).1
  refine ⟨m.word.same (hb xb l1 m.wordH).2,(hb xb l1 m.wordH).1,(hb okb l2 m.okH).2.trans m.okc,(hb okb l2 m.okH).1,(hb stb l3 m.stH).2.trans m.stc,(hb stb l3 m.stH).1,fun b o hk=>?_,m.d1,m.d2,m.d3,m.rng⟩
  obtain ⟨k1,k2,k3⟩:=m.kobj b o hk
  have l4:=(Array.getElem?_eq_some_iff.1 k1).1
  exact ⟨(hb b l4 k2).2.trans k1,(hb b l4 k2).1,k3⟩
theorem AM.still {xb okb stb j:Nat} {K:Nat→Obj→Prop} {s:AS} {E E':Env} {w w':World} (m:AM xb okb stb K s E w) (S:Still j E w E' w'):AM xb okb stb K s E' w' :=
  m.move fun b hb hn=>by
    obtain ⟨s1,s2⟩:=S.st b _ hn (Array.getElem?_eq_getElem hb)
    exact ⟨s1,by rw [s2,Array.getElem?_eq_getElem hb]⟩
theorem AM.wset {xb okb stb:Nat} {K:Nat→Obj→Prop} {s:AS} {E E':Env} {w w':World} {n:Int} (m:AM xb okb stb K s E w) (S:WSet E w E' w' ⟨xb,0,none⟩ n) (hn:-9223372036854775808≤n∧n≤9223372036854775807):AM xb okb stb K { s with held:=n } E' w':=by
  refine ⟨S.word m.word,by rw [S.H]; exact m.wordH,(S.stands m.okH m.okc (Ne.symm m.d1)).2,(S.stands m.okH m.okc (Ne.symm m.d1)).1,(S.stands m.stH m.stc (Ne.symm m.d2)).2,(S.stands m.stH m.stc (Ne.symm m.d2)).1,fun b o hk=>?_,m.d1,m.d2,m.d3,hn⟩
  obtain ⟨k1,k2,k3⟩:=m.kobj b o hk
  exact ⟨(S.stands k2 k1 k3.1).2,(S.stands k2 k1 k3.1).1,k3⟩
noncomputable def aB:Code:=Try.f30.body.getD .skip
noncomputable def a1:Code:=match aB with | .seq _ x=>x | _=>.skip
section
variable {h rb xb okb stb:Nat} {home:Goroutine→Prop} {k:Int} {th:Th} {F:Machine→Trace→Prop} {E:Env} {w:World} {s:AS} {K:Nat→Obj→Prop} {ops:List Op3} {b₀:Frame} {a₀:Act} {ops₀:Array Oper} {i₀:Nat} {rest₀:List Nat} {k₀:List Item} {cl:List Frame}
end
end Go.Proofs.Ytimlbbleblijnaa.Co
