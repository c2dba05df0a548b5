/- Lemmas for the laws of this seat, laid together of PGbo, PGbq, PGbr, PGbs, PGbt, PGbu. -/
import Derived.Test.YtimlbbleblijnaaV15

open Go.ConcR.Gen (base_kind baseD_kind)
set_option linter.unusedVariables false
set_option linter.unusedSimpArgs false
set_option maxRecDepth 100000
set_option maxHeartbeats 4000000
namespace Go.Proofs.Ytimlbbleblijnaa.Co
open Go Go.Conc
noncomputable def pBody:Code:=Try.f67.body.getD .skip
noncomputable def pL:Code:=match pBody with | .seq _ (.block _ (.loop c))=>c | _=>.skip
noncomputable def pR4:Code:=match pL with | .seq _ (.seq _ (.seq (.block _ (.seq _ (.seq _ x))) _))=>x | _=>.skip
theorem arrf {n:Nat} (T:Array Value) (h:T.size=n):∃ f:Nat→Value,T=(List.map f (List.range n)).toArray:=by
  refine ⟨fun i=>T.getD i undef,?_⟩
  apply Array.ext
  · rw [h]; simp
  · intro i h1 h2
    simp [Array.getD,h1]
theorem arrf_get (f:Nat→Value) {n i:Nat} (hi:i < n):(List.map f (List.range n)).toArray[i]?=some (f i):=by simp [hi]
theorem info37:∃ i:TypeInfo,Try.prog.info? 37=some i∧i.zero=some (.agg #[.int .i64 0,.int .i64 0,.int .i64 0,.int .i64 0])∧i.size=4∧i.bytes=32:=by
  have h:(Try.prog.info? 37).isSome=true:=by kernel_rfl
  obtain ⟨i,hi⟩:=Option.isSome_iff_exists.1 h
  have h2:(Try.prog.info? 37).map (fun i=>(i.zero,i.size,i.bytes))=some (some (.agg #[.int .i64 0,.int .i64 0,.int .i64 0,.int .i64 0]),4,32):=by kernel_rfl
  rw [hi] at h2
  simp only [Option.map_some,Option.some.injEq,Prod.mk.injEq] at h2
  exact ⟨i,hi,h2.1,h2.2.1,h2.2.2⟩
abbrev Mk:=Int × Int × Int × Int
def mkV (m:Mk):List Value:=[.int .i64 m.1,.int .i64 m.2.1,.int .i64 m.2.2.1,.int .i64 m.2.2.2]
def mksV (l:List Mk):List Value:=(l.map mkV).flatten
theorem mksV_snoc (l:List Mk) (m:Mk):mksV (l ++ [m])=mksV l ++ mkV m:=by simp [mksV]
theorem slots_eq (f:Nat→Value) {l:List Value}:∀ j,j < 16→(List.toArray (f 0 :: f 1 :: f 2 :: f 3 :: f 4 :: f 5 :: f 6 :: f 7 :: f 8 :: f 9 :: f 10 :: f 11 :: f 12 :: f 13 :: f 14 :: f 15 :: l))[j]?=some (f j)
  | 0,_ | 1,_ | 2,_ | 3,_ | 4,_ | 5,_ | 6,_ | 7,_ | 8,_ | 9,_ | 10,_ | 11,_ | 12,_ | 13,_ | 14,_ | 15,_=>rfl
  | n+16,h=>absurd h (by omega)
structure Marked (B mb:Nat) (mv:Value) (xs:List Value) (n:Nat) (x x':World):Prop where
  size:x.heap.size≤x'.heap.size
  old:∀ c,c < x.heap.size→c≠mb→mv.ownBlock≠some c→x'.heap[c]?=x.heap[c]?
  new:∃ mv',x'.heap[mb]?=some (.cells #[mv'] 27)∧x'.ownsRow B 37 4 mv' n xs∧∀ g,mv'.ownBlock=some g→mv.ownBlock=some g∨x.heap.size≤g
theorem mark_wp {f:Nat→Value} {x:World} {gb rb mb tb b B n:Nat} {k nn t i:Int} {mv:Value} {xs:List Value} {Q:Exit→Act→World→Prop}
    (h0:f 0=.pointer (some ⟨gb,0,none⟩)) (h2:f 2=.pointer (some ⟨mb,0,none⟩)) (h3:f 3=.pointer (some ⟨tb,0,none⟩)) (h5:f 5=.int .i64 i) (h6:f 6=.pointer (some ⟨b,0,none⟩))
    (c1:x.cell? ⟨gb,0,none⟩=some (.pointer (some ⟨rb,0,none⟩))) (c2:x.cell? ⟨rb,0,none⟩=some (.int .i64 k)) (c3:x.heap[mb]?=some (.cells #[mv] 27)) (c4:x.cell? ⟨tb,0,none⟩=some (.int .i64 t)) (c5:x.cell? ⟨b,2,none⟩=some (.int .i64 nn))
    (ho:x.ownsRow B 37 4 mv n xs) (n1:mv.ownBlock≠some gb) (n2:mv.ownBlock≠some rb) (n3:mv.ownBlock≠some mb) (n4:mv.ownBlock≠some tb) (n5:mv.ownBlock≠some b) (m1:gb≠mb) (m2:rb≠mb) (m4:tb≠mb) (m5:b≠mb)
    (hn:n≤1000000000000) (hB:B≤x.heap.size)
    (hQ:∀ T' x',T'.size=27→(∀ j,j < 16→T'[j]?=some (f j))→Marked B mb mv (xs ++ mkV (t,k,i,nn)) (n+1) x x'→Q .normal ⟨T',[]⟩ x') :
    pR4.wp Try.prog Q ⟨(List.map f (List.range 27)).toArray,[]⟩ x:=by
  obtain ⟨i0,hinf,hz0,hz1,hz2⟩:=info37
  have l1:=World.block_lt_of_cell? x _ c1
  have l2:=World.block_lt_of_cell? x _ c2
  have l4:=World.block_lt_of_cell? x _ c4
  have l5:=World.block_lt_of_cell? x _ c5
  have l3:=(Array.getElem?_eq_some_iff.1 c3).1
  have c3':x.cell? ⟨mb,0,none⟩=some mv:=obj_cell c3 rfl
  have w1:=World.new_ne x _ c1
  have w2:=World.new_ne x _ c2
  have w4:=World.new_ne x _ c4
  have w5:=World.new_ne x _ c5
  have w3:=World.new_ne x _ c3'
  dsimp only at l1 l2 l4 l5
  have hmz:∀ o,(x.alloc o).drew.heap[mb]?=some (.cells #[mv] 27):=fun o=>(alloc_old l3).trans c3
  simp only [List.range,List.range.loop,List.map_cons,List.map_nil,h0,h2,h3,h5,h6]
  simp only [pR4,pL,pBody,Try.f67,Option.getD_some]
  refine wp_region_noPanic ?_
  refine region_last (n:=10) (by kernel_rfl) rfl (by kernel_rfl) ?_
  simp only [nopOf,List.setIfInBounds_toArray,List.set_cons_zero,List.set_cons_succ,List.getElem_toArray,List.getElem_cons_succ,List.getElem_cons_zero,List.size_toArray,List.length_cons,List.length_nil,Nat.zero_add,Nat.reduceAdd]
  have hS:x.drew.cell? ⟨gb,0,none⟩=some (.pointer (some ⟨rb,0,none⟩))∧x.drew.cell? ⟨rb,0,none⟩=some (.int .i64 k)∧x.drew.cell? ⟨tb,0,none⟩=some (.int .i64 t)∧x.drew.cell? ⟨b,2,none⟩=some (.int .i64 nn)∧x.drew.cell? ⟨mb,0,none⟩=some mv:=⟨c1,c2,c4,c5,c3'⟩
  refine wpAny_of_held (S:=fun W=>W.cell? ⟨gb,0,none⟩=some (.pointer (some ⟨rb,0,none⟩))∧W.cell? ⟨rb,0,none⟩=some (.int .i64 k)∧W.cell? ⟨tb,0,none⟩=some (.int .i64 t)∧W.cell? ⟨b,2,none⟩=some (.int .i64 nn)∧W.cell? ⟨mb,0,none⟩=some mv) _ _ _ _ ?_
  refine wpAnyH_take (i:=0) (v:=mv) rfl (by kernel_rfl) (by kernel_rfl) (by kernel_rfl) (fun _ _ _ h=>h) (Or.inl ⟨by rfl,fun w hSw=>by (obtain ⟨s1,s2,s3,s4,s5⟩:=hSw; go_simp)⟩) hS ?_
  simp only [Act.put,List.setIfInBounds_toArray,List.set_cons_zero,List.set_cons_succ]
  refine wpAnyH_take (i:=1) (v:=.int .i64 t) rfl (by kernel_rfl) (by kernel_rfl) (by kernel_rfl) (fun _ _ _ h=>h) (Or.inl ⟨by rfl,fun w hSw=>by (obtain ⟨s1,s2,s3,s4,s5⟩:=hSw; go_simp)⟩) hS ?_
  simp only [Act.put,List.setIfInBounds_toArray,List.set_cons_zero,List.set_cons_succ,List.getElem_toArray,List.getElem_cons_succ,List.getElem_cons_zero]
  refine wpAnyH_take (i:=2) (v:=.pointer (some ⟨gb,0,none⟩)) rfl (by kernel_rfl) (by kernel_rfl) (by kernel_rfl) (fun _ _ _ h=>h) (Or.inl ⟨by rfl,fun w hSw=>by (obtain ⟨s1,s2,s3,s4,s5⟩:=hSw; go_simp)⟩) hS ?_
  simp only [Act.put,List.setIfInBounds_toArray,List.set_cons_zero,List.set_cons_succ,List.getElem_toArray,List.getElem_cons_succ,List.getElem_cons_zero]
  refine wpAnyH_take (i:=4) (v:=.int .i64 i) rfl (by kernel_rfl) (by kernel_rfl) (by kernel_rfl) (fun _ _ _ h=>h) (Or.inl ⟨by rfl,fun w hSw=>by (obtain ⟨s1,s2,s3,s4,s5⟩:=hSw; go_simp)⟩) hS ?_
  simp only [Act.put,List.setIfInBounds_toArray,List.set_cons_zero,List.set_cons_succ,List.getElem_toArray,List.getElem_cons_succ,List.getElem_cons_zero]
  refine wpAnyH_take (i:=5) (v:=.pointer (some ⟨b,2,none⟩)) rfl (by kernel_rfl) (by kernel_rfl) (by kernel_rfl) (fun _ _ _ h=>h) (Or.inl ⟨by rfl,fun w hSw=>by (obtain ⟨s1,s2,s3,s4,s5⟩:=hSw; go_simp)⟩) hS ?_
  simp only [Act.put,List.setIfInBounds_toArray,List.set_cons_zero,List.set_cons_succ,List.getElem_toArray,List.getElem_cons_succ,List.getElem_cons_zero]
  refine wpAnyH_take (i:=6) (v:=.int .i64 nn) rfl (by kernel_rfl) (by kernel_rfl) (by kernel_rfl) (fun _ _ _ h=>h) (Or.inl ⟨by rfl,fun w hSw=>by (obtain ⟨s1,s2,s3,s4,s5⟩:=hSw; go_simp)⟩) hS ?_
  simp only [Act.put,List.setIfInBounds_toArray,List.set_cons_zero,List.set_cons_succ,List.getElem_toArray,List.getElem_cons_succ,List.getElem_cons_zero]
  refine wpAnyH_ready (rs:=[3]) (by kernel_rfl) (by simp) (AllReadyH.cons rfl (fun K hK=>?_) AllReadyH.nil)
  go_simp
  refine Calls.mono (picks_any (gb:=gb) (rb:=rb) (k:=k) _ hS.1 hS.2.1) ?_
  rintro _ _ ⟨rfl,rfl⟩
  refine hK.out _ _ hS (fun _=>?_)
  clear hK K
  refine wpAnyH_take (i:=7) (v:=.agg #[.int .i64 t,.int .i64 k,.int .i64 i,.int .i64 nn]) rfl (by kernel_rfl) (by kernel_rfl) (by kernel_rfl) (fun _ _ _ h=>h) (Or.inl ⟨by rfl,fun w hSw=>by go_simp⟩) hS ?_
  simp only [Act.put,List.setIfInBounds_toArray,List.set_cons_zero,List.set_cons_succ,List.getElem_toArray,List.getElem_cons_succ,List.getElem_cons_zero]
  refine wpAnyH_ready (rs:=[8]) (by kernel_rfl) (by simp) (AllReadyH.cons rfl (fun K hK=>?_) AllReadyH.nil)
  go_simp
  have hS2:∀ o,(x.alloc o).drew.cell? ⟨gb,0,none⟩=some (.pointer (some ⟨rb,0,none⟩))∧(x.alloc o).drew.cell? ⟨rb,0,none⟩=some (.int .i64 k)∧(x.alloc o).drew.cell? ⟨tb,0,none⟩=some (.int .i64 t)∧(x.alloc o).drew.cell? ⟨b,2,none⟩=some (.int .i64 nn)∧(x.alloc o).drew.cell? ⟨mb,0,none⟩=some mv :=
    fun o=>⟨(World.cell?_alloc_some x _ o (by rw [c1]; rfl)).trans c1,(World.cell?_alloc_some x _ o (by rw [c2]; rfl)).trans c2,(World.cell?_alloc_some x _ o (by rw [c4]; rfl)).trans c4,(World.cell?_alloc_some x _ o (by rw [c5]; rfl)).trans c5,(World.cell?_alloc_some x _ o (by rw [c3']; rfl)).trans c3'⟩
  refine hK.out _ _ (hS2 _) (fun _=>?_)
  clear hK K
  refine wpAnyH_ready (rs:=[9]) (by kernel_rfl) (by simp) (AllReadyH.cons rfl (fun K hK=>?_) AllReadyH.nil)
  refine step_append_lies _ (by rfl) _ _ _ (by rfl) B 37 i0 _ 4 32 Try.underlying27 hinf hz0 hz1 hz2 rfl (by decide) mv n xs (by rfl) ((ho.alloc _).drew) ⟨x.heap.size,0,none⟩ 1 1 (mkV (t,k,i,nn)) (by rfl) (by rfl) (World.news_of_block (cs:=#[.int .i64 t,.int .i64 k,.int .i64 i,.int .i64 nn]) (t:=37) (fr:=(0,0)) (heap_alloc_new _ _)) (by simp [mkV,Value.oneCell']) (by omega) (by unfold maxLen; omega) (by omega) (by simp; omega) _ rfl ?_
  intro g cap w1 hown hgrow hat hlt
  have hS3:=hS2 (.cells #[.int .i64 t,.int .i64 k,.int .i64 i,.int .i64 nn] 37)
  have far:∀ (c o:Nat) (v:Value),c < x.heap.size→mv.ownBlock≠some c→(x.alloc (.cells #[.int .i64 t,.int .i64 k,.int .i64 i,.int .i64 nn] 37)).drew.cell? ⟨c,o,none⟩=some v→w1.cell? ⟨c,o,none⟩=some v:=fun c o v h1 h2 h3=>(hgrow.cell_far _ (by simp; omega) (Ne.symm h2)).trans h3
  refine hK.out _ _ ⟨far _ _ _ l1 n1 hS3.1,far _ _ _ l2 n2 hS3.2.1,far _ _ _ l4 n4 hS3.2.2.1,far _ _ _ l5 n5 hS3.2.2.2.1,far _ _ _ l3 n3 hS3.2.2.2.2⟩ (fun _=>?_)
  clear hK K
  simp only [Act.put,List.setIfInBounds_toArray,List.set_cons_zero,List.set_cons_succ,List.getElem_toArray,List.getElem_cons_succ,List.getElem_cons_zero]
  have hb1:=(hgrow.block mb (by simp; omega) (Ne.symm n3)).trans (hmz _)
  have hc1:=obj_cell hb1 (o:=0) rfl
  have hf1:=obj_thaw hb1 0
  refine wpAnyH_ready (rs:=[10]) (by kernel_rfl) (by simp) (AllReadyH.cons rfl (fun K hK=>?_) AllReadyH.nil)
  go_simp
  refine hK.out _ _ ⟨far _ _ _ l1 n1 hS3.1,far _ _ _ l2 n2 hS3.2.1,far _ _ _ l4 n4 hS3.2.2.1,far _ _ _ l5 n5 hS3.2.2.2.1,far _ _ _ l3 n3 hS3.2.2.2.2⟩ (fun _=>?_)
  clear hK K
  refine wpAnyH_done (by kernel_rfl) ?_ _
  unfold LastQ
  go_simp
  show Q _ _ _
  refine hQ _ _ (by simp) (fun j hj=>?_) ?_
  · rw [← h0,← h2,← h3,← h5,← h6]
    exact slots_eq f j hj
  · refine Marked.mk ?_ ?_ ⟨.slice (some ⟨g,0,none⟩) (n+1) cap,?_,?_,?_⟩
    · have:=hgrow.size
      simp at this ⊢
      omega
    · intro c hc h1 h2
      rw [heap_setCell_ne (a:=⟨mb,0,none⟩) (b:=c) (Ne.symm h1),hgrow.block c (by simp; omega) (Ne.symm h2)]
      exact alloc_old hc
    · exact heap_set (a:=⟨mb,0,none⟩) (w:=w1) rfl hb1
    · refine ownsRow_setCell_other hown (fun e=>?_) _
      have hg2:g=mb:=by simpa [Value.ownBlock] using e
      subst hg2
      rcases hat with z | z
      · exact n3 z
      · simp at z; omega
    · intro g' hg'
      have hg2:g=g':=by simpa [Value.ownBlock] using hg'
      subst hg2
      rcases hat with z | z
      · exact .inl z
      · right; rw [z]; simp
theorem kept_set {j gb o:Nat} {E:Env} {w:World} {v:Value} (gW:E.W gb=false):Kept j (some gb) E w E (w.setCell ⟨gb,o,none⟩ v) :=
  ⟨.refl j E,by simp [World.setCell],fun b n _ _ hg _=>heap_setCell_ne (a:=⟨gb,o,none⟩) (fun e=>hg (congrArg some e)),fun b hW x st sm e hx=>⟨st,sm,by rw [heap_setCell_ne (a:=⟨gb,o,none⟩) (fun z=>by have z':gb=b:=z; rw [z',hW] at gW; cases gW)]; exact hx⟩,fun _ _ h=>.inl h,fun _ h=>.inl h⟩
theorem kept_alloc {j:Nat} {gb:Option Nat} {E:Env} {w:World} {o:Obj}:Kept j gb E w E (w.alloc o) :=
  ⟨.refl j E,by rw [alloc_size]; omega,fun b n _ _ _ hl=>alloc_old hl,fun b hW x st sm e hx=>⟨st,sm,by rw [alloc_old (Array.getElem?_eq_some_iff.1 hx).1]; exact hx⟩,fun _ _ h=>.inl h,fun _ h=>.inl h⟩
section
variable {σ Λ:Type} {D:Prot σ Λ} {h rb:Nat} {home:Goroutine→Prop} {k:Int} {th:Th} {F:Machine→Trace→Prop} {E E1:Env} {w w1:World} {s:σ} {o:Option Λ} {r:Role}
theorem Prot.at (m:D.M s E w) {j:Nat} (hWH:∀ b,E.W b=true→E.H b=some 1) (a:AtE j E w E1 w1):D.M s E1 w1 :=
  D.closed _ _ _ _ _ m fun b _ hn=>⟨by rw [a.1.H']; exact hn,a.2.heap b (by
    cases e:E.W b with
    | false=>rfl
    | true=>rw [hWH b e] at hn; cases hn)⟩
theorem Prot.set (m:D.M s E w) {gb x n:Nat} {v:Value} (gH:E.H gb=some n):D.M s E (w.setCell ⟨gb,x,none⟩ v) :=
  D.closed _ _ _ _ _ m fun b _ hn=>⟨hn,heap_setCell_ne (a:=⟨gb,x,none⟩) (fun e=>by have e':gb=b:=e; rw [e',hn] at gH; cases gH)⟩
theorem Prot.alloc (m:D.M s E w) {x:Obj}:D.M s E (w.alloc x):=D.closed _ _ _ _ _ m fun b hb hn=>⟨hn,alloc_old hb⟩
theorem TKn.gct (T:TKn h rb home k th E w):th.gb≠th.ct:=fun e=>by have h1:=T.gH; rw [e,T.ctH] at h1; cases h1
theorem Back.kept (B:Back D h rb home th F E w s o r) (a:Kept th.j (some th.gb) E w E1 w1):Back D h rb home th F E1 w1 s o r :=
  fun E2 w2 kk g₂ hk hm hg hc hh=>B E2 w2 kk g₂ (a.trans hk) hm hg hc hh
theorem GA.at {j:Nat} {en fr:Bool} {tl:Int × Int × Int} (g:GA w rb th en fr tl) (gW:E.W th.gb=false) (a:AtE j E w E1 w1):GA w1 rb th en fr tl:=by
  unfold GA at g ⊢
  rw [a.2.heap _ gW]; exact g
def OffAt (gb box rb:Nat) (b₀:Frame) (a₀:Act) (ops₀:Array Oper) (i₀:Nat) (rest₀:List Nat) (k₀:List Item) (cl:List Frame):Prop :=
  ∀ {j hr ct cs:Nat} {en fr:Bool} {s p q:Int} {ty:TypeId} {E:Env} {w:World} {F:Machine→Trace→Prop} {home:Goroutine→Prop},w.heap[gb]?=some (gateObj rb ct cs en fr s p q ty)→E.W gb=false→w.cell? ⟨box,0,none⟩=some (.pointer (some ⟨gb,0,none⟩))→E.W box=false→E.role hr=.seat cs home→hr≠j→0 < j→E.wg j=some rb →
    E.role j=.gone→E.W w.heap.size=false →
    (∀ E1 w1 k g₂,AtE j E (w.alloc (.cells #[] 111)) E1 w1→w1.heap[cs]?=some (.chan 0 #[] false k k false)→home g₂→HG Try.prog hr F (E1.setRole j (.ender rb)) (Go.Conc.served g₂ (.bool false)) (w1.setChan cs 0 #[] false (k+1) (k+1) false)) →
    HG Try.prog j F E (G { b₀.at a₀ (.inRegion ops₀ (i₀ :: rest₀) :: k₀) with mode:=.panicking [{ v:=letGoV,recovered:=false }] } cl) w
variable {b₀:Frame} {a₀:Act} {ops₀:Array Oper} {i₀:Nat} {rest₀:List Nat} {k₀:List Item} {cl:List Frame}
theorem LiveRet.offAt {gb box:Nat} (L:LiveRet gb box rb b₀ a₀ ops₀ i₀ rest₀ k₀ cl):OffAt gb box rb b₀ a₀ ops₀ i₀ rest₀ k₀ cl:=L.off
theorem OffAt.up {gb box f:Nat} {fn:Func} {a:Act} {ops:Array Oper} {i:Nat} {rest:List Nat} {k:List Item} (O:OffAt gb box rb b₀ a₀ ops₀ i₀ rest₀ k₀ cl) (hf:Try.prog.funcs[f]?=some fn) (ha:a.defers=[]) :
    OffAt gb box rb (base f) a ops i rest k (b₀.at a₀ (.inRegion ops₀ (i₀ :: rest₀) :: k₀) :: cl):=by
  intro j hr ct cs en fr s p q ty E w F home h1 h2 h3 h4 h5 h6 h7 h8 h9 h10 h11
  refine Idl.unwindNone (n:=1) (idl_hg Try.prog j F E w) ha hf rfl ?_
  exact O h1 h2 h3 h4 h5 h6 h7 h8 h9 h10 h11
theorem offAt_end {fr:Bool} {tl:Int × Int × Int} (O:OffAt th.gb th.box rb b₀ a₀ ops₀ i₀ rest₀ k₀ cl) (T:TKn h rb home k th E w) (g:GA w rb th false fr tl) (m:D.M s E w) (B:Back D h rb home th F E w s none (.ender rb)) :
    HG Try.prog th.j F E (G { b₀.at a₀ (.inRegion ops₀ (i₀ :: rest₀) :: k₀) with mode:=.panicking [{ v:=letGoV,recovered:=false }] } cl) w:=by
  refine HG.open fun E1 w1 hA ⟨gs,T',q,C,_⟩=>?_
  have hWH:∀ b,E1.W b=true→E1.H b=some 1:=C.fit.sub
  have hWH0:∀ b,E.W b=true→E.H b=some 1:=fun b hb=>by rw [← hA.1.H']; exact hWH b (by rw [hA.1.W']; exact hb)
  have T1:=T.kept (Kept.of_at hA) T.gct
  have g1:=GA.at g T.gW hA
  have hn:E1.W w1.heap.size=false:=by
    cases e:E1.W w1.heap.size with
    | false=>rfl
    | true=>have:=hWH _ e; rw [C.fit.bound _ (Nat.le_refl _)] at this; cases this
  refine O g1 T1.gW (C.keep th.j _ _ T1.stB) T1.bW T1.run T1.hj T1.j0 T1.wg T1.role hn (fun E2 w2 kk g₂ hA2 hcs hh=>?_)
  have m2:=Prot.at (D:=D) (Prot.alloc (Prot.at m hWH0 hA) (x:=.cells #[] 111)) hWH hA2
  refine B E2 w2 kk g₂ ((Kept.of_at hA).trans (kept_alloc.trans (Kept.of_at hA2))) m2 ⟨fr,tl,GA.at ?_ T1.gW hA2⟩ hcs hh
  unfold GA at g1 ⊢
  rw [alloc_old T1.gL]; exact g1
theorem body_ret {fr:Bool} {tl:Int × Int × Int} (L:LiveRet th.gb th.box rb b₀ a₀ ops₀ i₀ rest₀ k₀ cl) (T:TKn h rb home k th E w) (g:GA w rb th false fr tl) (m:D.M s E w) (B:Back D h rb home th F E w s none (.ender rb)) :
    HG Try.prog th.j F E (G (b₀.at (a₀.put ((ops₀[i₀]?).bind (·.dst)) (.tuple #[])) (.inRegion ops₀ rest₀ :: k₀)) cl) w:=by
  refine HG.open fun E1 w1 hA ⟨gs,T',q,C,_⟩=>?_
  have hWH:∀ b,E1.W b=true→E1.H b=some 1:=C.fit.sub
  have hWH0:∀ b,E.W b=true→E.H b=some 1:=fun b hb=>by rw [← hA.1.H']; exact hWH b (by rw [hA.1.W']; exact hb)
  have T1:=T.kept (Kept.of_at hA) T.gct
  have g1:=GA.at g T.gW hA
  refine L.ret g1 T1.gW (C.keep th.j _ _ T1.stB) T1.bW T1.run T1.hj T1.j0 T1.wg (fun E2 w2 kk g₂ hA2 hcs hh=>?_)
  exact B E2 w2 kk g₂ (Kept.of_at (hA.trans hA2)) (Prot.at m hWH0 (hA.trans hA2)) ⟨fr,tl,GA.at g T.gW (hA.trans hA2)⟩ hcs hh
theorem body_step {n:Nat} {ℓ:Λ} (T:TKn h rb home k th E w) (g:GA w rb th false false (D.tal ℓ)) (m:D.M s E w) (O:OffAt th.gb th.box rb b₀ a₀ ops₀ i₀ rest₀ k₀ cl)
    (B:Back D h rb home th F E w s (some ℓ) (.seat th.ct (Srv D rb th (n+1) ℓ)))
    (hgo:∀ (h':Nat) (home':Goroutine→Prop) (k':Int) (F':Machine→Trace→Prop) (E':Env) (w':World) (s':σ),TKn h' rb home' k' th E' w'→GA w' rb th false false (IntKind.i64.wrap ((D.tal ℓ).1+1),(D.tal ℓ).2.1,(D.tal ℓ).2.2)→D.M s' E' w'→D.fits ℓ s' →
      (∀ s'' o,D.next ℓ k' s' (s'',o)→Back D h' rb home' th F' E' w' s'' o (roleOf (Srv D rb th n) rb th o))→HG Try.prog th.j F' E' (G (b₀.at (a₀.put ((ops₀[i₀]?).bind (·.dst)) (.tuple #[])) (.inRegion ops₀ rest₀ :: k₀)) cl) w') :
    HGn Try.prog th.j F E w 100 (entry 33 Try.f33 #[.pointer (some ⟨th.gb,0,none⟩)] (b₀.at a₀ (.inRegion ops₀ (i₀ :: rest₀) :: k₀) :: cl)):=by
  refine HG.withH fun hWH _=>?_
  obtain ⟨k0,hct⟩:=T.ctC
  refine step_in (home':=Srv D rb th (n+1) ℓ) g T.gW T.run T.hj T.stT hct T.ctH T.noT (fun g₂ A=>?_) (fun E1 w1 kk g₂ hA hcs hh=>?_)
  · intro h' home' k' F' E' w' s' T' g' m' f'
    refine ⟨fun hb=>A.go g' T'.gW T'.role T'.noSt ?_,fun hb=>A.off g' T'.gW T'.role T'.noSt ?_⟩
    · have hk:=kept_set (j:=th.j) (o:=5) (w:=w') (v:=.int .i64 (IntKind.i64.wrap ((D.tal ℓ).1+1))) T'.gW
      refine hgo h' home' k' F' E' _ s' (T'.kept hk T'.gct) ?_ (Prot.set m' T'.gH) f' (fun s'' o hn=>(hb s'' o hn).kept hk)
      exact heap_set (a:=⟨th.gb,5,none⟩) (w:=w') rfl g'
    · have hk:=kept_set (j:=th.j) (o:=4) (w:=w') (v:=.bool true) T'.gW
      refine offAt_end (fr:=true) (tl:=D.tal ℓ) O (T'.kept hk T'.gct) ?_ (Prot.set m' T'.gH) (hb.kept hk)
      exact heap_set (a:=⟨th.gb,4,none⟩) (w:=w') rfl g'
  · exact B E1 w1 kk g₂ (Kept.of_at hA) (Prot.at m hWH hA) (GA.at g T.gW hA) hcs hh
end
end Go.Proofs.Ytimlbbleblijnaa.Co

namespace Go.Proofs.Ytimlbbleblijnaa.Co
open Go Go.Conc
open Go.ConcN (sumTo upd sumTo_upd upd_ne upd_same sumTo_congr le_sumTo)
structure PT where
  tb:Nat
  lb:Nat
  la:Nat
  lo:Nat
  cap:Nat
  ops:List (Int × Int × Int)
structure PS where
  ms:List Mk
  obs:List (Nat × Int)
  cnt:Nat→Nat
structure PL where
  t:Nat
  i:Nat
  b:Nat
def opN (L:List PT) (t i:Nat):Option Int:=(L[t]?).bind fun p=>(p.ops[i]?).map (·.2.2)
def opLen (L:List PT) (t:Nat):Nat:=((L[t]?).map (·.ops.length)).getD 0
theorem opN_lt {L:List PT} {t i:Nat} {n:Int} (h:opN L t i=some n):i < opLen L t∧t < L.length:=by
  unfold opN at h
  cases e:L[t]? with
  | none=>rw [e] at h; cases h
  | some p =>
    rw [e] at h
    simp only [Option.bind_some,Option.map_eq_some_iff] at h
    obtain ⟨z,h1,_⟩:=h
    exact ⟨by unfold opLen; rw [e]; exact (List.getElem?_eq_some_iff.1 h1).1,(List.getElem?_eq_some_iff.1 e).1⟩
def KC (K:Nat→Obj→Prop) (a:Addr) (v:Value):Prop:=∃ o,K a.block o∧∀ w:World,w.heap[a.block]?=some o→w.cell? a=some v
structure PlayM (mb:Nat) (K:Nat→Obj→Prop) (L:List PT) (s:PS) (E:Env) (w:World):Prop where
  mbH:E.H mb=none
  kobj:∀ b o,K b o→w.heap[b]?=some o∧E.H b=none∧b≠mb
  row:∃ mv,w.heap[mb]?=some (.cells #[mv] 27)∧w.ownsRow (mb+1) 37 4 mv s.ms.length (mksV s.ms)∧∀ g,mv.ownBlock=some g→E.H g=none∧(∀ ob ∈ s.obs,ob.1≠g)∧∀ b o,K b o→b≠g
  obs:∀ ob ∈ s.obs,ob.1≠mb∧E.H ob.1=none∧w.cell? ⟨ob.1,2,none⟩=some (.int .i64 ob.2)
  len:s.ms.length=sumTo L.length s.cnt
  cnt:∀ t,s.cnt t≤opLen L t
theorem PlayM.konst {mb:Nat} {K:Nat→Obj→Prop} {L:List PT} {s:PS} {E:Env} {w:World} (m:PlayM mb K L s E w) (a:Addr) (v:Value) (h:KC K a v):w.cell? a=some v∧E.H a.block=none∧a.block≠mb:=by
  obtain ⟨o,h1,h2⟩:=h
  obtain ⟨k1,k2,k3⟩:=m.kobj _ _ h1
  exact ⟨h2 w k1,k2,k3⟩
theorem ownsRow_same {w w':World} {B e sz n:Nat} {v:Value} {xs:List Value} (h:w.ownsRow B e sz v n xs) (hs:∀ g,v.ownBlock=some g→w'.heap[g]?=w.heap[g]?):w'.ownsRow B e sz v n xs:=by
  refine ⟨h.1,h.2.imp id fun ⟨g,cap,cur,e1,e2,e3,r⟩=>⟨g,cap,cur,e1,e2,?_,r⟩⟩
  rw [hs g (by rw [e1]; rfl)]; exact e3
theorem cell_hp {w w':World} {a:Addr} (h:w'.heap[a.block]?=w.heap[a.block]?):w'.cell? a=w.cell? a:=by
  unfold World.cell?; rw [h]
theorem cell_lt {w:World} {a:Addr} {v:Value} (h:w.cell? a=some v):a.block < w.heap.size:=World.block_lt_of_cell? w a h
def adv (L:List PT) (t i:Nat) (s:PS) (z:PS × Option PL):Prop :=
  (∃ b n,opN L t i=some n∧z=({ s with obs:=s.obs ++ [(b,n)] },some ⟨t,i,b⟩))∨(opLen L t=i∧z=(s,none))
def mark (s:PS) (t i:Nat) (k n:Int):PS:={ s with ms:=s.ms ++ [((t:Int),k,(i:Int),n)],cnt:=upd s.cnt t (i+1) }
def playD (mb:Nat) (K:Nat→Obj→Prop) (L:List PT):Prot PS PL where
  M:=PlayM mb K L
  next ℓ k s z:=∃ n,opN L ℓ.t ℓ.i=some n∧adv L ℓ.t (ℓ.i+1) (mark s ℓ.t ℓ.i k n) z
  fits ℓ s:=s.cnt ℓ.t=ℓ.i∧∃ n,opN L ℓ.t ℓ.i=some n∧(ℓ.b,n) ∈ s.obs
  who ℓ:=ℓ.t
  init t s:=∀ t',t≤t'→s.cnt t'=0
  mono:=fun ℓ k s s' o l2 h1 ⟨c2,n2,e2,m2⟩ hw ⟨n,hn,ha⟩=>by
    rcases ha with ⟨b,n',h3,h4⟩ | ⟨h3,h4⟩
    · cases h4
      exact ⟨(upd_ne _ _ hw).trans c2,n2,e2,List.mem_append_left _ m2⟩
    · cases h4
      exact ⟨(upd_ne _ _ hw).trans c2,n2,e2,m2⟩
  fresh:=fun ℓ k s s' l' h1 ⟨n,hn,ha⟩=>by
    rcases ha with ⟨b,n',h3,h4⟩ | ⟨h3,h4⟩
    · cases h4
      exact ⟨⟨upd_same ..,n',h3,List.mem_append_right _ (List.mem_singleton.2 rfl)⟩,rfl⟩
    · cases h4
  tal ℓ:=((ℓ.i:Int),0,0)
  closed:=fun s E w E' w' m hb=>by
    have hc:∀ {a v},w.cell? a=some v→E.H a.block=none→w'.cell? a=some v:=fun {a v} e1 e2=>(cell_hp (hb a.block (cell_lt e1) e2).2).trans e1
    obtain ⟨mv,r1,r2,r3⟩:=m.row
    have hl:=(Array.getElem?_eq_some_iff.1 r1).1
    refine ⟨(hb mb hl m.mbH).1,fun b o hk=>?_,⟨mv,by rw [(hb mb hl m.mbH).2]; exact r1,ownsRow_same r2 (fun g hg=>(hb g (r2.lt g hg).2 (r3 g hg).1).2),fun g hg=>⟨(hb g (r2.lt g hg).2 (r3 g hg).1).1,(r3 g hg).2⟩⟩,fun ob ho=>?_,m.len,m.cnt⟩
    · obtain ⟨k1,k2,k3⟩:=m.kobj b o hk
      have hl:=(Array.getElem?_eq_some_iff.1 k1).1
      exact ⟨(hb b hl k2).2.trans k1,(hb b hl k2).1,k3⟩
    · obtain ⟨k1,k2,k3⟩:=m.obs ob ho
      exact ⟨k1,(hb ob.1 (cell_lt k3) k2).1,hc k3 k2⟩
theorem play_start {mb:Nat} {K:Nat→Obj→Prop} {L:List PT} (t:Nat):StartOk (playD mb K L) t (adv L t 0):=by
  refine ⟨fun s s' o l2 hi ha hw ⟨c2,n2,e2,m2⟩=>?_,fun s s' l' hi ha=>?_,fun s s' o hi ha=>?_⟩
  · rcases ha with ⟨b,n',h3,h4⟩ | ⟨h3,h4⟩
    · cases h4
      exact ⟨c2,n2,e2,List.mem_append_left _ m2⟩
    · cases h4
      exact ⟨c2,n2,e2,m2⟩
  · rcases ha with ⟨b,n',h3,h4⟩ | ⟨h3,h4⟩
    · cases h4
      exact ⟨⟨hi t (Nat.le_refl t),n',h3,List.mem_append_right _ (List.mem_singleton.2 rfl)⟩,rfl⟩
    · cases h4
  · have hc:s'.cnt=s.cnt:=by
      rcases ha with ⟨b,n',h3,h4⟩ | ⟨h3,h4⟩ <;> cases h4 <;> rfl
    exact fun t' ht=>by rw [hc]; exact hi t' (by omega)
theorem quiet_kept {E:Env} {w w':World} {j:Nat} {gb:Option Nat} (hF:Far E.H E.W w w') (hfit:Fit E.H E.W w) {S:Nat→Prop} (hS:∀ c,S c→E.H c=none) (hold:∀ c,c < w.heap.size→¬ S c→(vw E.H w').heap[c]?=(vw E.H w).heap[c]?) :
    Kept j gb E w E w'∧∀ c,c < w.heap.size→¬ S c→E.W c=false→w'.heap[c]?=w.heap[c]?:=by
  obtain ⟨q1,q2⟩:=quiet_heap hF hfit
  refine ⟨⟨.refl j E,hF.size,fun b n hb hw _ hl=>q1 b hl hw (hold b hl (fun z=>by rw [hS b z] at hb; cases hb)),fun b hW x st sm e hx=>q2 b hW (hold b (Array.getElem?_eq_some_iff.1 hx).1 (fun z=>by have:=hfit.sub b hW; rw [hS b z] at this; cases this)) x st sm e hx,fun _ _ h=>.inl h,fun _ h=>.inl h⟩,fun c hl hn hW=>q1 c hl hW (hold c hl hn)⟩
theorem sumTo_le {f g:Nat→Nat}:∀ (n:Nat),(∀ i,f i≤g i)→sumTo n f≤sumTo n g
  | 0,_=>Nat.le_refl _
  | n+1,h=>Nat.add_le_add (sumTo_le n h) (h n)
structure RegsP (T:Array Value) (gb:Nat) (p:PT) (mb i:Nat):Prop where
  sz:T.size=27
  t0:T[0]?=some (.pointer (some ⟨gb,0,none⟩))
  t2:T[2]?=some (.pointer (some ⟨mb,0,none⟩))
  t3:T[3]?=some (.pointer (some ⟨p.tb,0,none⟩))
  t7:T[7]?=some (.slice (some ⟨p.la,p.lo,none⟩) p.ops.length p.cap)∨p.ops=[]
  t8:T[8]?=some (.int .i64 (p.ops.length:Int))
  t9:T[9]?=some (.int .i64 (i:Int))
noncomputable def pR5:Code:=match pL with | .seq _ (.seq _ (.seq _ x))=>x | _=>.skip
noncomputable def xR5:Code:=pR5
noncomputable def hdP:List Item:=[.code pL,.inLoop pL,.inBlock 0]
noncomputable def hdP4:List Item:=[.code pR4,.inBlock 1,.code pR5,.inLoop pL,.inBlock 0]
section
variable {h rb mb t i b:Nat} {home:Goroutine→Prop} {k n:Int} {th:Th} {F:Machine→Trace→Prop} {E:Env} {w:World} {s:PS} {K:Nat→Obj→Prop} {L:List PT} {p:PT} {T:Array Value} {c:Frame} {cl:List Frame}
theorem playM_mark {E1:Env} {w1 w' x x':World} {mv:Value} (m:PlayM mb K L s E1 w1) (hF:Far E1.H E1.W w1 w') (hfit:Fit E1.H E1.W w1) (hx:x.heap=(vw E1.H w1).heap) (hx':x'.heap=(vw E1.H w').heap) (hmv:w1.heap[mb]?=some (.cells #[mv] 27)) (hi:s.cnt t=i) (hn:opN L t i=some n) (M:Marked (mb+1) mb mv (mksV s.ms ++ mkV ((t:Int),k,(i:Int),n)) (s.ms.length+1) x x') :
    PlayM mb K L (mark s t i k n) E1 w'∧∀ {j:Nat} {gb:Option Nat},Kept j gb E1 w1 E1 w'∧∀ a,E1.H a=some 1→E1.W a=false→a < w1.heap.size→w'.heap[a]?=w1.heap[a]?:=by
  obtain ⟨mv0,r1,r2,r3⟩:=m.row
  have e0:mv0=mv:=by
    rw [hmv] at r1
    simpa using r1.symm
  subst e0
  have hxs:x.heap.size=w1.heap.size:=by rw [hx]; simp
  have hS:∀ c,(c=mb∨mv0.ownBlock=some c)→E1.H c=none:=fun c hc=>by
    rcases hc with rfl | hc
    · exact m.mbH
    · exact (r3 c hc).1
  have hvis:∀ c,E1.H c=none→w'.heap[c]?=x'.heap[c]?:=fun c hc=>by rw [hx',vw_get_none hc]
  have hold:∀ c,c < w1.heap.size→¬ (c=mb∨mv0.ownBlock=some c)→(vw E1.H w').heap[c]?=(vw E1.H w1).heap[c]?:=fun c hc hn=>by
    rw [← hx',← hx]
    exact M.old c (by omega) (fun e=>hn (.inl e)) (fun e=>hn (.inr e))
  have hk:=fun (j:Nat) (gb:Option Nat)=>quiet_kept (j:=j) (gb:=gb) hF hfit hS hold
  have hWn:∀ c,E1.H c=none→E1.W c=false:=fun c hc=>by
    cases e:E1.W c with
    | false=>rfl
    | true=>have:=hfit.sub c e; rw [hc] at this; cases this
  have hcell:∀ {a v},w1.cell? a=some v→E1.H a.block=none→a.block≠mb→mv0.ownBlock≠some a.block→w'.cell? a=some v:=fun {a v} e1 e2 e3 e4 =>
    (cell_hp ((hk 0 none).2 a.block (cell_lt e1) (fun z=>z.elim e3 e4) (hWn _ e2))).trans e1
  obtain ⟨mv',v1,v2,v3⟩:=M.new
  have hg':∀ g,mv'.ownBlock=some g→E1.H g=none:=fun g hg=>by
    rcases v3 g hg with z | z
    · exact (r3 g z).1
    · exact hfit.bound g (by omega)
  refine ⟨⟨m.mbH,fun b o hka=>?_,⟨mv',by rw [hvis mb m.mbH]; exact v1,?_,fun g hg=>⟨hg' g hg,fun ob ho=>?_,fun b o hka=>?_⟩⟩,fun ob ho=>?_,?_,fun t'=>?_⟩,fun {j gb}=>⟨(hk j gb).1,fun a h1 h2 h3=>(hk j gb).2 a h3 (fun z=>by rw [hS a z] at h1; cases h1) h2⟩⟩
  · obtain ⟨k1,k2,k3⟩:=m.kobj b o hka
    have hl:=(Array.getElem?_eq_some_iff.1 k1).1
    exact ⟨((hk 0 none).2 b hl (fun z=>z.elim k3 (fun e=>(r3 _ e).2.2 b o hka rfl)) (hWn _ k2)).trans k1,k2,k3⟩
  · have e1:(mark s t i k n).ms.length=s.ms.length+1:=by simp [mark]
    have e2:mksV (mark s t i k n).ms=mksV s.ms ++ mkV ((t:Int),k,(i:Int),n):=mksV_snoc _ _
    rw [e1,e2]
    exact ownsRow_same v2 (fun g hg=>hvis g (hg' g hg))
  · rcases v3 g hg with z | z
    · exact (r3 g z).2.1 ob ho
    · have:=cell_lt (m.obs ob ho).2.2
      dsimp only at this
      omega
  · rcases v3 g hg with z | z
    · exact (r3 g z).2.2 b o hka
    · have:=(Array.getElem?_eq_some_iff.1 (m.kobj b o hka).1).1
      omega
  · obtain ⟨k1,k2,k3⟩:=m.obs ob ho
    exact ⟨k1,k2,hcell k3 k2 k1 (fun e=>(r3 _ e).2.1 ob ho rfl)⟩
  · have h1:=sumTo_upd s.cnt (i+1) (fun x=>x) (j:=L.length) (i:=t) (opN_lt hn).2
    have h2:=m.len
    show (s.ms ++ [_]).length=sumTo L.length (upd s.cnt t (i+1))
    simp only [List.length_append,List.length_cons,List.length_nil]
    have h3:sumTo L.length (fun a=>upd s.cnt t (i+1) a)=sumTo L.length (upd s.cnt t (i+1)):=rfl
    have h4:sumTo L.length (fun a=>s.cnt a)=sumTo L.length s.cnt:=rfl
    omega
  · show upd s.cnt t (i+1) t'≤_
    by_cases e:t'=t
    · subst e
      rw [upd_same]; exact (opN_lt hn).1
    · rw [upd_ne _ _ e]; exact m.cnt t'
end
section
variable {h rb mb t i b:Nat} {home:Goroutine→Prop} {k n:Int} {th:Th} {F:Machine→Trace→Prop} {E:Env} {w:World} {s:PS} {K:Nat→Obj→Prop} {L:List PT} {p:PT} {Tr:Array Value} {c:Frame} {cl:List Frame}
theorem runObj_first {x:Value} {st sm:Int} {e:TypeId} {w:World} {rb:Nat} {v:Value} (h:w.heap[rb]?=some (runObj x st sm e)) (hc:w.cell? ⟨rb,0,none⟩=some v):x=v:=by
  have:=obj_cell (o:=0) (v:=x) (by unfold runObj at h; exact h) rfl
  rw [this] at hc
  exact Option.some.inj hc
theorem play_mark {en fr:Bool} {tl:Int × Int × Int} (hpt:L[t]?=some p) (hK3:KC K ⟨p.tb,0,none⟩ (.int .i64 (t:Int))) (hbound:sumTo L.length (opLen L)≤1000000000000) (hl:p.ops.length≤1000000000000) (TK:TKn h rb home k th E w) (g:GA w rb th en fr tl) (m:PlayM mb K L s E w) (hi:s.cnt t=i) (hn:opN L t i=some n) (hob:(b,n) ∈ s.obs)
    (R:RegsP Tr th.gb p mb i) (t5:Tr[5]?=some (.int .i64 (i:Int))) (t6:Tr[6]?=some (.pointer (some ⟨b,0,none⟩)))
    (hc:∀ E1 w' T',Kept th.j (some th.gb) E w E1 w'→TKn h rb home k th E1 w'→GA w' rb th en fr tl→PlayM mb K L (mark s t i k n) E1 w'→RegsP T' th.gb p mb (i+1)→HG Try.prog th.j F E1 (G ((base 67).at ⟨T',[]⟩ hdP) (c :: cl)) w') :
    HG Try.prog th.j F E (G ((base 67).at ⟨Tr,[]⟩ hdP4) (c :: cl)) w:=by
  refine HG.withH fun hWH _=>?_
  unfold hdP4
  refine HG.quietF closed_picks (Q:=fun a' w' E1 w1=>a'.tmps.size=27∧(∀ j,j < 16→a'.tmps[j]?=Tr[j]?)∧∃ mv x x',w1.heap[mb]?=some (.cells #[mv] 27)∧World.heap x=(vw E1.H w1).heap∧World.heap x'=(vw E1.H w').heap∧Fit E1.H E1.W w1∧Marked (mb+1) mb mv (mksV s.ms ++ mkV ((t:Int),k,(i:Int),n)) (s.ms.length+1) x x') (by kernel_rfl) rfl rfl (fun E1 w1 hA hf τ=>?_) (fun E1 w1 hA a' w' h1 h2 h3 hq=>?_)
  · have T1:=TK.kept (Kept.of_at hA) TK.gct
    have m1:PlayM mb K L s E1 w1:=Prot.at (D:=playD mb K L) m hWH hA
    obtain ⟨mv,r1,r2,r3⟩:=m1.row
    have g1:=GA.at g TK.gW hA
    have hWH1:∀ b,E1.W b=true→E1.H b=some 1:=hf.sub
    have hrH:E1.H rb=some 1:=hWH1 rb T1.rW
    obtain ⟨st,sm,xv,e0,hrl⟩:=T1.rL
    have hxv:=runObj_first hrl T1.pick
    obtain ⟨f,rfl⟩:=arrf Tr R.sz
    obtain ⟨_,q0,q2,q3,_,_,_⟩:=R
    simp only [arrf_get f (show 0 < 27 by decide),arrf_get f (show 2 < 27 by decide),arrf_get f (show 3 < 27 by decide),arrf_get f (show 5 < 27 by decide),arrf_get f (show 6 < 27 by decide),Option.some.injEq] at q0 q2 q3 t5 t6
    obtain ⟨k1,k2,k3⟩:=m1.konst _ _ hK3
    obtain ⟨o1,o2,o3⟩:=m1.obs _ hob
    have hxs:(rt (vw E1.H w1) τ 0).heap.size=w1.heap.size:=by simp
    have hsome:∀ {c x:Nat},mv.ownBlock=some c→E1.H c=some x→False:=fun {c x} e1 e2=>by rw [(r3 c e1).1] at e2; cases e2
    have hcb:mb < w1.heap.size:=(Array.getElem?_eq_some_iff.1 r1).1
    refine mark_wp (gb:=th.gb) (rb:=rb) (mb:=mb) (tb:=p.tb) (b:=b) (B:=mb+1) (n:=s.ms.length) (k:=k) (nn:=n) (t:=(t:Int)) (i:=(i:Int)) (mv:=mv) (xs:=mksV s.ms) q0 q2 q3 t5 t6 ?_ ?_ ?_ ?_ ?_ ?_ (fun e=>hsome e T1.gH) (fun e=>hsome e hrH) (fun e=>?_) (fun e=>?_) (fun e=>?_) (fun e=>?_) (fun e=>?_) k3 o1 ?_ (by rw [hxs]; exact hcb) (fun T' x' hs hj hM=>?_)
    · exact vw_first T1.gH (by unfold GA gateObj at g1; exact g1) rfl
    · exact vw_first hrH (by unfold runObj at hrl; exact hrl) (by rw [← hxv]; rfl)
    · show (vw E1.H w1).heap[mb]?=_
      rw [vw_get_none m1.mbH]; exact r1
    · rw [vw_cellN k2]; exact k1
    · rw [vw_cellN o2]; exact o3
    · exact ownsRow_same r2 (fun g' hg'=>by
        show (vw E1.H w1).heap[g']?=_
        rw [vw_get_none (r3 g' hg').1])
    · exact absurd (r2.lt mb e).1 (by omega)
    · obtain ⟨o3',k3',_⟩:=hK3
      exact (r3 _ e).2.2 _ _ k3' rfl
    · exact (r3 _ e).2.1 _ hob rfl
    · have:=m1.mbH; rw [← e,T1.gH] at this; cases this
    · have:=m1.mbH; rw [← e,hrH] at this; cases this
    · have h2:=m1.len
      have h3:=sumTo_le L.length m1.cnt
      omega
    · refine ⟨rfl,rfl,fun w' τ' d he hF hf'=>⟨hs,fun j hj'=>?_,mv,rt (vw E1.H w1) τ 0,x',r1,rfl,by rw [he]; rfl,hf,hM⟩⟩
      rw [hj j hj',arrf_get f (by omega)]
  · obtain ⟨hs,hj,mv,x,x',hmv,hx,hx',hf,hM⟩:=hq
    have m1:PlayM mb K L s E1 w1:=Prot.at (D:=playD mb K L) m hWH hA
    obtain ⟨m2,hk⟩:=playM_mark m1 h2 hf hx hx' hmv hi hn hM
    have T1:=TK.kept (Kept.of_at hA) TK.gct
    have g1:=GA.at g TK.gW hA
    have hk2:=(hk (j:=th.j) (gb:=some th.gb)).1
    have g2:GA w' rb th en fr tl:=by
      unfold GA at g1 ⊢
      rw [(hk (j:=0) (gb:=none)).2 th.gb T1.gH T1.gW T1.gL]; exact g1
    have T2:=T1.kept hk2 T1.gct
    obtain ⟨Ta,df⟩:=a'
    have hd:df=[]:=h1
    subst hd
    dsimp only at hs hj
    have hR:∀ (j:Nat) v,j < 16→Tr[j]?=some v→Ta[j]?=some v:=fun j v h1 h2=>(hj j h1).trans h2
    have ra:=hR 0 _ (by decide) R.t0
    have rb':=hR 2 _ (by decide) R.t2
    have rc:=hR 3 _ (by decide) R.t3
    have rd:Ta[7]?=some (.slice (some ⟨p.la,p.lo,none⟩) p.ops.length p.cap)∨p.ops=[]:=R.t7.imp (hR 7 _ (by decide)) id
    have re:=hR 8 _ (by decide) R.t8
    have rf:=hR 9 _ (by decide) R.t9
    have hlt:i < p.ops.length:=by
      have:=(opN_lt hn).1
      unfold opLen at this
      rw [hpt] at this
      simpa using this
    have w3:IntKind.i64.wrap ((i:Int)+1)=((i+1:Nat):Int):=by rw [IntKind.wrap_i64]; omega
    have hcc:=fun T'=>hc E1 w' T' ((Kept.of_at hA).trans hk2) T2 g2 m2
    clear hc hk m2 hM m1 R hj hlt
    obtain ⟨f,rfl⟩:=arrf Ta hs
    simp only [arrf_get f (show 0 < 27 by decide),arrf_get f (show 2 < 27 by decide),arrf_get f (show 3 < 27 by decide),arrf_get f (show 7 < 27 by decide),arrf_get f (show 8 < 27 by decide),arrf_get f (show 9 < 27 by decide),Option.some.injEq] at ra rb' rc rd re rf
    change HGn Try.prog th.j F E1 w' 100 (G ((base 67).at _ [.inBlock 1,.code xR5,.inLoop pL,.inBlock 0]) (c :: cl))
    unfold hdP at hcc
    generalize hLP:pL=LP at hcc ⊢
    simp only [xR5,pR5,pL,pBody,Try.f67,Option.getD_some,List.range,List.range.loop,List.map_cons,List.map_nil,rf]
    refine Idl.ib (idl_hg Try.prog th.j F E1 w') (Idl.rg (idl_hg Try.prog th.j F E1 w') [0,1] rfl ?_)
    iterate 2 (apply Idl.value (idl_hg Try.prog th.j F E1 w') rfl rfl (by first | decide | exact base_kind _ | exact baseD_kind _ | assumption); (focus (intro w; go_simp; (try w_num); first | done | rfl)); (focus (intro w; simp [go_sem, *])); walk_nrm)
    refine Idl.re (idl_hg Try.prog th.j F E1 w') (Idl.il (idl_hg Try.prog th.j F E1 w') ?_)
    try simp only [w3]
    refine hcc _ ⟨by simp,by simp [ra],by simp [rb'],by simp [rc],rd.imp (fun z=>by simp [z]) id,by simp [re],by simp⟩
end
noncomputable def pR1:Code:=match pL with | .seq x _=>x | _=>.skip
noncomputable def pIf:Code:=match pL with | .seq _ (.seq x _)=>x | _=>.skip
noncomputable def pR2:Code:=match pL with | .seq _ (.seq _ (.seq (.block _ (.seq x _)) _))=>x | _=>.skip
noncomputable def pR3:Code:=match pL with | .seq _ (.seq _ (.seq (.block _ (.seq _ (.seq x _))) _))=>x | _=>.skip
theorem pL_parts:pL=.seq pR1 (.seq pIf (.seq (.block 1 (.seq pR2 (.seq pR3 pR4))) pR5)):=by kernel_rfl
noncomputable def xR1:Code:=pR1
noncomputable def xIf:Code:=pIf
noncomputable def hdP3:List Item:=[.code (.seq pR3 pR4),.inBlock 1,.code pR5,.inLoop pL,.inBlock 0]
theorem slots9 (f:Nat→Value) {x y:Value} {l:List Value}:∀ j,j < 10→j≠5→j≠6→(List.toArray (f 0 :: f 1 :: f 2 :: f 3 :: f 4 :: x :: y :: f 7 :: f 8 :: f 9 :: l))[j]?=some (f j)
  | 0,_,_,_ | 1,_,_,_ | 2,_,_,_ | 3,_,_,_ | 4,_,_,_ | 7,_,_,_ | 8,_,_,_ | 9,_,_,_=>rfl
  | 5,_,h,_=>absurd rfl h
  | 6,_,_,h=>absurd rfl h
  | n+10,h,_,_=>absurd h (by omega)
theorem op_wp {f:Nat→Value} {x:World} {la lo N cap i:Nat} {kd at' nn:Int} {Q:Exit→Act→World→Prop}
    (h7:f 7=.slice (some ⟨la,lo,none⟩) N cap) (h9:f 9=.int .i64 (i:Int)) (hi:i < N)
    (c1:x.cell? ⟨la,lo+i * 3,none⟩=some (.int .i64 kd)) (c2:x.cell? ⟨la,lo+i * 3+1,none⟩=some (.int .i64 at')) (c3:x.cell? ⟨la,lo+i * 3+2,none⟩=some (.int .i64 nn))
    (hQ:∀ T' x',T'.size=27→(∀ j,j < 10→j≠5→j≠6→T'[j]?=some (f j))→T'[5]?=some (.int .i64 (i:Int))→T'[6]?=some (.pointer (some ⟨x.heap.size,0,none⟩))→x'.heap=x.heap.push (.cells #[.int .i64 kd,.int .i64 at',.int .i64 nn] 34)→Q .normal ⟨T',[]⟩ x') :
    pR2.wp Try.prog Q ⟨(List.map f (List.range 27)).toArray,[]⟩ x:=by
  have q1:(0:Int)≤(i:Int):=by omega
  have q2:(i:Int) < (N:Int):=by omega
  have w1:=World.new_ne x _ c1
  have w2:=World.new_ne x _ c2
  have w3:=World.new_ne x _ c3
  simp only [List.range,List.range.loop,List.map_cons,List.map_nil,h7,h9]
  simp only [pR2,pL,pBody,Try.f67,Option.getD_some]
  go_wp2
  refine hQ _ _ (by simp) (fun j hj h5 h6=>?_) (by simp) (by simp) rfl
  rw [← h7,← h9]
  exact slots9 f j hj h5 h6
theorem op_wpT {T:Array Value} {x:World} {la lo N cap i:Nat} {kd at' nn:Int} {Q:Exit→Act→World→Prop} (hs:T.size=27)
    (h7:T[7]?=some (.slice (some ⟨la,lo,none⟩) N cap)) (h9:T[9]?=some (.int .i64 (i:Int))) (hi:i < N)
    (c1:x.cell? ⟨la,lo+i * 3,none⟩=some (.int .i64 kd)) (c2:x.cell? ⟨la,lo+i * 3+1,none⟩=some (.int .i64 at')) (c3:x.cell? ⟨la,lo+i * 3+2,none⟩=some (.int .i64 nn))
    (hQ:∀ T' x',T'.size=27→(∀ j,j < 10→j≠5→j≠6→T'[j]?=T[j]?)→T'[5]?=some (.int .i64 (i:Int))→T'[6]?=some (.pointer (some ⟨x.heap.size,0,none⟩))→x'.heap=x.heap.push (.cells #[.int .i64 kd,.int .i64 at',.int .i64 nn] 34)→Q .normal ⟨T',[]⟩ x') :
    pR2.wp Try.prog Q ⟨T,[]⟩ x:=by
  obtain ⟨f,rfl⟩:=arrf T hs
  rw [arrf_get f (by decide)] at h7 h9
  exact op_wp (Option.some.inj h7) (Option.some.inj h9) hi c1 c2 c3 fun T' x' a1 a2 a3 a4 a5=>hQ T' x' a1 (fun j h1 h2 h3=>by rw [a2 j h1 h2 h3,arrf_get f (by omega)]) a3 a4 a5
theorem playM_obs {mb:Nat} {K:Nat→Obj→Prop} {L:List PT} {s:PS} {E:Env} {w w':World} {n:Int} {kd at':Value} (m:PlayM mb K L s E w) (hF:Far E.H E.W w w') (hfit:Fit E.H E.W w) (hv:(vw E.H w').heap=(vw E.H w).heap.push (.cells #[kd,at',.int .i64 n] 34)) :
    PlayM mb K L { s with obs:=s.obs ++ [(w.heap.size,n)] } E w'∧∀ {j:Nat} {gb:Option Nat},Kept j gb E w E w'∧∀ a,E.W a=false→a < w.heap.size→w'.heap[a]?=w.heap[a]?:=by
  have hvs:(vw E.H w).heap.size=w.heap.size:=by simp
  have hk:=fun (j:Nat) (gb:Option Nat)=>quiet_kept (j:=j) (gb:=gb) (S:=fun _=>False) hF hfit (fun _ z=>z.elim) (fun c hc _=>by rw [hv,Array.getElem?_push,if_neg (by omega)])
  have hWn:∀ c,E.H c=none→E.W c=false:=fun c hc=>by
    cases e:E.W c with
    | false=>rfl
    | true=>have:=hfit.sub c e; rw [hc] at this; cases this
  have hcell:∀ {a v},w.cell? a=some v→E.H a.block=none→w'.cell? a=some v:=fun {a v} e1 e2=>(cell_hp ((hk 0 none).2 a.block (cell_lt e1) id (hWn _ e2))).trans e1
  obtain ⟨mv,r1,r2,r3⟩:=m.row
  have hl:=(Array.getElem?_eq_some_iff.1 r1).1
  have hb0:E.H w.heap.size=none:=hfit.bound _ (Nat.le_refl _)
  have hnew:w'.heap[w.heap.size]?=some (.cells #[kd,at',.int .i64 n] 34):=by
    rw [← vw_get_none (w:=w') hb0,hv,Array.getElem?_push,if_pos (by omega)]
  refine ⟨⟨m.mbH,fun b o hka=>?_,⟨mv,by rw [(hk 0 none).2 mb hl id (hWn _ m.mbH)]; exact r1,ownsRow_same r2 (fun g hg=>(hk 0 none).2 g (r2.lt g hg).2 id (hWn _ (r3 g hg).1)),fun g hg=>⟨(r3 g hg).1,fun ob ho=>?_,(r3 g hg).2.2⟩⟩,fun ob ho=>?_,m.len,m.cnt⟩,fun {j gb}=>⟨(hk j gb).1,fun a h1 h2=>(hk j gb).2 a h2 id h1⟩⟩
  · obtain ⟨k1,k2,k3⟩:=m.kobj b o hka
    have hl:=(Array.getElem?_eq_some_iff.1 k1).1
    exact ⟨((hk 0 none).2 b hl id (hWn _ k2)).trans k1,k2,k3⟩
  · rcases List.mem_append.1 ho with z | z
    · exact (r3 g hg).2.1 ob z
    · simp at z; subst z
      have:=(r2.lt g hg).2
      exact fun e=>by dsimp only at e; omega
  · rcases List.mem_append.1 ho with z | z
    · obtain ⟨k1,k2,k3⟩:=m.obs ob z
      exact ⟨k1,k2,hcell k3 k2⟩
    · simp at z; subst z
      exact ⟨fun e=>by dsimp only at e; omega,hb0,obj_cell hnew rfl⟩
structure PTok (K:Nat→Obj→Prop) (L:List PT) (t:Nat) (p:PT):Prop where
  pt:L[t]?=some p
  kt:KC K ⟨p.tb,0,none⟩ (.int .i64 (t:Int))
  kl:∃ aa,KC K ⟨p.lb,0,none⟩ (.slice aa p.ops.length p.cap)∧(p.ops≠[]→aa=some ⟨p.la,p.lo,none⟩)
  ops:∀ i op,p.ops[i]?=some op→KC K ⟨p.la,p.lo+i * 3,none⟩ (.int .i64 op.1)∧KC K ⟨p.la,p.lo+i * 3+1,none⟩ (.int .i64 op.2.1)∧KC K ⟨p.la,p.lo+i * 3+2,none⟩ (.int .i64 op.2.2)
  len:p.ops.length≤1000000000000
theorem PTok.n {K:Nat→Obj→Prop} {L:List PT} {t:Nat} {p:PT} (P:PTok K L t p) {i:Nat} {op:Int × Int × Int} (h:p.ops[i]?=some op):opN L t i=some op.2.2:=by unfold opN; rw [P.pt]; simp [h]
theorem PTok.ln {K:Nat→Obj→Prop} {L:List PT} {t:Nat} {p:PT} (P:PTok K L t p):opLen L t=p.ops.length:=by unfold opLen; rw [P.pt]; rfl
section
variable {h rb mb t i b:Nat} {home:Goroutine→Prop} {k n:Int} {th:Th} {F:Machine→Trace→Prop} {E:Env} {w:World} {s:PS} {K:Nat→Obj→Prop} {L:List PT} {p:PT} {Tr:Array Value} {c:Frame} {cl:List Frame}
theorem play_op {tl:Int × Int × Int} {en fr:Bool} {op:Int × Int × Int} (P:PTok K L t p) (TK:TKn h rb home k th E w) (g:GA w rb th en fr tl) (m:PlayM mb K L s E w) (hop:p.ops[i]?=some op) (R:RegsP Tr th.gb p mb i)
    (hc:∀ E1 w' T' bb,Kept th.j (some th.gb) E w E1 w'→TKn h rb home k th E1 w'→GA w' rb th en fr tl→PlayM mb K L { s with obs:=s.obs ++ [(bb,op.2.2)] } E1 w'→RegsP T' th.gb p mb i→T'[5]?=some (.int .i64 (i:Int))→T'[6]?=some (.pointer (some ⟨bb,0,none⟩))→HG Try.prog th.j F E1 (G ((base 67).at ⟨T',[]⟩ hdP3) (c :: cl)) w') :
    HGn Try.prog th.j F E w 100 (G ((base 67).at ⟨Tr,[]⟩ hdP) (c :: cl)):=by
  refine HG.withH fun hWH _=>?_
  have hlt:i < p.ops.length:=(List.getElem?_eq_some_iff.1 hop).1
  obtain ⟨f,rfl⟩:=arrf Tr R.sz
  obtain ⟨_,q0,q2,q3,q7,q8,q9⟩:=R
  have q7:=q7.resolve_right (fun e=>by rw [e] at hlt; simp at hlt)
  have hdec:decide ((i:Int) < (p.ops.length:Int))=true:=decide_eq_true (by omega)
  have e8:f 8=.int .i64 (p.ops.length:Int):=by rw [arrf_get f (by decide)] at q8; exact Option.some.inj q8
  have e9:f 9=.int .i64 (i:Int):=by rw [arrf_get f (by decide)] at q9; exact Option.some.inj q9
  have e7:f 7=.slice (some ⟨p.la,p.lo,none⟩) p.ops.length p.cap:=by rw [arrf_get f (by decide)] at q7; exact Option.some.inj q7
  unfold hdP
  unfold hdP3 at hc
  have e:([.code pL,.inLoop pL,.inBlock 0]:List Item)=[.code (.seq xR1 (.seq xIf (.seq (.block 1 (.seq pR2 (.seq pR3 pR4))) pR5))),.inLoop pL,.inBlock 0]:=congrArg (fun z=>[Item.code z,.inLoop pL,.inBlock 0]) pL_parts
  rw [e]
  clear e
  generalize hG2:pR2=L2
  generalize hG3:pR3=L3 at hc ⊢
  generalize hG4:pR4=L4 at hc ⊢
  generalize hG5:pR5=L5 at hc ⊢
  generalize hGL:pL=LL at hc ⊢
  simp only [xR1,xIf,pR1,pIf,pL,pBody,Try.f67,Option.getD_some,List.range,List.range.loop,List.map_cons,List.map_nil,e8,e9,e7]
  change HGn Try.prog th.j F E w 100 _
  refine Idl.q (idl_hg Try.prog th.j F E w) (Idl.rg (idl_hg Try.prog th.j F E w) [0] rfl ?_)
  apply Idl.value (idl_hg Try.prog th.j F E w) rfl rfl (by first | decide | exact base_kind _ | exact baseD_kind _ | assumption)
  focus (intro w; go_simp; (try w_num); first | done | rfl)
  focus (intro w; simp [go_sem, *])
  walk_nrm
  refine Idl.re (idl_hg Try.prog th.j F E w) (Idl.q (idl_hg Try.prog th.j F E w) (Idl.ct (idl_hg Try.prog th.j F E w) rfl (Idl.sk (idl_hg Try.prog th.j F E w) (Idl.q (idl_hg Try.prog th.j F E w) (Idl.bl (idl_hg Try.prog th.j F E w) (Idl.q (idl_hg Try.prog th.j F E w) ?_))))))
  have hT0:∀ j,j < 10→j≠5→j≠6→(#[f 0,f 1,f 2,f 3,f 4,f 5,f 6,.slice (some ⟨p.la,p.lo,none⟩) p.ops.length p.cap,.int .i64 (p.ops.length:Int),.int .i64 (i:Int)]:Array Value)[j]?=(List.map f (List.range 27)).toArray[j]?:=fun j h1 h2 h3=>by
    rw [arrf_get f (by omega),← e7,← e8,← e9]
    exact slots9 f j h1 h2 h3
  obtain ⟨o1,o2,o3⟩:=P.ops i op hop
  refine HG.quiet (Q:=fun a' w' E1 w1=>a'.tmps.size=27∧a'.tmps[0]?=some (f 0)∧a'.tmps[2]?=some (f 2)∧a'.tmps[3]?=some (f 3)∧a'.tmps[7]?=some (f 7)∧a'.tmps[8]?=some (f 8)∧a'.tmps[9]?=some (f 9)∧a'.tmps[5]?=some (.int .i64 (i:Int))∧a'.tmps[6]?=some (.pointer (some ⟨w1.heap.size,0,none⟩))∧Far E1.H E1.W w1 w'∧Fit E1.H E1.W w1∧(vw E1.H w').heap=(vw E1.H w1).heap.push (.cells #[.int .i64 op.1,.int .i64 op.2.1,.int .i64 op.2.2] 34)) (by rw [← hG2]; kernel_rfl) (by rfl) rfl (fun E1 w1 hA hf τ=>?_) (fun E1 w1 hA a' w' h1 h2 h3 hq=>?_)
  · have T1:=TK.kept (Kept.of_at hA) TK.gct
    have m1:PlayM mb K L s E1 w1:=Prot.at (D:=playD mb K L) m hWH hA
    obtain ⟨o11,o12,_⟩:=m1.konst _ _ o1
    obtain ⟨o21,o22,_⟩:=m1.konst _ _ o2
    obtain ⟨o31,o32,_⟩:=m1.konst _ _ o3
    have hsz:(rt (vw E1.H w1) τ 0).heap.size=w1.heap.size:=by simp
    rw [← hG2]
    refine op_wpT (la:=p.la) (lo:=p.lo) (N:=p.ops.length) (cap:=p.cap) (i:=i) (by simp) (by simp) (by simp) hlt ((vw_cellN o12).trans o11) ((vw_cellN o22).trans o21) ((vw_cellN o32).trans o31) (fun T' x' hs hj h5 h6 hx=>?_)
    refine ⟨rfl,rfl,fun w' τ' d he hF hf'=>⟨hs,?_,?_,?_,?_,?_,?_,h5,by rw [h6,hsz],hF,hf,?_⟩⟩
    · rw [hj 0 (by decide) (by decide) (by decide)]; rfl
    · rw [hj 2 (by decide) (by decide) (by decide)]; rfl
    · rw [hj 3 (by decide) (by decide) (by decide)]; rfl
    · rw [hj 7 (by decide) (by decide) (by decide),e7]; rfl
    · rw [hj 8 (by decide) (by decide) (by decide),e8]; rfl
    · rw [hj 9 (by decide) (by decide) (by decide),e9]; rfl
    · have e1:(vw E1.H w').heap=x'.heap:=by rw [he]; rfl
      rw [e1,hx]; rfl
  · obtain ⟨hs,r0,r2,r3,r7,r8,r9,r5,r6,hF,hf,hv⟩:=hq
    have T1:=TK.kept (Kept.of_at hA) TK.gct
    have m1:PlayM mb K L s E1 w1:=Prot.at (D:=playD mb K L) m hWH hA
    have g1:=GA.at g TK.gW hA
    obtain ⟨m2,hk⟩:=playM_obs (L:=L) m1 hF hf hv
    have hk2:=(hk (j:=th.j) (gb:=some th.gb)).1
    have g2:GA w' rb th en fr tl:=by
      unfold GA at g1 ⊢
      rw [(hk (j:=0) (gb:=none)).2 th.gb T1.gW T1.gL]; exact g1
    obtain ⟨Ta,df⟩:=a'
    have hd:df=[]:=h1
    subst hd
    dsimp only at hs r0 r2 r3 r7 r8 r9 r5 r6
    rw [arrf_get f (by decide)] at q0 q2 q3
    refine hc E1 w' Ta w1.heap.size ((Kept.of_at hA).trans hk2) (T1.kept hk2 T1.gct) g2 m2 ⟨hs,r0.trans q0,r2.trans q2,r3.trans q3,.inl (by rw [r7,e7]),by rw [r8,e8],by rw [r9,e9]⟩ r5 r6
end
end Go.Proofs.Ytimlbbleblijnaa.Co
