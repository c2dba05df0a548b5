/- Lemmas for the laws of this seat, laid together of PJc, PJ0, PHg, PJd, PJe. -/
import Derived.Test.YtimlbbleblijnaaX20
import Derived.Maps.OwnOps

set_option linter.unusedVariables false
set_option linter.unusedSimpArgs false
set_option maxRecDepth 100000
set_option maxHeartbeats 4000000
namespace Go.Proofs.Ytimlbbleblijnaa.Co
open Go Go.Conc Go.RowKit
noncomputable def vB:Code:=Try.f81.body.getD .skip
noncomputable def vR0:Code:=match vB with | .seq x _=>x | _=>.skip
noncomputable def vR1:Code:=match vB with | .seq _ (.seq x _)=>x | _=>.skip
noncomputable def vL:Code:=match vB with | .seq _ (.seq _ (.block _ (.loop c)))=>c | _=>.skip
noncomputable def vR2:Code:=match vL with | .seq x _=>x | _=>.skip
noncomputable def vIf:Code:=match vL with | .seq _ (.seq x _)=>x | _=>.skip
noncomputable def vIn:Code:=match vL with | .seq _ (.seq _ (.seq (.block _ x) _))=>x | _=>.skip
noncomputable def vR9:Code:=match vL with | .seq _ (.seq _ (.seq _ x))=>x | _=>.skip
noncomputable def vR3:Code:=match vIn with | .seq x _=>x | _=>.skip
noncomputable def vR4:Code:=match vIn with | .seq _ (.seq x _)=>x | _=>.skip
noncomputable def vR5:Code:=match vIn with | .seq _ (.seq _ (.seq x _))=>x | _=>.skip
noncomputable def vR6:Code:=match vIn with | .seq _ (.seq _ (.seq _ (.seq x _)))=>x | _=>.skip
noncomputable def vR7:Code:=match vIn with | .seq _ (.seq _ (.seq _ (.seq _ (.seq x _))))=>x | _=>.skip
noncomputable def vR8:Code:=match vIn with | .seq _ (.seq _ (.seq _ (.seq _ (.seq _ x))))=>x | _=>.skip
theorem vB_parts:vB=.seq vR0 (.seq vR1 (.block 0 (.loop vL))):=by kernel_rfl
theorem vL_parts:vL=.seq vR2 (.seq vIf (.seq (.block 1 vIn) vR9)):=by kernel_rfl
theorem vIn_parts:vIn=.seq vR3 (.seq vR4 (.seq vR5 (.seq vR6 (.seq vR7 vR8)))):=by kernel_rfl
noncomputable def hdV:List Item:=[.code vL,.inLoop vL,.inBlock 0]
theorem slots44 (f:Nat→Value) {l:List Value}:∀ j,j < 44→(List.toArray (f 0 :: f 1 :: f 2 :: f 3 :: f 4 :: f 5 :: f 6 :: f 7 :: f 8 :: f 9 :: f 10 :: f 11 :: f 12 :: f 13 :: f 14 :: f 15 :: f 16 :: f 17 :: f 18 :: f 19 :: f 20 :: f 21 :: f 22 :: f 23 :: f 24 :: f 25 :: f 26 :: f 27 :: f 28 :: f 29 :: f 30 :: f 31 :: f 32 :: f 33 :: f 34 :: f 35 :: f 36 :: f 37 :: f 38 :: f 39 :: f 40 :: f 41 :: f 42 :: f 43 :: l))[j]?=some (f j)
 | 0,_ | 1,_ | 2,_ | 3,_ | 4,_ | 5,_ | 6,_ | 7,_ | 8,_ | 9,_ | 10,_ | 11,_ | 12,_ | 13,_ | 14,_ | 15,_ | 16,_ | 17,_ | 18,_ | 19,_ | 20,_ | 21,_ | 22,_ | 23,_ | 24,_ | 25,_ | 26,_ | 27,_ | 28,_ | 29,_ | 30,_ | 31,_ | 32,_ | 33,_ | 34,_ | 35,_ | 36,_ | 37,_ | 38,_ | 39,_ | 40,_ | 41,_ | 42,_ | 43,_=>rfl
 | n+44,h=>absurd h (by omega)
theorem vmark_wp {f:Nat→Value} {x:World} {gb rb mb tb B n:Nat} {k nn t i:Int} {mv:Value} {xs:List Value} {Q:Exit→Act→World→Prop}
  (h0:f 0=.pointer (some ⟨gb,0,none⟩)) (h5:f 5=.pointer (some ⟨mb,0,none⟩)) (h6:f 6=.pointer (some ⟨tb,0,none⟩)) (h8:f 8=.int .i64 i) (h13:f 13=.int .i64 nn)
  (c1:x.cell? ⟨gb,0,none⟩=some (.pointer (some ⟨rb,0,none⟩))) (c2:x.cell? ⟨rb,0,none⟩=some (.int .i64 k)) (c3:x.heap[mb]?=some (.cells #[mv] 27)) (c4:x.cell? ⟨tb,0,none⟩=some (.int .i64 t))
  (ho:x.ownsRow B 37 4 mv n xs) (n1:mv.ownBlock≠some gb) (n2:mv.ownBlock≠some rb) (n3:mv.ownBlock≠some mb) (n4:mv.ownBlock≠some tb) (m1:gb≠mb) (m2:rb≠mb) (m4:tb≠mb)
  (hn:n≤1000000000000) (hB:B≤x.heap.size)
  (hQ:∀ T' x',T'.size=56→(∀ j,j < 44→T'[j]?=some (f j))→Marked B mb mv (xs ++ mkV (t,k,i,nn)) (n+1) x x'→Q .normal ⟨T',[]⟩ x') :
  vR7.wp Try.prog Q ⟨(List.map f (List.range 56)).toArray,[]⟩ x:=by
 obtain ⟨i0,hinf,hz0,hz1,hz2⟩:=info37
 have l1:=World.block_lt_of_cell? x _ c1
 have l2:=World.block_lt_of_cell? x _ c2
 have l4:=World.block_lt_of_cell? x _ c4
 have l3:=(Array.getElem?_eq_some_iff.1 c3).1
 have c3':x.cell? ⟨mb,0,none⟩=some mv:=obj_cell c3 rfl
 have w1:=World.new_ne x _ c1
 have w2:=World.new_ne x _ c2
 have w4:=World.new_ne x _ c4
 have w3:=World.new_ne x _ c3'
 dsimp only at l1 l2 l4
 have hmz:∀ o,(x.alloc o).drew.heap[mb]?=some (.cells #[mv] 27):=fun o=>(alloc_old l3).trans c3
 simp only [List.range,List.range.loop,List.map_cons,List.map_nil,h0,h5,h6,h8,h13]
 simp only [vR7,vIn,vL,vB,Try.f81,Option.getD_some]
 refine wp_region_noPanic ?_
 refine region_last (n:=9) (by kernel_rfl) rfl (by kernel_rfl) ?_
 simp only [nopOf,List.setIfInBounds_toArray,List.set_cons_zero,List.set_cons_succ,List.getElem_toArray,List.getElem_cons_succ,List.getElem_cons_zero,List.size_toArray,List.length_cons,List.length_nil,Nat.zero_add,Nat.reduceAdd]
 have hS:x.drew.cell? ⟨gb,0,none⟩=some (.pointer (some ⟨rb,0,none⟩))∧x.drew.cell? ⟨rb,0,none⟩=some (.int .i64 k)∧x.drew.cell? ⟨tb,0,none⟩=some (.int .i64 t)∧x.drew.cell? ⟨mb,0,none⟩=some mv:=⟨c1,c2,c4,c3'⟩
 refine wpAny_of_held (S:=fun W=>W.cell? ⟨gb,0,none⟩=some (.pointer (some ⟨rb,0,none⟩))∧W.cell? ⟨rb,0,none⟩=some (.int .i64 k)∧W.cell? ⟨tb,0,none⟩=some (.int .i64 t)∧W.cell? ⟨mb,0,none⟩=some mv) _ _ _ _ ?_
 refine wpAnyH_take (i:=0) (v:=mv) rfl (by kernel_rfl) (by kernel_rfl) (by kernel_rfl) (fun _ _ _ h=>h) (Or.inl ⟨by rfl,fun w hSw=>by (obtain ⟨s1,s2,s3,s4⟩:=hSw; go_simp)⟩) hS ?_
 simp only [Act.put,List.setIfInBounds_toArray,List.set_cons_zero,List.set_cons_succ,List.getElem_toArray,List.getElem_cons_succ,List.getElem_cons_zero]
 refine wpAnyH_take (i:=1) (v:=.int .i64 t) rfl (by kernel_rfl) (by kernel_rfl) (by kernel_rfl) (fun _ _ _ h=>h) (Or.inl ⟨by rfl,fun w hSw=>by (obtain ⟨s1,s2,s3,s4⟩:=hSw; go_simp)⟩) hS ?_
 simp only [Act.put,List.setIfInBounds_toArray,List.set_cons_zero,List.set_cons_succ,List.getElem_toArray,List.getElem_cons_succ,List.getElem_cons_zero]
 refine wpAnyH_take (i:=2) (v:=.pointer (some ⟨gb,0,none⟩)) rfl (by kernel_rfl) (by kernel_rfl) (by kernel_rfl) (fun _ _ _ h=>h) (Or.inl ⟨by rfl,fun w hSw=>by (obtain ⟨s1,s2,s3,s4⟩:=hSw; go_simp)⟩) hS ?_
 simp only [Act.put,List.setIfInBounds_toArray,List.set_cons_zero,List.set_cons_succ,List.getElem_toArray,List.getElem_cons_succ,List.getElem_cons_zero]
 refine wpAnyH_take (i:=4) (v:=.int .i64 i) rfl (by kernel_rfl) (by kernel_rfl) (by kernel_rfl) (fun _ _ _ h=>h) (Or.inl ⟨by rfl,fun w hSw=>by go_simp⟩) hS ?_
 simp only [Act.put,List.setIfInBounds_toArray,List.set_cons_zero,List.set_cons_succ,List.getElem_toArray,List.getElem_cons_succ,List.getElem_cons_zero]
 refine wpAnyH_take (i:=5) (v:=.int .i64 nn) rfl (by kernel_rfl) (by kernel_rfl) (by kernel_rfl) (fun _ _ _ h=>h) (Or.inl ⟨by rfl,fun w hSw=>by go_simp⟩) hS ?_
 simp only [Act.put,List.setIfInBounds_toArray,List.set_cons_zero,List.set_cons_succ,List.getElem_toArray,List.getElem_cons_succ,List.getElem_cons_zero]
 refine wpAnyH_ready (rs:=[3]) (by kernel_rfl) (by simp) (AllReadyH.cons rfl (fun K hK=>?_) AllReadyH.nil)
 go_simp
 refine Calls.mono (picks_any (gb:=gb) (rb:=rb) (k:=k) _ hS.1 hS.2.1) ?_
 rintro _ _ ⟨rfl,rfl⟩
 refine hK.out _ _ hS (fun _=>?_)
 clear hK K
 refine wpAnyH_take (i:=6) (v:=.agg #[.int .i64 t,.int .i64 k,.int .i64 i,.int .i64 nn]) rfl (by kernel_rfl) (by kernel_rfl) (by kernel_rfl) (fun _ _ _ h=>h) (Or.inl ⟨by rfl,fun w hSw=>by go_simp⟩) hS ?_
 simp only [Act.put,List.setIfInBounds_toArray,List.set_cons_zero,List.set_cons_succ,List.getElem_toArray,List.getElem_cons_succ,List.getElem_cons_zero]
 refine wpAnyH_ready (rs:=[7]) (by kernel_rfl) (by simp) (AllReadyH.cons rfl (fun K hK=>?_) AllReadyH.nil)
 go_simp
 have hS2:∀ o,(x.alloc o).drew.cell? ⟨gb,0,none⟩=some (.pointer (some ⟨rb,0,none⟩))∧(x.alloc o).drew.cell? ⟨rb,0,none⟩=some (.int .i64 k)∧(x.alloc o).drew.cell? ⟨tb,0,none⟩=some (.int .i64 t)∧(x.alloc o).drew.cell? ⟨mb,0,none⟩=some mv :=
  fun o=>⟨(World.cell?_alloc_some x _ o (by rw [c1]; rfl)).trans c1,(World.cell?_alloc_some x _ o (by rw [c2]; rfl)).trans c2,(World.cell?_alloc_some x _ o (by rw [c4]; rfl)).trans c4,(World.cell?_alloc_some x _ o (by rw [c3']; rfl)).trans c3'⟩
 refine hK.out _ _ (hS2 _) (fun _=>?_)
 clear hK K
 refine wpAnyH_ready (rs:=[8]) (by kernel_rfl) (by simp) (AllReadyH.cons rfl (fun K hK=>?_) AllReadyH.nil)
 refine step_append_lies _ (by rfl) _ _ _ (by rfl) B 37 i0 _ 4 32 Try.underlying27 hinf hz0 hz1 hz2 rfl (by decide) mv n xs (by rfl) ((ho.alloc _).drew) ⟨x.heap.size,0,none⟩ 1 1 (mkV (t,k,i,nn)) (by rfl) (by rfl) (World.news_of_block (cs:=#[.int .i64 t,.int .i64 k,.int .i64 i,.int .i64 nn]) (t:=37) (fr:=(0,0)) (heap_alloc_new _ _)) (by simp [mkV,Value.oneCell']) (by omega) (by unfold maxLen; omega) (by omega) (by simp; omega) _ rfl ?_
 intro g cap w1 hown hgrow hat hlt
 have hS3:=hS2 (.cells #[.int .i64 t,.int .i64 k,.int .i64 i,.int .i64 nn] 37)
 have far:∀ (c o:Nat) (v:Value),c < x.heap.size→mv.ownBlock≠some c→(x.alloc (.cells #[.int .i64 t,.int .i64 k,.int .i64 i,.int .i64 nn] 37)).drew.cell? ⟨c,o,none⟩=some v→w1.cell? ⟨c,o,none⟩=some v:=fun c o v h1 h2 h3=>(hgrow.cell_far _ (by simp; omega) (Ne.symm h2)).trans h3
 refine hK.out _ _ ⟨far _ _ _ l1 n1 hS3.1,far _ _ _ l2 n2 hS3.2.1,far _ _ _ l4 n4 hS3.2.2.1,far _ _ _ l3 n3 hS3.2.2.2⟩ (fun _=>?_)
 clear hK K
 simp only [Act.put,List.setIfInBounds_toArray,List.set_cons_zero,List.set_cons_succ,List.getElem_toArray,List.getElem_cons_succ,List.getElem_cons_zero]
 have hb1:=(hgrow.block mb (by simp; omega) (Ne.symm n3)).trans (hmz _)
 have hc1:=obj_cell hb1 (o:=0) rfl
 have hf1:=obj_thaw hb1 0
 refine wpAnyH_ready (rs:=[9]) (by kernel_rfl) (by simp) (AllReadyH.cons rfl (fun K hK=>?_) AllReadyH.nil)
 go_simp
 refine hK.out _ _ ⟨far _ _ _ l1 n1 hS3.1,far _ _ _ l2 n2 hS3.2.1,far _ _ _ l4 n4 hS3.2.2.1,far _ _ _ l3 n3 hS3.2.2.2⟩ (fun _=>?_)
 clear hK K
 refine wpAnyH_done (by kernel_rfl) ?_ _
 unfold LastQ
 go_simp
 show Q _ _ _
 refine hQ _ _ (by simp) (fun j hj=>?_) ?_
 ·rw [← h0,← h5,← h6,← h8,← h13]
  exact slots44 f j hj
 ·refine Marked.mk ?_ ?_ ⟨.slice (some ⟨g,0,none⟩) (n+1) cap,?_,?_,?_⟩
  ·have:=hgrow.size
   simp at this ⊢
   omega
  ·intro c hc h1 h2
   rw [heap_setCell_ne (a:=⟨mb,0,none⟩) (b:=c) (Ne.symm h1),hgrow.block c (by simp; omega) (Ne.symm h2)]
   exact alloc_old hc
  ·exact heap_set (a:=⟨mb,0,none⟩) (w:=w1) rfl hb1
  ·refine ownsRow_setCell_other hown (fun e=>?_) _
   have hg2:g=mb:=by simpa [Value.ownBlock] using e
   subst hg2
   rcases hat with z | z
   ·exact n3 z
   ·simp at z; omega
  ·intro g' hg'
   have hg2:g=g':=by simpa [Value.ownBlock] using hg'
   subst hg2
   rcases hat with z | z
   ·exact .inl z
   ·right; rw [z]; simp
end Go.Proofs.Ytimlbbleblijnaa.Co

namespace Go.Proofs.Ytimlbbleblijnaa.Co
open Go Go.Conc
def lastT2 (md:Region.Mode) (ops:Array Oper) (n:Nat):Bool :=
 (n+2 == ops.size) && ((List.range n).all fun j=>(List.range (n+1)).any fun i=>decide (j < i) && ((ops[i]?).map fun o:Oper=>o.after.any fun e=>Region.binds md e && e.on == j).getD false) && ops.all (fun o=>o.guard.isNone) && ((List.range ops.size).all fun j=>((ops[j]?).map fun o:Oper=>o.after.all fun e=>decide (e.on < j)).getD false) && ((ops[n+1]?).map fun o:Oper=>o.after.any fun e=>Region.binds md e && e.on == n).getD false
def nop2 (ops:Array Oper) (n:Nat) (o p:Oper):Array Oper:=(ops.setIfInBounds n (nopOf o)).setIfInBounds (n+1) (nopOf p)
section
variable {P:Program} {main:Bool} {R:World→World→Prop} {D:World→World→Array Event→Prop} {fn:FuncId} {ops:Array Oper} {Q:Exit→Act→World→Prop} {md:Region.Mode} {S:World→Prop} {Stop:Goroutine→World→Prop} {b:Frame} {k:List Item} {cs:List Frame}
theorem goes_last2 {n:Nat} {o p:Oper} (ho:ops[n]?=some o) (hp:ops[n+1]?=some p) (hB:lastT2 md ops n=true) (hrefl:∀ w,R w w) (hb:b.fn=fn) (hk:b.kind≠.early) (hstop:∀ a w,Q .normal a w→Stop (G (b.at a (.inRegion ops [n,n+1] :: k)) cs) w) :
  ∀ (fuel t:Nat) (listed:Array Bool) (a:Act) (w:World),AnyCH P R D fn md (nop2 ops n o p) Q S fuel listed a w→listed.size=ops.size→listed.getD n true=false→(∀ (j:Nat) (oj:Oper),ops[j]?=some oj→listed.getD j true=true→∀ e ∈ oj.after,Region.binds md e=true→listed.getD e.on false=true) →
   GoesW P main R D Stop (G (b.at a (.inRegion ops (Region.linearise.go md ops fuel t listed []) :: k)) cs) w:=by
 simp only [lastT2,Bool.and_eq_true,beq_iff_eq,List.all_eq_true,List.any_eq_true,List.mem_range,Array.all_eq_true,decide_eq_true_eq] at hB
 obtain ⟨⟨⟨⟨hn,hall⟩,hg⟩,hback⟩,hlast⟩:=hB
 rw [hp] at hlast
 simp only [Option.map_some,Option.getD_some,Array.any_eq_true,Bool.and_eq_true,beq_iff_eq] at hlast
 obtain ⟨q0,hq0,hq1,hq2⟩:=hlast
 have hpl:n+1 < ops.size:=by omega
 have hnl:n < ops.size:=by omega
 have hsz:(nop2 ops n o p).size=ops.size:=by simp [nop2]
 have haft:∀ i:Nat,((nop2 ops n o p)[i]?).map Oper.after=(ops[i]?).map Oper.after:=fun i=>by
  unfold nop2
  rw [Array.getElem?_setIfInBounds]
  by_cases hi:n+1=i
  ·subst hi
   rw [if_pos rfl,if_pos (by simpa using hpl),hp]; rfl
  ·rw [if_neg hi,Array.getElem?_setIfInBounds]
   by_cases hi2:n=i
   ·subst hi2
    rw [if_pos rfl,if_pos hnl,ho]; rfl
   ·rw [if_neg hi2]
 have hready:=fun listed=>ready_set (md:=md) hsz haft listed
 have hguard:∀ (i:Nat) (oi:Oper),ops[i]?=some oi→oi.guard=none:=fun i oi e=>by
  obtain ⟨h1,h2⟩:=Array.getElem?_eq_some_iff.1 e
  have:=hg i h1
  rw [h2] at this
  simpa using this
 have hne:∀ (listed:Array Bool),listed.size=ops.size→∀ i,listed.getD i true=false→Region.ready md ops listed≠[]:=fun listed hsl i=>by
  induction i using Nat.strongRecOn with
  | _ i ih =>
    intro hun
    have hil:i < ops.size:=by
     rcases Nat.lt_or_ge i ops.size with z | z
     ·exact z
     ·rw [← hsl] at z
      simp [Array.getD,Nat.not_lt.2 z] at hun
    by_cases hr:i ∈ Region.ready md ops listed
    ·exact fun e=>by rw [e] at hr; cases hr
    ·have hoi:ops[i]?=some ops[i]:=Array.getElem?_eq_getElem hil
     have hnr:=fun z=>hr (mem_ready.2 ⟨hun,_,hoi,z⟩)
     have hb:=hback i hil
     rw [hoi] at hb
     simp only [Option.map_some,Option.getD_some,Array.all_eq_true,decide_eq_true_eq] at hb
     apply Classical.byContradiction
     intro hemp
     refine hnr fun e he hbd=>?_
     cases hl:listed.getD e.on false with
     | true=>rfl
     | false =>
       obtain ⟨j,hj,rfl⟩:=Array.mem_iff_getElem.1 he
       have hlt:=hb j hj
       refine absurd (ih _ hlt ?_) hemp
       have:ops[i].after[j].on < listed.size:=by omega
       simp only [Array.getD,this,dif_pos] at hl ⊢
       exact hl
 intro fuel
 induction fuel with
 | zero =>
   intro t listed a w h hsl hun hdc
   obtain ⟨h1,h2⟩:=h
   rw [hready] at h1
   exact absurd h1 (hne listed hsl n hun)
 | succ fuel ih =>
   intro t listed a w h hsl hun hdc
   obtain ⟨h1,h2⟩:=h
   rw [hready] at h1 h2
   have hnil:=hne listed hsl n hun
   simp only [Region.linearise.go]
   change GoesW P main R D Stop (G (b.at a (.inRegion ops (match (Region.ready md ops listed)[t % (Region.ready md ops listed).length]? with
    | some i=>Region.linearise.go md ops fuel (t / (Region.ready md ops listed).length) (listed.setIfInBounds i true) [i]
    | none=>[].reverse) :: k)) cs) w
   cases hi:(Region.ready md ops listed)[t % (Region.ready md ops listed).length]? with
   | none =>
     refine absurd ?_ hnil
     cases hr:Region.ready md ops listed with
     | nil=>rfl
     | cons x xs =>
       rw [hr] at hi
       have hlt:t % (x :: xs).length < (x :: xs).length:=Nat.mod_lt _ (by simp)
       simp at hi
       simp at hlt
       omega
   | some i =>
     simp only []
     rw [linearise_go_acc,List.reverse_singleton,List.singleton_append]
     have hmem:=List.mem_of_getElem? hi
     have h3:=h2 i hmem
     have hir:=mem_ready.1 hmem
     by_cases hin:i=n
     ·subst hin
      have hmem1:∀ j,j ∈ Region.ready md ops (listed.setIfInBounds i true)→j=i+1:=fun j hj=>by
       obtain ⟨hju,oj,hoj,hje⟩:=mem_ready.1 hj
       have hjl:j < ops.size:=(Array.getElem?_eq_some_iff.1 hoj).1
       by_cases hji:i=j
       ·subst hji
        simp [Array.getD,hsl,hnl] at hju
       ·apply Classical.byContradiction
        intro hjn1
        have hjn:j < i:=by omega
        have key:∀ d j,j+d=i→j≠i→listed.getD j true=true:=by
         intro d
         induction d using Nat.strongRecOn with
         | _ d ihd =>
           intro j hjd hne'
           obtain ⟨u,hu1,hu2,hu3⟩:=hall j (by omega)
           have hul:u < ops.size:=by omega
           rw [Array.getElem?_eq_getElem hul] at hu3
           simp only [Option.map_some,Option.getD_some,Array.any_eq_true] at hu3
           obtain ⟨q,hq,h7⟩:=hu3
           simp only [Bool.and_eq_true,beq_iff_eq] at h7
           have h8:listed.getD (ops[u].after[q]).on false=true:=by
            by_cases hui:u=i
            ·obtain ⟨_,o2,ho2,hedge⟩:=hir
             subst hui
             rw [Array.getElem?_eq_getElem hul] at ho2
             obtain rfl:=Option.some.inj ho2
             exact hedge _ (Array.getElem_mem hq) h7.1
            ·exact hdc u _ (Array.getElem?_eq_getElem hul) (ihd (i - u) (by omega) u (by omega) hui) _ (Array.getElem_mem hq) h7.1
           rw [h7.2] at h8
           have hjs:j < listed.size:=by omega
           simp only [Array.getD,hjs,dif_pos] at h8 ⊢
           exact h8
        rw [getD_set_ne true hji] at hju
        rw [key (i - j) j (by omega) (by omega)] at hju
        cases hju
      unfold OpC at h3
      have e1:(nop2 ops i o p)[i]?=some (nopOf o):=by
       unfold nop2
       rw [Array.getElem?_setIfInBounds,if_neg (by omega),Array.getElem?_setIfInBounds,if_pos rfl,if_pos hnl]
      have e2:(nop2 ops i o p)[i+1]?=some (nopOf p):=by
       unfold nop2
       rw [Array.getElem?_setIfInBounds,if_pos rfl,if_pos (by simpa using hpl)]
      rw [e1] at h3
      dsimp only at h3
      have g0:=hguard i o ho
      have g1:=hguard (i+1) p hp
      rw [if_pos (show Region.wanted (nopOf o) (yielded (nop2 ops i o p) a.tmps)=true by simp [Region.wanted,nopOf,g0])] at h3
      have hr:∀ w₁:World,(execOp a.eval (nopOf o)).run P w₁=.ok (.value undef) w₁:=fun w₁=>by simp [nopOf,execOp,go_sem,Act.eval]
      have hrp:∀ w₁:World,(execOp a.eval (nopOf p)).run P w₁=.ok (.value undef) w₁:=fun w₁=>by simp [nopOf,execOp,go_sem,Act.eval]
      have hun1:(listed.setIfInBounds i true).getD (i+1) true=false:=by
       rw [getD_set_ne true (by omega)]
       cases hl:listed.getD (i+1) true with
       | false=>rfl
       | true =>
         have:=hdc (i+1) p hp hl _ (Array.getElem_mem hq0) hq1
         rw [hq2] at this
         have hil:i < listed.size:=by omega
         simp only [Array.getD,hil,dif_pos] at this hun
         rw [this] at hun
         cases hun
      have hne1:Region.ready md ops (listed.setIfInBounds i true)≠[]:=hne _ (by simp [hsl]) (i+1) hun1
      have hlist:∀ w₁,R w w₁→∃ w₂,True∧Region.linearise.go md ops fuel (t / (Region.ready md ops listed).length) (listed.setIfInBounds i true) []=[i+1]∧Q .normal a w₁:=fun w₁ hR=>by
       have h4:=h3 w₁ hR
       rw [hr w₁] at h4
       obtain ⟨_,_,h5⟩:=h4
       cases fuel with
       | zero =>
         obtain ⟨h6,_⟩:=h5
         rw [hready] at h6
         exact absurd h6 hne1
       | succ f =>
         obtain ⟨_,h7⟩:=h5
         rw [hready] at h7
         have hfin:∀ t',∃ i',(Region.ready md ops (listed.setIfInBounds i true))[t' % (Region.ready md ops (listed.setIfInBounds i true)).length]?=some i':=fun t'=>by
          cases hr':Region.ready md ops (listed.setIfInBounds i true) with
          | nil=>exact absurd hr' hne1
          | cons x xs =>
            have hlt:t' % (x :: xs).length < (x :: xs).length:=Nat.mod_lt _ (by simp)
            exact ⟨_,List.getElem?_eq_getElem hlt⟩
         obtain ⟨i',hi'⟩:=hfin (t / (Region.ready md ops listed).length)
         have hm':=List.mem_of_getElem? hi'
         obtain rfl:=hmem1 i' hm'
         have h8:=h7 _ hm'
         unfold OpC at h8
         rw [e2] at h8
         dsimp only at h8
         rw [show a.put (nopOf o).dst undef=a from rfl] at h8
         rw [if_pos (show Region.wanted (nopOf p) (yielded (nop2 ops i o p) a.tmps)=true by simp [Region.wanted,nopOf,g1])] at h8
         have h9:=h8 w₁ (hrefl w₁)
         rw [hrp w₁] at h9
         obtain ⟨_,_,h10⟩:=h9
         have hemp:Region.ready md ops ((listed.setIfInBounds i true).setIfInBounds (i+1) true)=[]:=by
          apply List.eq_nil_iff_forall_not_mem.2
          intro j hj
          obtain ⟨hju,oj,hoj,hje⟩:=mem_ready.1 hj
          have hjl:j < ops.size:=(Array.getElem?_eq_some_iff.1 hoj).1
          by_cases hji:i+1=j
          ·subst hji
           simp [Array.getD,hsl,hpl] at hju
          ·rw [getD_set_ne true hji] at hju
           have:j ∈ Region.ready md ops (listed.setIfInBounds i true):=by
            refine mem_ready.2 ⟨hju,oj,hoj,fun e he hbd=>?_⟩
            have h11:=hje e he hbd
            by_cases hei:i+1=e.on
            ·have hb2:=hback j hjl
             rw [hoj] at hb2
             simp only [Option.map_some,Option.getD_some,Array.all_eq_true,decide_eq_true_eq] at hb2
             obtain ⟨j2,hj2,rfl⟩:=Array.mem_iff_getElem.1 he
             have:=hb2 j2 hj2
             omega
            ·rw [Array.getD_eq_getD_getElem?,Array.getElem?_setIfInBounds_ne hei,← Array.getD_eq_getD_getElem?] at h11
             exact h11
           exact hji (hmem1 j this).symm
         refine ⟨w₁,trivial,?_,?_⟩
         ·simp only [Region.linearise.go]
          change (match (Region.ready md ops (listed.setIfInBounds i true))[(t / (Region.ready md ops listed).length) % (Region.ready md ops (listed.setIfInBounds i true)).length]? with
           | some j=>Region.linearise.go md ops f ((t / (Region.ready md ops listed).length) / (Region.ready md ops (listed.setIfInBounds i true)).length) ((listed.setIfInBounds i true).setIfInBounds j true) [j]
           | none=>[].reverse)=_
          rw [hi']
          simp only []
          rw [linearise_go_acc]
          have hend:∀ (t2:Nat),Region.linearise.go md ops f t2 ((listed.setIfInBounds i true).setIfInBounds (i+1) true) []=[]:=fun t2=>by
           cases f with
           | zero=>rfl
           | succ f =>
             simp only [Region.linearise.go]
             change (match (Region.ready md ops ((listed.setIfInBounds i true).setIfInBounds (i+1) true))[t2 % (Region.ready md ops ((listed.setIfInBounds i true).setIfInBounds (i+1) true)).length]? with
              | some j=>Region.linearise.go md ops f (t2 / (Region.ready md ops ((listed.setIfInBounds i true).setIfInBounds (i+1) true)).length) (((listed.setIfInBounds i true).setIfInBounds (i+1) true).setIfInBounds j true) [j]
              | none=>[].reverse)=[]
             rw [hemp]
             rfl
          rw [hend]
          rfl
         ·cases f with
          | zero=>exact h10.2
          | succ f=>exact h10.1 ((hready _).trans hemp)
      obtain ⟨_,_,hL,_⟩:=hlist w (hrefl w)
      rw [hL]
      refine GoesW.stop (fun w₁ hR=>hstop a w₁ ?_)
      obtain ⟨_,_,_,hQ'⟩:=hlist w₁ hR
      exact hQ'
     ·have hin1:i≠n+1:=fun e=>by
       subst e
       obtain ⟨_,o2,ho2,hedge⟩:=hir
       rw [hp] at ho2
       obtain rfl:=Option.some.inj ho2
       have:=hedge _ (Array.getElem_mem hq0) hq1
       rw [hq2] at this
       have hil:n < listed.size:=by omega
       simp only [Array.getD,hil,dif_pos] at this hun
       rw [this] at hun
       cases hun
      unfold OpC at h3
      have e1:(nop2 ops n o p)[i]?=ops[i]?:=by
       unfold nop2
       rw [Array.getElem?_setIfInBounds,if_neg (Ne.symm hin1),Array.getElem?_setIfInBounds,if_neg (Ne.symm hin)]
      rw [e1] at h3
      obtain ⟨hun',oi,hoi,hedge⟩:=hir
      rw [hoi] at h3
      have g0:=hguard i oi hoi
      have w1:∀ (ops2:Array Oper) (t:Array Value),Region.wanted oi (yielded ops2 t)=true:=fun ops2 t=>by simp [Region.wanted,g0]
      dsimp only at h3
      rw [if_pos (w1 _ _)] at h3
      have hun2:(listed.setIfInBounds i true).getD n true=false:=by
       rw [getD_set_ne true hin]; exact hun
      have hdc2:∀ (j:Nat) (oj:Oper),ops[j]?=some oj→(listed.setIfInBounds i true).getD j true=true→∀ e ∈ oj.after,Region.binds md e=true→(listed.setIfInBounds i true).getD e.on false=true:=fun j oj hoj hl e he hb=>by
       have h8:listed.getD e.on false=true:=by
        by_cases hji:i=j
        ·subst hji
         rw [hoi] at hoj
         obtain rfl:=Option.some.inj hoj
         exact hedge e he hb
        ·rw [getD_set_ne true hji] at hl
         exact hdc j oj hoj hl e he hb
       by_cases hei:i=e.on
       ·subst hei
        have:e.on < listed.size:=by
         rcases Nat.lt_or_ge e.on listed.size with z | z
         ·exact z
         ·simp [Array.getD,Nat.not_lt.2 z] at h8
        simp [Array.getD,this]
       ·have:e.on < listed.size:=by
         rcases Nat.lt_or_ge e.on listed.size with z | z
         ·exact z
         ·simp [Array.getD,Nat.not_lt.2 z] at h8
        simp only [Array.getD,this,dif_pos,Array.size_setIfInBounds] at h8 ⊢
        simp only [Array.getInternal_eq_getElem] at h8 ⊢
        rw [Array.getElem_setIfInBounds,if_neg hei]
        exact h8
      refine GoesW.step' rfl fun w₁ h₁=>?_
      have h4:=h3 w₁ h₁
      have h5:(stepG P main (G (b.at a (.inRegion ops (i :: Region.linearise.go md ops fuel (t / (Region.ready md ops listed).length) (listed.setIfInBounds i true) []) :: k)) cs) w₁).goes (fun g' w' es=>D w₁ w' es∧GoesW P main R D Stop g' w'):=by
       refine goes_oper hoi (w1 _ _) hk ?_
       revert h4
       cases (execOp a.eval oi).run P w₁ with
       | ok x w'=>cases x <;> first | exact fun ⟨d,_,g⟩=>⟨hb ▸ d,ih _ _ _ _ g (by simp [hsl]) hun2 hdc2⟩ | exact id
       | halt _ _=>exact id
      cases hg:stepG P main (G (b.at a (.inRegion ops (i :: Region.linearise.go md ops fuel (t / (Region.ready md ops listed).length) (listed.setIfInBounds i true) []) :: k)) cs) w₁ with
      | go g' w' es=>rw [hg,goes_go] at h5; exact ⟨g',w',es,rfl,h5.1,h5.2⟩
      | _=>rw [hg] at h5; exact h5.elim
end
section
variable {P:Program} {h:Nat} {F:Machine→Trace→Prop} {E:Env} {w:World}
theorem HG.looksTo2 {fr:Frame} {a aF:Act} {k:List Item} {cs:List Frame} {rid n:Nat} {o p:Oper} {ops:Array Oper} {S:World→Prop} (hm:P.follows .mixedOrders=true) (hk:fr.kind=.normal) (ho:ops[n]?=some o) (hp:ops[n+1]?=some p) (hB:lastT2 .any ops n=true)
  (hany:∀ w₁,Aw E.W w w₁→AnyCH P (Aw E.W) E.D fr.fn .any (nop2 ops n o p) (fun e a' w'=>e=.normal∧a'=aF∧Aw E.W w w') S ops.size (Array.replicate ops.size false) a { w₁ with drawn:=w₁.drawn+1 })
  (hg:∀ w',Aw E.W w w'→HG P h F E (G (fr.at aF (.inRegion ops [n,n+1] :: k)) cs) w'):HG P h F E (G (fr.at a (.code (.region rid ops true) :: k)) cs) w:=by
 refine (HG.clo P h F E).own rfl (fun w₁ hA=>⟨_,_,_,stepG_region_draw,⟨Nat.le_refl _,fun _ _=>rfl,fun _ _=>rfl,fun _ _ x _ _ _ h=>⟨x,h⟩,fun f=>(by cases f; constructor <;> assumption),fun e he=>by simp at he,SameIo.refl _⟩,?_⟩)
 simp only [Region.schedule,hm,Bool.true_or,if_true]
 refine (HG.clo P h F E).goes _ _ ?_
 have hnl:n < ops.size:=(Array.getElem?_eq_some_iff.1 ho).1
 refine goes_last2 (fn:=fr.fn) (Q:=fun e a' w'=>e=.normal∧a'=aF∧Aw E.W w w') (S:=S) ho hp hB (Aw.refl _) rfl (by rw [hk]; decide) (fun a' w' ⟨_,q2,q3⟩=>?_) _ _ _ _ _ (hany w₁ hA) (by simp) (by simp [Array.getD,hnl]) (fun j oj hoj hl=>by
  have:j < ops.size:=(Array.getElem?_eq_some_iff.1 hoj).1
  simp [Array.getD,this] at hl)
 subst q2
 exact hg w' q3
end
end Go.Proofs.Ytimlbbleblijnaa.Co

namespace Go.Proofs.Ytimlbbleblijnaa.Co
open Go Go.Conc Go.RowKit
section
variable {σ Λ:Type}
end
section
variable {P:Program} {h:Nat} {F:Machine→Trace→Prop} {E:Env} {w:World} {Fs:FuncId→Bool}
theorem HG.quietM (os:List Obj) (hC:Closed P Fs) {fr:Frame} {T:Array Value} {k:List Item} {cs:List Frame} {c:Code} (R:Array Value→Nat→Prop) (hq:quietCode P Fs c=true) (hk:fr.kind=.normal)
  (hwp:∀ x:World,x.heap.size=w.heap.size→(∀ b,E.H b=none→x.heap[b]?=w.heap[b]?)→c.wp P (fun e a' x'=>e=.normal∧a'.defers=[]∧(∀ b,b < x.heap.size→x'.heap[b]?=x.heap[b]?)∧(∀ (i:Nat) o,os[i]?=some o→x'.heap[x.heap.size+i]?=some o)∧R a'.tmps x.heap.size) ⟨T,[]⟩ x)
  (hg:∀ (E1:Env) (w1:World) (T':Array Value),Still h E w E1 w1→(∀ (i:Nat) o,os[i]?=some o→w1.heap[w.heap.size+i]?=some o∧E1.H (w.heap.size+i)=none)→R T' w.heap.size→HG P h F E1 (G (fr.at ⟨T',[]⟩ k) cs) w1):HG P h F E (G (fr.at ⟨T,[]⟩ (.code c :: k)) cs) w:=by
 refine HG.quietS (fun _=>False) (fun _ z=>z.elim) hC (Q:=fun a' x x'=>(∀ (i:Nat) o,os[i]?=some o→x'.heap[x.heap.size+i]?=some o)∧R a'.tmps x.heap.size) hq hk rfl (fun x hxs hx=>?_) (fun E1 w' a' x x' hE hd hxs hx hxs' hx' hK hB hSt hq=>?_)
 ·exact Code.wp_mono (fun e a' x' ⟨q1,q2,q3,q4,q5⟩=>⟨q1,q2,fun b hb _=>q3 b hb,q4,q5⟩) (hwp x hxs hx)
 ·obtain ⟨Ta,df⟩:=a'
  have hdf:df=[]:=hd
  subst hdf
  refine hg E1 w' Ta ⟨hK,hE.H',fun b o h1 h2=>⟨by rw [hE.H']; exact h1,?_⟩⟩ (fun i o hi=>?_) (by rw [← hxs]; exact hq.2)
  ·have hl:=(Array.getElem?_eq_some_iff.1 h2).1
   rw [hx' b h1,hSt b (by omega) id,hx b h1]
   exact h2
  ·have h1:=hq.1 i o hi
   rw [hxs] at h1
   have h2:=hB (w.heap.size+i) (by omega)
   exact ⟨(hx' _ h2).trans h1,by rw [hE.H']; exact h2⟩
end
structure NM (xb:Nat) (K:Nat→Obj→Prop) (v:Int) (E:Env) (w:World):Prop where
 word:WordAt w ⟨xb,0,none⟩ v
 wordH:E.H xb=none
 kobj:∀ b o,K b o→w.heap[b]?=some o∧E.H b=none∧b≠xb
 rng:-9223372036854775808≤v∧v≤9223372036854775807
theorem NM.konst {xb:Nat} {K:Nat→Obj→Prop} {v:Int} {E:Env} {w:World} (m:NM xb K v E w) (a:Addr) (u:Value) (h:KC K a u):w.cell? a=some u∧E.H a.block=none:=by
 obtain ⟨o,h1,h2⟩:=h
 obtain ⟨k1,k2,_⟩:=m.kobj _ _ h1
 exact ⟨h2 w k1,k2⟩
theorem NM.still {xb j:Nat} {K:Nat→Obj→Prop} {v:Int} {E E':Env} {w w':World} (m:NM xb K v E w) (S:Still j E w E' w'):NM xb K v E' w':=by
 obtain ⟨s1,s2⟩:=S.word m.word m.wordH
 refine ⟨s1,s2,fun b o hk=>?_,m.rng⟩
 obtain ⟨k1,k2,k3⟩:=m.kobj b o hk
 obtain ⟨z1,z2⟩:=S.st b o k2 k1
 exact ⟨z2,z1,k3⟩
theorem NM.wset {xb:Nat} {K:Nat→Obj→Prop} {v n:Int} {E E':Env} {w w':World} (m:NM xb K v E w) (S:WSet E w E' w' ⟨xb,0,none⟩ n) (hn:-9223372036854775808≤n∧n≤9223372036854775807):NM xb K n E' w':=by
 refine ⟨S.word m.word,by rw [S.H]; exact m.wordH,fun b o hk=>?_,hn⟩
 obtain ⟨k1,k2,k3⟩:=m.kobj b o hk
 exact ⟨(S.stands k2 k1 k3).2,(S.stands k2 k1 k3).1,k3⟩
section
variable {j xb la lo cap:Nat} {F:Machine→Trace→Prop} {K:Nat→Obj→Prop} {ops:List Op3} {b₀:Frame} {a₀:Act} {ops₀:Array Oper} {i₀:Nat} {rest₀:List Nat} {k₀:List Item} {cl:List Frame}
end
end Go.Proofs.Ytimlbbleblijnaa.Co

namespace Go.Proofs.Ytimlbbleblijnaa.Co
open Go Go.Conc Go.RowKit
open Go.Maps (Keyed)
open Go.ConcN (sumTo upd sumTo_upd upd_ne upd_same sumTo_congr le_sumTo)
structure RegsV (T:Array Value) (gb:Nat) (p:PT) (mb db ab nb i c:Nat):Prop where
 sz:T.size=56
 t0:T[0]?=some (.pointer (some ⟨gb,0,none⟩))
 t2:T[2]?=some (.pointer (some ⟨db,0,none⟩))
 t3:T[3]?=some (.pointer (some ⟨ab,0,none⟩))
 t4:T[4]?=some (.pointer (some ⟨nb,0,none⟩))
 t5:T[5]?=some (.pointer (some ⟨mb,0,none⟩))
 t6:T[6]?=some (.pointer (some ⟨p.tb,0,none⟩))
 t8:T[8]?=some (.int .i64 (c:Int))
 t14:T[14]?=some (.slice (some ⟨p.la,p.lo,none⟩) p.ops.length p.cap)∨p.ops=[]
 t15:T[15]?=some (.int .i64 (p.ops.length:Int))
 t16:T[16]?=some (.int .i64 (i:Int))
structure WTok (K:Nat→Obj→Prop) (L:List PT) (t:Nat) (p:PT) (mb wb n db ab nb mpb:Nat):Prop where
 P:PTok K L t p
 kd:KC K ⟨db,0,none⟩ (.map (some mpb))
 km:∃ o,K mpb o∧∀ w:World,w.heap[mpb]?=some o→w.ownsMap Try.prog 3 RV mpb 4 DW
 ka:KC K ⟨ab,0,none⟩ (.slice (some ⟨wb,0,none⟩) n n)
 kn:KC K ⟨nb,0,none⟩ (.int .i64 (n:Int))
 ne:∀ b o,K b o→b≠wb
 n1:1≤n
 n2:n≤1048576
 rng:∀ (i:Nat) (op:Op3),p.ops[i]?=some op→I64 op.1∧I64 op.2.1∧I64 op.2.2
theorem RegsV.up {T T':Array Value} {gb mb db ab nb i c:Nat} {p:PT} (R:RegsV T gb p mb db ab nb i c) (hs:T'.size=56) (h:∀ j,j < 17→T'[j]?=T[j]?∨(j≠0∧j≠2∧j≠3∧j≠4∧j≠5∧j≠6∧j≠8∧j≠14∧j≠15∧j≠16)):RegsV T' gb p mb db ab nb i c:=by
 have key:∀ j,j < 17→(j=0∨j=2∨j=3∨j=4∨j=5∨j=6∨j=8∨j=14∨j=15∨j=16)→T'[j]?=T[j]?:=fun j h1 h2=>(h j h1).resolve_right (fun z=>by omega)
 exact ⟨hs,(key 0 (by decide) (by decide)).trans R.t0,(key 2 (by decide) (by decide)).trans R.t2,(key 3 (by decide) (by decide)).trans R.t3,(key 4 (by decide) (by decide)).trans R.t4,(key 5 (by decide) (by decide)).trans R.t5,(key 6 (by decide) (by decide)).trans R.t6,(key 8 (by decide) (by decide)).trans R.t8,R.t14.imp (fun z=>(key 14 (by decide) (by decide)).trans z) id,(key 15 (by decide) (by decide)).trans R.t15,(key 16 (by decide) (by decide)).trans R.t16⟩
theorem wrap_nat (c:Nat) (h:c≤1000000000000):IntKind.i64.wrap ((c:Int)+1)=((c+1:Nat):Int):=by rw [IntKind.wrap_i64]; omega
noncomputable def hdV7:List Item:=[.code vR7,.code vR8,.inBlock 1,.code vR9,.inLoop vL,.inBlock 0]
noncomputable def hdV8:List Item:=[.code vR8,.inBlock 1,.code vR9,.inLoop vL,.inBlock 0]
noncomputable def hdV5:List Item:=[.code (.seq vR5 (.seq vR6 (.seq vR7 vR8))),.inBlock 1,.code vR9,.inLoop vL,.inBlock 0]
noncomputable def hdV6:List Item:=[.code vR6,.code (.seq vR7 vR8),.inBlock 1,.code vR9,.inLoop vL,.inBlock 0]
noncomputable def xvR2:Code:=vR2
noncomputable def xvIf:Code:=vIf
noncomputable def xvR5:Code:=vR5
noncomputable def xvR8:Code:=vR8
noncomputable def xvR9:Code:=vR9
section
variable {h rb mb wb n db ab nb mpb t i c:Nat} {home:Goroutine→Prop} {k nn:Int} {th:Th} {F:Machine→Trace→Prop} {E:Env} {w:World} {s:WS} {K:Nat→Obj→Prop} {L:List PT} {p:PT} {Tr:Array Value} {c0:Frame} {cl:List Frame}
theorem WordM.still {j:Nat} {E':Env} {w':World} (m:WordM mb wb n K L s E w) (S:Still j E w E' w'):WordM mb wb n K L s E' w' :=
 (wordD mb wb n K L).closed _ _ _ _ _ m fun b hb hn=>by
  obtain ⟨s1,s2⟩:=S.st b _ hn (Array.getElem?_eq_getElem hb)
  exact ⟨s1,by rw [s2,Array.getElem?_eq_getElem hb]⟩
theorem word_round {T:Array Value} (R:RegsV T th.gb p mb db ab nb i c) (hi:i≤1000000000000) (hci:c≤i)
  (hc:∀ T',RegsV T' th.gb p mb db ab nb (i+1) (c+1)→HG Try.prog th.j F E (G ((base 81).at ⟨T',[]⟩ hdV) (c0 :: cl)) w) :
  HGn Try.prog th.j F E w 100 (G ((base 81).at ⟨T,[]⟩ hdV8) (c0 :: cl)):=by
 have w1:=wrap_nat c (by omega)
 have w2:=wrap_nat i hi
 obtain ⟨f,hf,fz⟩:=arrfv T R.sz
 have hT:=R
 have e8:=fz 8 _ R.t8
 have e16:=fz 16 _ R.t16
 have hc':∀ T',T'.size=56→(∀ j,j < 17→T'[j]?=T[j]?∨j=8∨j=16∨j=13)→T'[8]?=some (.int .i64 ((c+1:Nat):Int))→T'[16]?=some (.int .i64 ((i+1:Nat):Int))→HG Try.prog th.j F E (G ((base 81).at ⟨T',[]⟩ hdV) (c0 :: cl)) w:=fun T' a1 a2 a3 a4=>by
  have key:∀ j,j < 17→(j=0∨j=2∨j=3∨j=4∨j=5∨j=6∨j=14∨j=15)→T'[j]?=T[j]?:=fun j h1 h2=>(a2 j h1).resolve_right (fun z=>by omega)
  exact hc T' ⟨a1,(key 0 (by decide) (by decide)).trans R.t0,(key 2 (by decide) (by decide)).trans R.t2,(key 3 (by decide) (by decide)).trans R.t3,(key 4 (by decide) (by decide)).trans R.t4,(key 5 (by decide) (by decide)).trans R.t5,(key 6 (by decide) (by decide)).trans R.t6,a3,R.t14.imp (fun z=>(key 14 (by decide) (by decide)).trans z) id,(key 15 (by decide) (by decide)).trans R.t15,a4⟩
 clear hc hT R fz
 subst hf
 replace hc':=Lib.hid hc'
 unfold hdV8
 unfold hdV at hc'
 rw [show vR8=xvR8 from rfl,show vR9=xvR9 from rfl]
 generalize hGL:vL=LL at hc' ⊢
 simp only [xvR8,xvR9,vR8,vR9,vIn,vL,vB,Try.f81,Option.getD_some,List.range,List.range.loop,List.map_cons,List.map_nil,e8,e16]
 refine Idl.rg (idl_hg Try.prog th.j F E w) [0,1,2] rfl ?_
 iterate 3 (refine Idl.v (idl_hg Try.prog th.j F E w) ?_; walk_nrm)
 refine Idl.re (idl_hg Try.prog th.j F E w) (Idl.ib (idl_hg Try.prog th.j F E w) (Idl.rg (idl_hg Try.prog th.j F E w) [0,1] rfl ?_))
 iterate 2 (refine Idl.v (idl_hg Try.prog th.j F E w) ?_; walk_nrm)
 refine Idl.re (idl_hg Try.prog th.j F E w) (Idl.il (idl_hg Try.prog th.j F E w) ?_)
 try simp only [w1,w2]
 refine hc'.out _ (by simp) (fun j hj=>?_) (by simp) (by simp)
 match j,hj with
 | 0,_ | 1,_ | 2,_ | 3,_ | 4,_ | 5,_ | 6,_ | 7,_ | 9,_ | 10,_ | 11,_ | 12,_ | 13,_ | 14,_ | 15,_=>exact .inl (by simp)
 | 8,_=>exact .inr (.inl rfl)
 | 16,_=>exact .inr (.inr (.inl rfl))
 | q+17,hq=>exact absurd hq (by omega)
theorem word_mark {en fr:Bool} {tl:Int × Int × Int} (W:WTok K L t p mb wb n db ab nb mpb) (hbound:sumTo L.length (opLen L)≤1000000000000) (TK:TKn h rb home k th E w) (g:GA w rb th en fr tl) (m:WordM mb wb n K L s E w) (hcn:s.cnt t=c) (hil:i < p.ops.length) (hci:c≤i) (R:RegsV Tr th.gb p mb db ab nb i c) (t13:Tr[13]?=some (.int .i64 nn))
  (hc:∀ E1 w' T',Kept th.j (some th.gb) E w E1 w'→TKn h rb home k th E1 w'→GA w' rb th en fr tl→WordM mb wb n K L ⟨s.ms ++ [((t:Int),k,(c:Int),nn)],upd s.cnt t (c+1),s.vs⟩ E1 w'→RegsV T' th.gb p mb db ab nb (i+1) (c+1)→HG Try.prog th.j F E1 (G ((base 81).at ⟨T',[]⟩ hdV) (c0 :: cl)) w') :
  HG Try.prog th.j F E (G ((base 81).at ⟨Tr,[]⟩ hdV7) (c0 :: cl)) w:=by
 refine HG.withH fun hWH _=>?_
 have hK3:=W.P.kt
 have hlen:=W.P.len
 have hop:c < opLen L t∧t < L.length:=by
  refine ⟨?_,(List.getElem?_eq_some_iff.1 W.P.pt).1⟩
  rw [W.P.ln]; omega
 unfold hdV7
 refine HG.quietF closed_picks (Q:=fun a' w' E1 w1=>a'.tmps.size=56∧(∀ j,j < 44→a'.tmps[j]?=Tr[j]?)∧∃ mv x x',w1.heap[mb]?=some (.cells #[mv] 27)∧World.heap x=(vw E1.H w1).heap∧World.heap x'=(vw E1.H w').heap∧Fit E1.H E1.W w1∧Marked (mb+1) mb mv (mksV s.ms ++ mkV ((t:Int),k,(c:Int),nn)) (s.ms.length+1) x x') (by kernel_rfl) rfl rfl (fun E1 w1 hA hf τ=>?_) (fun E1 w1 hA a' w' h1 h2 h3 hq=>?_)
 ·have T1:=TK.kept (Kept.of_at hA) TK.gct
  have M1:WordM mb wb n K L s E1 w1:=Prot.at (D:=wordD mb wb n K L) m hWH hA
  have m1:=M1.m
  obtain ⟨mv,r1,r2,r3⟩:=m1.row
  have g1:=GA.at g TK.gW hA
  have hWH1:∀ b,E1.W b=true→E1.H b=some 1:=hf.sub
  have hrH:E1.H rb=some 1:=hWH1 rb T1.rW
  obtain ⟨st,sm,xv,e0,hrl⟩:=T1.rL
  have hxv:=runObj_first hrl T1.pick
  obtain ⟨f,rfl⟩:=arrf Tr R.sz
  have q0:=R.t0
  have q5:=R.t5
  have q6:=R.t6
  have q8:=R.t8
  simp only [arrf_get f (show 0 < 56 by decide),arrf_get f (show 5 < 56 by decide),arrf_get f (show 6 < 56 by decide),arrf_get f (show 8 < 56 by decide),arrf_get f (show 13 < 56 by decide),Option.some.injEq] at q0 q5 q6 q8 t13
  obtain ⟨k1,k2,k3⟩:=M1.konst _ _ hK3
  have hxs:(rt (vw E1.H w1) τ 0).heap.size=w1.heap.size:=by simp
  have hsome:∀ {c x:Nat},mv.ownBlock=some c→E1.H c=some x→False:=fun {c x} e1 e2=>by rw [(r3 c e1).1] at e2; cases e2
  have hcb:mb < w1.heap.size:=(Array.getElem?_eq_some_iff.1 r1).1
  refine vmark_wp (gb:=th.gb) (rb:=rb) (mb:=mb) (tb:=p.tb) (B:=mb+1) (n:=s.ms.length) (k:=k) (nn:=nn) (t:=(t:Int)) (i:=(c:Int)) (mv:=mv) (xs:=mksV s.ms) q0 q5 q6 q8 t13 ?_ ?_ ?_ ?_ ?_ (fun e=>hsome e T1.gH) (fun e=>hsome e hrH) (fun e=>?_) (fun e=>?_) (fun e=>?_) (fun e=>?_) k3 ?_ (by rw [hxs]; exact hcb) (fun T' x' hs hj hM=>?_)
  ·exact vw_first T1.gH (by unfold GA gateObj at g1; exact g1) rfl
  ·exact vw_first hrH (by unfold runObj at hrl; exact hrl) (by rw [← hxv]; rfl)
  ·show (vw E1.H w1).heap[mb]?=_
   rw [vw_get_none m1.mbH]; exact r1
  ·rw [vw_cellN k2]; exact k1
  ·exact ownsRow_same r2 (fun g' hg'=>by
    show (vw E1.H w1).heap[g']?=_
    rw [vw_get_none (r3 g' hg').1])
  ·exact absurd (r2.lt mb e).1 (by omega)
  ·obtain ⟨o3',k3',_⟩:=hK3
   exact (r3 _ e).2.2 _ _ (.inl k3') rfl
  ·have:=m1.mbH; rw [← e,T1.gH] at this; cases this
  ·have:=m1.mbH; rw [← e,hrH] at this; cases this
  ·have h2:=m1.len
   have h3:=sumTo_le L.length m1.cnt
   dsimp only at h2 h3
   omega
  ·refine ⟨rfl,rfl,fun w' τ' d he hF hf'=>⟨hs,fun j hj'=>?_,mv,rt (vw E1.H w1) τ 0,x',r1,rfl,by rw [he]; rfl,hf,hM⟩⟩
   rw [hj j hj',arrf_get f (by omega)]
 ·obtain ⟨hs,hj,mv,x,x',hmv,hx,hx',hf,hM⟩:=hq
  have M1:WordM mb wb n K L s E1 w1:=Prot.at (D:=wordD mb wb n K L) m hWH hA
  obtain ⟨m2,hk⟩:=playM_mark M1.m h2 hf hx hx' hmv hcn hop hM
  have T1:=TK.kept (Kept.of_at hA) TK.gct
  have g1:=GA.at g TK.gW hA
  have hk2:=(hk (j:=th.j) (gb:=some th.gb)).1
  have g2:GA w' rb th en fr tl:=by
   unfold GA at g1 ⊢
   rw [(hk (j:=0) (gb:=none)).2 th.gb T1.gH T1.gW T1.gL]; exact g1
  have T2:=T1.kept hk2 T1.gct
  obtain ⟨Ta,df⟩:=a'
  have hd:df=[]:=h1
  subst hd
  dsimp only at hs hj
  have R2:RegsV Ta th.gb p mb db ab nb i c:=R.up hs (fun j h1=>.inl (hj j (by omega)))
  refine word_round R2 (by omega) hci (fun T' R'=>?_)
  exact hc E1 w' T' ((Kept.of_at hA).trans hk2) T2 g2 ⟨m2,M1.rng⟩ R'
end
theorem zero122 (w:World):(zeroValue 122).run Try.prog w=.ok .nilFunc w:=by kernel_rfl
def lookV (k:Int):Value:=if isC k then fvV (fnOf k) else .nilFunc
theorem RV_look {y:Value} {ps:List MemPlace} {k:Int} (h:RV y=some (DW.atKey (.int .i64 k) (.held .nilFunc),ps)):y=lookV k:=by
 have:=RV_inv h
 rw [DW_at] at this
 unfold lookV
 cases hc:isC k with
 | true=>rw [hc] at this; simp only [if_true,DataW.held.injEq] at this ⊢; exact this.symm
 | false=>rw [hc] at this; simp only [Bool.false_eq_true,if_false,DataW.held.injEq] at this ⊢; exact this.symm
theorem vr3_wp {T:Array Value} {x:World} {la lo N cap i:Nat} {kd at' nn:Int} {Q:Exit→Act→World→Prop} (hs:T.size=56)
  (h14:T[14]?=some (.slice (some ⟨la,lo,none⟩) N cap)) (h16:T[16]?=some (.int .i64 (i:Int))) (hi:i < N)
  (c1:x.cell? ⟨la,lo+i * 3,none⟩=some (.int .i64 kd)) (c2:x.cell? ⟨la,lo+i * 3+1,none⟩=some (.int .i64 at')) (c3:x.cell? ⟨la,lo+i * 3+2,none⟩=some (.int .i64 nn))
  (hQ:∀ T' x',T'.size=56→(∀ j,j < 17→j≠10→T'[j]?=T[j]?)→T'[10]?=some (.pointer (some ⟨x.heap.size,0,none⟩))→x'.heap=x.heap.push (.cells #[.int .i64 kd,.int .i64 at',.int .i64 nn] 34)→Q .normal ⟨T',[]⟩ x') :
  vR3.wp Try.prog Q ⟨T,[]⟩ x:=by
 have q1:(0:Int)≤(i:Int):=by omega
 have q2:(i:Int) < (N:Int):=by omega
 have w1:=World.new_ne x _ c1
 have w2:=World.new_ne x _ c2
 have w3:=World.new_ne x _ c3
 obtain ⟨f,hf,fz⟩:=arrfv T hs
 have e14:=fz 14 _ h14
 have e16:=fz 16 _ h16
 clear fz
 subst hf
 have hQ':∀ T' x',T'.size=56→(∀ j,j < 17→j≠10→T'[j]?=some (f j))→T'[10]?=some (.pointer (some ⟨x.heap.size,0,none⟩))→x'.heap=x.heap.push (.cells #[.int .i64 kd,.int .i64 at',.int .i64 nn] 34)→Q .normal ⟨T',[]⟩ x':=fun T' x' a1 a2 a3 a4=>hQ T' x' a1 (fun j h1 h2=>by rw [a2 j h1 h2,arrf_get f (by omega)]) a3 a4
 clear hQ h14 h16 hs
 simp only [List.range,List.range.loop,List.map_cons,List.map_nil,e14,e16]
 simp only [vR3,vIn,vL,vB,Try.f81,Option.getD_some]
 go_wp2
 refine hQ' _ _ (by simp) (fun j hj h10=>?_) (by simp) rfl
 match j,hj,h10 with
 | 10,_,h=>exact absurd rfl h
 | 0,_,_ | 1,_,_ | 2,_,_ | 3,_,_ | 4,_,_ | 5,_,_ | 6,_,_ | 7,_,_ | 8,_,_ | 9,_,_ | 11,_,_ | 12,_,_ | 13,_,_ | 14,_,_ | 15,_,_ | 16,_,_=>simp [e14,e16]
 | q+17,hq,_=>exact absurd hq (by omega)
theorem vr4_wp {T:Array Value} {x:World} {db bb mpb:Nat} {kd:Int} {Q:Exit→Act→World→Prop} (hs:T.size=56)
  (h2:T[2]?=some (.pointer (some ⟨db,0,none⟩))) (h10:T[10]?=some (.pointer (some ⟨bb,0,none⟩)))
  (c1:x.cell? ⟨db,0,none⟩=some (.map (some mpb))) (c2:x.cell? ⟨bb,0,none⟩=some (.int .i64 kd)) (hk:I64 kd) (hown:x.ownsMap Try.prog 3 RV mpb 4 DW)
  (hQ:∀ T',T'.size=56→(∀ j,j < 17→j≠11→j≠12→T'[j]?=T[j]?)→T'[11]?=some (lookV kd)→T'[12]?=some (.bool (isC kd))→Q .normal ⟨T',[]⟩ x) :
  vR4.wp Try.prog Q ⟨T,[]⟩ x:=by
 obtain ⟨f,hf,fz⟩:=arrfv T hs
 have e2:=fz 2 _ h2
 have e10:=fz 10 _ h10
 clear fz
 subst hf
 have hQ':∀ T',T'.size=56→(∀ j,j < 17→j≠11→j≠12→T'[j]?=some (f j))→T'[11]?=some (lookV kd)→T'[12]?=some (.bool (Maps.has DW (.int .i64 kd)))→Q .normal ⟨T',[]⟩ x:=fun T' a1 a2 a3 a4=>hQ T' a1 (fun j h1 h2 h3=>by rw [a2 j h1 h2 h3,arrf_get f (by omega)]) a3 (by rw [← DW_has]; exact a4)
 clear hQ h2 h10 hs
 simp only [List.range,List.range.loop,List.map_cons,List.map_nil,e2,e10]
 simp only [vR4,vIn,vL,vB,Try.f81,Option.getD_some]
 go_wp2_with (at_lookup; refine wpList_lookup_own_ok _ rfl _ _ 120 rfl 3 122 law3 Try.underlying120 RV (zero122 _) (.held .nilFunc) [] rfl mpb 4 DW rfl hown _ (.int .i64 kd) rfl (key3 hk) ?_; intro y ps hy; obtain rfl:=RV_look hy; clear hy; generalize Maps.has DW (.int .i64 kd)=hb at hQ' ⊢)
 refine hQ' _ (by simp) (fun j hj h11 h12=>?_) (by simp) (by simp)
 match j,hj,h11,h12 with
 | 11,_,h,_=>exact absurd rfl h
 | 12,_,_,h=>exact absurd rfl h
 | 0,_,_,_ | 1,_,_,_ | 2,_,_,_ | 3,_,_,_ | 4,_,_,_ | 5,_,_,_ | 6,_,_,_ | 7,_,_,_ | 8,_,_,_ | 9,_,_,_ | 10,_,_,_ | 13,_,_,_ | 14,_,_,_ | 15,_,_,_ | 16,_,_,_=>simp [e2,e10]
 | q+17,hq,_,_=>exact absurd hq (by omega)
noncomputable def hdVI:List Item:=[.code vIn,.inBlock 1,.code vR9,.inLoop vL,.inBlock 0]
section
variable {h rb mb wb n db ab nb mpb t i c:Nat} {home:Goroutine→Prop} {k nn:Int} {th:Th} {F:Machine→Trace→Prop} {E:Env} {w:World} {s:WS} {K:Nat→Obj→Prop} {L:List PT} {p:PT} {Tr:Array Value} {cs:List Frame}
variable {b₀:Frame} {a₀:Act} {ops₀:Array Oper} {i₀:Nat} {rest₀:List Nat} {k₀:List Item} {cl:List Frame}
theorem hdV_parts:hdV=[.code (.seq xvR2 (.seq xvIf (.seq (.block 1 vIn) vR9))),.inLoop vL,.inBlock 0]:=congrArg (fun z=>[Item.code z,.inLoop vL,.inBlock 0]) vL_parts
theorem word_exit (R:RegsV Tr th.gb p mb db ab nb i c) (hlen:p.ops.length=i) (hc:HG Try.prog th.j F E (G (b₀.at (a₀.put ((ops₀[i₀]?).bind (·.dst)) (.tuple #[])) (.inRegion ops₀ rest₀ :: k₀)) cl) w) :
  HGn Try.prog th.j F E w 100 (G ((base 81).at ⟨Tr,[]⟩ hdV) (b₀.at a₀ (.inRegion ops₀ (i₀ :: rest₀) :: k₀) :: cl)):=by
 obtain ⟨f,hf,fz⟩:=arrfv Tr R.sz
 have e15:=fz 15 _ R.t15
 have e16:=fz 16 _ R.t16
 rw [hlen] at e15
 clear fz
 subst hf
 have hdec:decide ((i:Int) < (i:Int))=false:=decide_eq_false (by omega)
 clear R
 rw [hdV_parts]
 generalize hG1:vIn=L1
 generalize hG2:vR9=L2
 generalize hGL:vL=LL
 simp only [xvR2,xvIf,vR2,vIf,vL,vB,Try.f81,Option.getD_some,List.range,List.range.loop,List.map_cons,List.map_nil,e15,e16]
 refine Idl.q (idl_hg Try.prog th.j F E w) (Idl.rg (idl_hg Try.prog th.j F E w) [0] rfl ?_)
 refine Idl.v (idl_hg Try.prog th.j F E w) ?_
 walk_nrm
 refine Idl.re (idl_hg Try.prog th.j F E w) (Idl.q (idl_hg Try.prog th.j F E w) (Idl.cf (idl_hg Try.prog th.j F E w) rfl (Idl.exit (idl_hg Try.prog th.j F E w) rfl (Idl.en (idl_hg Try.prog th.j F E w) ?_))))
 refine Idl.leave0 (n:=1) (idl_hg Try.prog th.j F E w) rfl rfl Try.func81 rfl ?_
 exact hc
theorem word_head (R:RegsV Tr th.gb p mb db ab nb i c) (hlt:i < p.ops.length) (hc:∀ T',RegsV T' th.gb p mb db ab nb i c→HG Try.prog th.j F E (G ((base 81).at ⟨T',[]⟩ hdVI) cs) w) :
  HGn Try.prog th.j F E w 100 (G ((base 81).at ⟨Tr,[]⟩ hdV) cs):=by
 obtain ⟨f,hf,fz⟩:=arrfv Tr R.sz
 have e15:=fz 15 _ R.t15
 have e16:=fz 16 _ R.t16
 clear fz
 have hc':∀ T',T'.size=56→(∀ j,j < 17→T'[j]?=some (f j))→HG Try.prog th.j F E (G ((base 81).at ⟨T',[]⟩ hdVI) cs) w:=fun T' a1 a2=>hc T' (R.up a1 (fun j hj=>.inl (by rw [a2 j hj,hf,arrf_get f (by omega)])))
 clear hc R
 subst hf
 have hdec:decide ((i:Int) < (p.ops.length:Int))=true:=decide_eq_true (by omega)
 replace hc':=Lib.hid hc'
 rw [hdV_parts]
 unfold hdVI at hc'
 generalize hG1:vIn=L1 at hc' ⊢
 generalize hG2:vR9=L2 at hc' ⊢
 generalize hGL:vL=LL at hc' ⊢
 simp only [xvR2,xvIf,vR2,vIf,vL,vB,Try.f81,Option.getD_some,List.range,List.range.loop,List.map_cons,List.map_nil,e15,e16]
 refine Idl.q (idl_hg Try.prog th.j F E w) (Idl.rg (idl_hg Try.prog th.j F E w) [0] rfl ?_)
 refine Idl.v (idl_hg Try.prog th.j F E w) ?_
 walk_nrm
 refine Idl.re (idl_hg Try.prog th.j F E w) (Idl.q (idl_hg Try.prog th.j F E w) (Idl.ct (idl_hg Try.prog th.j F E w) rfl (Idl.sk (idl_hg Try.prog th.j F E w) (Idl.q (idl_hg Try.prog th.j F E w) (Idl.bl (idl_hg Try.prog th.j F E w) ?_)))))
 refine hc'.out _ (by simp) (fun j hj=>?_)
 match j,hj with
 | 0,_ | 1,_ | 2,_ | 3,_ | 4,_ | 5,_ | 6,_ | 7,_ | 8,_ | 9,_ | 10,_ | 11,_ | 12,_ | 13,_ | 14,_ | 15,_ | 16,_=>simp [e15,e16]
 | q+17,hq=>exact absurd hq (by omega)
theorem word_skip (R:RegsV Tr th.gb p mb db ab nb i c) (hi:i≤1000000000000) (t12:Tr[12]?=some (.bool false)) (hc:∀ T',RegsV T' th.gb p mb db ab nb (i+1) c→HG Try.prog th.j F E (G ((base 81).at ⟨T',[]⟩ hdV) cs) w) :
  HGn Try.prog th.j F E w 100 (G ((base 81).at ⟨Tr,[]⟩ hdV5) cs):=by
 obtain ⟨f,hf,fz⟩:=arrfv Tr R.sz
 have e12:=fz 12 _ t12
 have e16:=fz 16 _ R.t16
 clear fz
 have w2:=wrap_nat i hi
 have hc':∀ T',T'.size=56→(∀ j,j < 16→T'[j]?=some (f j))→T'[16]?=some (.int .i64 ((i+1:Nat):Int))→HG Try.prog th.j F E (G ((base 81).at ⟨T',[]⟩ hdV) cs) w:=fun T' a1 a2 a3=>by
  have key:∀ j,j < 16→T'[j]?=Tr[j]?:=fun j hj=>by rw [a2 j hj,hf,arrf_get f (by omega)]
  exact hc T' ⟨a1,(key 0 (by decide)).trans R.t0,(key 2 (by decide)).trans R.t2,(key 3 (by decide)).trans R.t3,(key 4 (by decide)).trans R.t4,(key 5 (by decide)).trans R.t5,(key 6 (by decide)).trans R.t6,(key 8 (by decide)).trans R.t8,R.t14.imp (fun z=>(key 14 (by decide)).trans z) id,(key 15 (by decide)).trans R.t15,a3⟩
 clear hc R t12
 subst hf
 replace hc':=Lib.hid hc'
 unfold hdV5
 unfold hdV at hc'
 rw [show vR5=xvR5 from rfl,show vR9=xvR9 from rfl]
 generalize hG1:vR6=L1 at hc' ⊢
 generalize hG2:vR7=L2 at hc' ⊢
 generalize hG3:vR8=L3 at hc' ⊢
 generalize hGL:vL=LL at hc' ⊢
 simp only [xvR5,xvR9,vR5,vR9,vIn,vL,vB,Try.f81,Option.getD_some,List.range,List.range.loop,List.map_cons,List.map_nil,e12,e16]
 refine Idl.q (idl_hg Try.prog th.j F E w) (Idl.q (idl_hg Try.prog th.j F E w) (Idl.rg (idl_hg Try.prog th.j F E w) [0,1] rfl ?_))
 iterate 2 (refine Idl.v (idl_hg Try.prog th.j F E w) ?_; walk_nrm)
 refine Idl.re (idl_hg Try.prog th.j F E w) (Idl.ct (idl_hg Try.prog th.j F E w) rfl (Idl.exit (idl_hg Try.prog th.j F E w) rfl (Idl.rg (idl_hg Try.prog th.j F E w) [0,1] rfl ?_)))
 iterate 2 (refine Idl.v (idl_hg Try.prog th.j F E w) ?_; walk_nrm)
 refine Idl.re (idl_hg Try.prog th.j F E w) (Idl.il (idl_hg Try.prog th.j F E w) ?_)
 try simp only [w2]
 refine hc'.out _ (by simp) (fun j hj=>?_) (by simp)
 match j,hj with
 | 0,_ | 1,_ | 2,_ | 3,_ | 4,_ | 5,_ | 6,_ | 7,_ | 8,_ | 9,_ | 10,_ | 11,_ | 12,_ | 13,_ | 14,_ | 15,_=>simp [e12,e16]
 | q+16,hq=>exact absurd hq (by omega)
theorem word_take (R:RegsV Tr th.gb p mb db ab nb i c) (t12:Tr[12]?=some (.bool true)) (hc:∀ T',T'.size=56→(∀ j,j < 17→T'[j]?=Tr[j]?)→HG Try.prog th.j F E (G ((base 81).at ⟨T',[]⟩ hdV6) cs) w) :
  HGn Try.prog th.j F E w 100 (G ((base 81).at ⟨Tr,[]⟩ hdV5) cs):=by
 obtain ⟨f,hf,fz⟩:=arrfv Tr R.sz
 have e12:=fz 12 _ t12
 clear fz
 have hc':∀ T',T'.size=56→(∀ j,j < 17→T'[j]?=some (f j))→HG Try.prog th.j F E (G ((base 81).at ⟨T',[]⟩ hdV6) cs) w:=fun T' a1 a2=>hc T' a1 (fun j hj=>by rw [a2 j hj,hf,arrf_get f (by omega)])
 clear hc R t12
 subst hf
 replace hc':=Lib.hid hc'
 unfold hdV5
 unfold hdV6 at hc'
 rw [show vR5=xvR5 from rfl]
 generalize hG1:vR6=L1 at hc' ⊢
 generalize hG2:vR7=L2 at hc' ⊢
 generalize hG3:vR8=L3 at hc' ⊢
 generalize hG4:vR9=L4 at hc' ⊢
 generalize hGL:vL=LL at hc' ⊢
 simp only [xvR5,vR5,vIn,vL,vB,Try.f81,Option.getD_some,List.range,List.range.loop,List.map_cons,List.map_nil,e12]
 refine Idl.q (idl_hg Try.prog th.j F E w) (Idl.q (idl_hg Try.prog th.j F E w) (Idl.rg (idl_hg Try.prog th.j F E w) [0,1] rfl ?_))
 iterate 2 (refine Idl.v (idl_hg Try.prog th.j F E w) ?_; walk_nrm)
 refine Idl.re (idl_hg Try.prog th.j F E w) (Idl.cf (idl_hg Try.prog th.j F E w) rfl (Idl.sk (idl_hg Try.prog th.j F E w) (Idl.q (idl_hg Try.prog th.j F E w) ?_)))
 refine hc'.out _ (by simp) (fun j hj=>?_)
 match j,hj with
 | 0,_ | 1,_ | 2,_ | 3,_ | 4,_ | 5,_ | 6,_ | 7,_ | 8,_ | 9,_ | 10,_ | 11,_ | 12,_ | 13,_ | 14,_ | 15,_ | 16,_=>simp [e12]
 | q+17,hq=>exact absurd hq (by omega)
theorem word_op {op:Op3} (W:WTok K L t p mb wb n db ab nb mpb) (m:WordM mb wb n K L s E w) (hop:p.ops[i]?=some op) (R:RegsV Tr th.gb p mb db ab nb i c)
  (hc:∀ E1 w1 T' bb,Still th.j E w E1 w1→RegsV T' th.gb p mb db ab nb i c→w1.heap[bb]?=some (.cells #[.int .i64 op.1,.int .i64 op.2.1,.int .i64 op.2.2] 34)→E1.H bb=none→T'[10]?=some (.pointer (some ⟨bb,0,none⟩))→T'[11]?=some (lookV op.1)→T'[12]?=some (.bool (isC op.1))→HG Try.prog th.j F E1 (G ((base 81).at ⟨T',[]⟩ hdV5) cs) w1) :
  HGn Try.prog th.j F E w 100 (G ((base 81).at ⟨Tr,[]⟩ hdVI) cs):=by
 have hlt:i < p.ops.length:=(List.getElem?_eq_some_iff.1 hop).1
 have h14:=R.t14.resolve_right (fun e=>by rw [e] at hlt; simp at hlt)
 obtain ⟨o1,o2,o3⟩:=W.P.ops i op hop
 obtain ⟨r1,r2,r3⟩:=W.rng i op hop
 unfold hdVI
 rw [show vIn=.seq vR3 (.seq vR4 (.seq vR5 (.seq vR6 (.seq vR7 vR8)))) from vIn_parts]
 refine Idl.step (idl_hg Try.prog th.j F E w) _ _ _ rfl (fun _=>stepG_seq) ?_
 refine HG.quietM [.cells #[.int .i64 op.1,.int .i64 op.2.1,.int .i64 op.2.2] 34] (closed_none _) (fun T' S=>T'.size=56∧(∀ j,j < 17→j≠10→T'[j]?=Tr[j]?)∧T'[10]?=some (.pointer (some ⟨S,0,none⟩))) (by kernel_rfl) (by rfl) (fun x hxs hx=>?_) (fun E1 w1 T1 S1 N1 hR=>?_)
 ·have cx:∀ {a v},KC K a v→x.cell? a=some v:=fun {a v} hk=>by
   obtain ⟨k1,k2,_⟩:=m.konst _ _ hk
   exact (World.cell?_of_block (hx _ k2)).trans k1
  refine vr3_wp R.sz h14 R.t16 hlt (cx o1) (cx o2) (cx o3) (fun T' x' a1 a2 a3 a4=>⟨rfl,rfl,fun b hb=>by rw [a4,Array.getElem?_push,if_neg (by omega)],fun j o hj=>?_,a1,a2,a3⟩)
  match j,hj with
  | 0,hj=>cases hj; rw [a4]; simp
 obtain ⟨s1,j1,u10⟩:=hR
 obtain ⟨nb0,nbH⟩:=N1 0 _ rfl
 rw [Nat.add_zero] at nb0 nbH
 generalize w.heap.size=bb at nb0 nbH u10
 have R1:RegsV T1 th.gb p mb db ab nb i c:=R.up s1 (fun j hj=>by
  by_cases e:j=10
  ·exact .inr (by omega)
  ·exact .inl (j1 j hj e))
 have m1:=m.still S1
 change HGn Try.prog th.j F E1 w1 100 _
 refine Idl.step (idl_hg Try.prog th.j F E1 w1) _ _ _ rfl (fun _=>stepG_seq) ?_
 refine HG.quietN (closed_none _) (fun T'=>T'.size=56∧(∀ j,j < 17→j≠11→j≠12→T'[j]?=T1[j]?)∧T'[11]?=some (lookV op.1)∧T'[12]?=some (.bool (isC op.1))) (by kernel_rfl) (by rfl) (fun x hx=>?_) (fun E2 w2 T2 S2 hR=>?_)
 ·obtain ⟨k1,k2,_⟩:=m1.konst _ _ W.kd
  obtain ⟨om,km1,km2⟩:=W.km
  obtain ⟨q1,q2,_⟩:=m1.m.kobj _ _ (.inl km1)
  refine vr4_wp s1 R1.t2 u10 ((World.cell?_of_block (hx _ k2)).trans k1) ((World.cell?_of_block (a:=⟨bb,0,none⟩) (hx _ nbH)).trans (obj_cell nb0 (o:=0) rfl)) r1 (ownsMap_same (km2 w1 q1) (hx _ q2)) (fun T' a1 a2 a3 a4=>⟨rfl,rfl,fun _ _=>rfl,a1,a2,a3,a4⟩)
 obtain ⟨s2,j2,u11,u12⟩:=hR
 obtain ⟨nb1H,nb1⟩:=S2.st _ _ nbH nb0
 exact hc E2 w2 T2 bb (S1.trans S2) (R1.up s2 (fun j hj=>by
  by_cases e:j=11∨j=12
  ·exact .inr (by omega)
  ·exact .inl (j2 j hj (fun z=>e (.inl z)) (fun z=>e (.inr z))))) nb1 nb1H ((j2 10 (by decide) (by decide) (by decide)).trans u10) u11 u12
end
end Go.Proofs.Ytimlbbleblijnaa.Co
