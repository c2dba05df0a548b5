/- Lemmas for the laws of this seat, laid together of PGci, PGck, PHb0, PHc0, PHe0, PIa. -/
import Derived.Test.YtimlbbleblijnaaV18
import Derived.Conc.CompanyDraw

open Go.ConcR.Gen (base_kind baseD_kind)
set_option linter.unusedVariables false
set_option linter.unusedSimpArgs false
set_option maxRecDepth 100000
set_option maxHeartbeats 4000000
namespace Go.Proofs.Ytimlbbleblijnaa.Co
open Go Go.Conc Go.RowKit
open Go.ConcN (sumTo upd sumTo_upd upd_ne upd_same sumTo_congr le_sumTo)
noncomputable def fxBody:Code:=Try.f17.body.getD .skip
noncomputable def fx0:Code:=match fxBody with | .seq x _=>x | _=>.skip
noncomputable def fx1:Code:=match fxBody with | .seq _ (.seq x _)=>x | _=>.skip
noncomputable def fx2:Code:=match fxBody with | .seq _ (.seq _ (.seq x _))=>x | _=>.skip
noncomputable def fx3:Code:=match fxBody with | .seq _ (.seq _ (.seq _ (.seq x _)))=>x | _=>.skip
theorem fx_parts:fxBody=.seq fx0 (.seq fx1 (.seq fx2 (.seq fx3 .ret))):=by kernel_rfl
noncomputable def xf0:Code:=fx0
noncomputable def xf1:Code:=fx1
theorem fx3_wp {f:Nat→Value} {x:World} {g cap:Nat} {Q:Exit→Act→World→Prop} (h1:f 1=.slice (some ⟨g,0,none⟩) 3 cap) (h2:f 2=.int .i64 0)
    (c0:x.cell? ⟨g,0,none⟩=some (.int .i64 1)) (c1:x.cell? ⟨g,1,none⟩=some (.int .i64 1)) (c2:x.cell? ⟨g,2,none⟩=some (.int .i64 0)) (c3:x.cell? ⟨g,3,none⟩=some (.int .i64 7))
    (c8:x.cell? ⟨g,8,none⟩=some (.int .i64 0)) (c9:x.cell? ⟨g,9,none⟩=some (.int .i64 3)) (c10:x.cell? ⟨g,10,none⟩=some (.int .i64 1)) (c11:x.cell? ⟨g,11,none⟩=some (.int .i64 6))
    (hQ:∀ T',T'.size=34→T'[0]?=some (.bool true)→Q .normal ⟨T',[]⟩ x) :
    fx3.wp Try.prog Q ⟨(List.map f (List.range 34)).toArray,[]⟩ x:=by
  simp only [List.range,List.range.loop,List.map_cons,List.map_nil,h1,h2]
  simp only [fx3,fxBody,Try.f17,Option.getD_some]
  go_wp2
  exact hQ _ (by simp) (by simp)
theorem fx3_wpT {T:Array Value} {x:World} {g cap:Nat} {Q:Exit→Act→World→Prop} (hs:T.size=34) (h1:T[1]?=some (.slice (some ⟨g,0,none⟩) 3 cap)) (h2:T[2]?=some (.int .i64 0))
    (hcs:∀ i u,(mksV [((1:Int),(1:Int),(0:Int),(7:Int)),(0,2,0,5),(0,3,1,6)])[i]?=some u→x.cell? ⟨g,i,none⟩=some u)
    (hQ:∀ T',T'.size=34→T'[0]?=some (.bool true)→Q .normal ⟨T',[]⟩ x):fx3.wp Try.prog Q ⟨T,[]⟩ x:=by
  obtain ⟨f,hf,fz⟩:=arrfv T hs
  rw [hf]
  exact fx3_wp (fz 1 _ h1) (fz 2 _ h2) (hcs 0 _ rfl) (hcs 1 _ rfl) (hcs 2 _ rfl) (hcs 3 _ rfl) (hcs 8 _ rfl) (hcs 9 _ rfl) (hcs 10 _ rfl) (hcs 11 _ rfl) hQ
theorem fixed06_game {a':PA} {k:Int} (h:(playG [[((0:Int),(0:Int),(5:Int)),(0,0,6)],[(0,0,7)]]).Run [1,0] true pa0 (a',k)):a'.ms=[((1:Int),(1:Int),(0:Int),(7:Int)),(0,2,0,5),(0,3,1,6)]:=by
  have hx:(playG [[((0:Int),(0:Int),(5:Int)),(0,0,6)],[(0,0,7)]]).Run [1,0] true pa0 (⟨[((1:Int),(1:Int),(0:Int),(7:Int)),(0,2,0,5),(0,3,1,6)],upd (upd (upd (fun _=>0) 1 1) 0 1) 0 2⟩,3):=by
    unfold Game.Run
    rw [if_neg (by decide)]
    simp only [if_true]
    refine Game.Drn.go (t:=0) (by decide) ?_
    exact Game.Drn.stop (by rfl)
  have:=h.det hx
  simp only [Prod.mk.injEq] at this
  rw [this.1]
theorem row_cells {x:World} {B e n:Nat} {g cap:Nat} {xs:List Value} {sz:Nat} (h:x.ownsRow B e sz (.slice (some ⟨g,0,none⟩) n cap) n xs):∀ i u,xs[i]?=some u→x.cell? ⟨g,i,none⟩=some u:=by
  obtain ⟨h1,h2⟩:=h
  rcases h2 with ⟨h2,_⟩ | ⟨g',cap',cur,e1,hb,hg,c1,c2,c3,c4⟩
  · cases h2
  · intro i u hu
    cases e1
    refine obj_cell hg ?_
    rw [← c4,List.getElem?_take] at hu
    split at hu
    · simpa using hu
    · cases hu
theorem row_some {x:World} {B e n:Nat} {v:Value} {xs:List Value} {sz:Nat} (h:x.ownsRow B e sz v n xs) (hn:0 < n):∃ g cap,v=.slice (some ⟨g,0,none⟩) n cap:=by
  obtain ⟨h1,h2⟩:=h
  rcases h2 with ⟨rfl,rfl⟩ | ⟨g,cap,cur,rfl,_⟩
  · exact absurd hn (by omega)
  · exact ⟨g,cap,rfl⟩
noncomputable def xf2:Code:=fx2
section
variable {h:Nat} {F:Machine→Trace→Prop} {E:Env} {w:World} {b₀:Frame} {a₀:Act} {ops₀:Array Oper} {i₀:Nat} {rest₀:List Nat} {k₀:List Item} {cl:List Frame}
theorem fixed06_holds (hrole:E.role h=.gone) (hmode:∀ b,E.mode b=0)
    (hc:∀ E' w',Kept h none E w E' w'→Stands E w E' w'→HG Try.prog h F E' (G (b₀.at (a₀.put ((ops₀[i₀]?).bind (·.dst)) (.bool true)) (.inRegion ops₀ rest₀ :: k₀)) cl) w') :
    HGn Try.prog h F E w 100 (entry 17 Try.f17 #[] (b₀.at a₀ (.inRegion ops₀ (i₀ :: rest₀) :: k₀) :: cl)):=by
  unfold entry
  rw [show Try.f17.body.getD .skip=.seq xf0 (.seq xf1 (.seq fx2 (.seq fx3 .ret))) from fx_parts,show Try.f17.ntmps=34 from rfl]
  generalize hG2:fx2=L2
  generalize hG3:fx3=L3
  simp only [xf0,xf1,fx0,fx1,fxBody,Try.f17,Option.getD_some]
  walk_nrm
  refine Idl.q (idl_hg Try.prog h F E w) (Idl.rg (idl_hg Try.prog h F E w) [0] rfl ?_)
  apply Idl.value (idl_hg Try.prog h F E w) rfl rfl (by first | decide | exact base_kind _ | exact baseD_kind _ | assumption)
  focus (intro w; go_simp; (try w_num); first | done | rfl)
  focus (intro w; simp [go_sem, *])
  walk_nrm
  refine Idl.re (idl_hg Try.prog h F E w) (Idl.q (idl_hg Try.prog h F E w) (Idl.rg (idl_hg Try.prog h F E w) [0,1,2,3,4,5,6,7,8] rfl ?_))
  iterate 2 (apply Idl.value (idl_hg Try.prog h F E w) rfl rfl (by first | decide | exact base_kind _ | exact baseD_kind _ | assumption); (focus (intro w; go_simp; (try w_num); first | done | rfl)); (focus (intro w; simp [go_sem, *])); walk_nrm)
  refine HGn.mkV (c:=#[.int .i64 0,.int .i64 0,.int .i64 5,.int .i64 0,.int .i64 0,.int .i64 6]) (t:=34) (fun s=>.slice (some ⟨s,0,none⟩) 2 2) hrole rfl rfl (by k_ne) (fun w₁=>⟨by kernel_rfl,by kernel_rfl⟩) (fun B1 _=>?_)
  walk_nrm
  obtain ⟨w1,e1⟩:∃ w1,w1=w.alloc (.cells #[.int .i64 0,.int .i64 0,.int .i64 5,.int .i64 0,.int .i64 0,.int .i64 6] 34):=⟨_,rfl⟩
  rw [← e1]
  apply Idl.value (idl_hg Try.prog h F E w1) rfl rfl (by first | decide | exact base_kind _ | exact baseD_kind _ | assumption)
  focus (intro w; go_simp; (try w_num); first | done | rfl)
  focus (intro w; simp [go_sem, *])
  walk_nrm
  refine HGn.mkV (c:=#[.int .i64 0,.int .i64 0,.int .i64 7]) (t:=34) (fun s=>.slice (some ⟨s,0,none⟩) 1 1) hrole rfl rfl (by k_ne) (fun w₁=>⟨by kernel_rfl,by kernel_rfl⟩) (fun B2 _=>?_)
  walk_nrm
  obtain ⟨w2,e2⟩:∃ w2,w2=w1.alloc (.cells #[.int .i64 0,.int .i64 0,.int .i64 7] 34):=⟨_,rfl⟩
  rw [← e2]
  skip
  refine HGn.mkV (c:=#[.slice (some ⟨w.heap.size,0,none⟩) 2 2,.slice (some ⟨w1.heap.size,0,none⟩) 1 1]) (t:=32) (fun s=>.slice (some ⟨s,0,none⟩) 2 2) hrole rfl rfl (by k_ne) (fun w₁=>⟨by kernel_rfl,by kernel_rfl⟩) (fun B3 _=>?_)
  walk_nrm
  obtain ⟨w3,e3⟩:∃ w3,w3=w2.alloc (.cells #[.slice (some ⟨w.heap.size,0,none⟩) 2 2,.slice (some ⟨w1.heap.size,0,none⟩) 1 1] 32):=⟨_,rfl⟩
  rw [← e3]
  skip
  refine HGn.mkV (c:=#[.int .i64 1,.int .i64 0]) (t:=3) (fun s=>.slice (some ⟨s,0,none⟩) 2 2) hrole rfl rfl (by k_ne) (fun w₁=>⟨by kernel_rfl,by kernel_rfl⟩) (fun B4 _=>?_)
  walk_nrm
  obtain ⟨w4,e4⟩:∃ w4,w4=w3.alloc (.cells #[.int .i64 1,.int .i64 0] 3):=⟨_,rfl⟩
  rw [← e4]
  skip
  refine Idl.callE (fn:=Try.f21) (vs:=#[.slice (some ⟨w2.heap.size,0,none⟩) 2 2,.slice (some ⟨w3.heap.size,0,none⟩) 2 2,.bool true]) (idl_hg Try.prog h F E w4) rfl rfl (by k_ne) rfl Try.func21 rfl rfl (by simp [Act.eval]) ?_
  have s1:w1.heap.size=w.heap.size+1:=by rw [e1,alloc_size]
  have s2:w2.heap.size=w.heap.size+2:=by rw [e2,alloc_size,s1]
  have s3:w3.heap.size=w.heap.size+3:=by rw [e3,alloc_size,s2]
  have s4:w4.heap.size=w.heap.size+4:=by rw [e4,alloc_size,s3]
  have g1:w4.heap[w.heap.size]?=some (.cells #[.int .i64 0,.int .i64 0,.int .i64 5,.int .i64 0,.int .i64 0,.int .i64 6] 34):=by
    rw [e4,alloc_old (by omega),e3,alloc_old (by omega),e2,alloc_old (by omega),e1]; exact alloc_new
  have g2:w4.heap[w1.heap.size]?=some (.cells #[.int .i64 0,.int .i64 0,.int .i64 7] 34):=by
    rw [e4,alloc_old (by omega),e3,alloc_old (by omega),e2]; exact alloc_new
  have g3:w4.heap[w2.heap.size]?=some (.cells #[.slice (some ⟨w.heap.size,0,none⟩) 2 2,.slice (some ⟨w1.heap.size,0,none⟩) 1 1] 32):=by
    rw [e4,alloc_old (by omega),e3]; exact alloc_new
  have g4:w4.heap[w3.heap.size]?=some (.cells #[.int .i64 1,.int .i64 0] 3):=by rw [e4]; exact alloc_new
  have hK4:Kept h none E w E w4:=by
    have k1:Kept h none E w E w1:=by rw [e1]; exact kept_alloc
    have k2:Kept h none E w1 E w2:=by rw [e2]; exact kept_alloc
    have k3:Kept h none E w2 E w3:=by rw [e3]; exact kept_alloc
    have k4:Kept h none E w3 E w4:=by rw [e4]; exact kept_alloc
    exact ((k1.trans k2).trans k3).trans k4
  have hS4:Stands E w E w4:=by
    have k1:Stands E w E w1:=by rw [e1]; exact stands_alloc
    have k2:Stands E w1 E w2:=by rw [e2]; exact stands_alloc
    have k3:Stands E w2 E w3:=by rw [e3]; exact stands_alloc
    have k4:Stands E w3 E w4:=by rw [e4]; exact stands_alloc
    exact ((k1.trans k2).trans k3).trans k4
  have hOps:OpsAt E w4 (.slice (some ⟨w2.heap.size,0,none⟩) 2 2) [[((0:Int),(0:Int),(5:Int)),(0,0,6)],[(0,0,7)]]:=by
    refine ⟨_,w2.heap.size,0,2,fun i=>if i=0 then some ⟨w.heap.size,0,none⟩ else some ⟨w1.heap.size,0,none⟩,fun i=>if i=0 then 2 else 1,rfl,fun _=>rfl,fun i l hi=>?_⟩
    match i,hi with
    | 0,hi =>
      cases hi
      refine ⟨⟨obj_cell g3 rfl,B1 _ (by omega)⟩,fun _=>⟨w.heap.size,0,rfl,B1 _ (by omega),fun j op hj=>?_⟩⟩
      match j,hj with
      | 0,hj=>cases hj; exact ⟨obj_cell g1 rfl,obj_cell g1 rfl,obj_cell g1 rfl⟩
      | 1,hj=>cases hj; exact ⟨obj_cell g1 rfl,obj_cell g1 rfl,obj_cell g1 rfl⟩
      | j+2,hj=>cases hj
    | 1,hi =>
      cases hi
      refine ⟨⟨obj_cell g3 rfl,B1 _ (by omega)⟩,fun _=>⟨w1.heap.size,0,rfl,B1 _ (by omega),fun j op hj=>?_⟩⟩
      match j,hj with
      | 0,hj=>cases hj; exact ⟨obj_cell g2 rfl,obj_cell g2 rfl,obj_cell g2 rfl⟩
      | j+1,hj=>cases hj
    | i+2,hi=>cases hi
  have hInts:IntsAt E w4 (.slice (some ⟨w3.heap.size,0,none⟩) 2 2) [1,0]:=by
    refine ⟨_,w3.heap.size,0,2,rfl,fun _=>rfl,fun i p hi=>?_⟩
    match i,hi with
    | 0,hi=>cases hi; exact ⟨obj_cell g4 rfl,B1 _ (by omega)⟩
    | 1,hi=>cases hi; exact ⟨obj_cell g4 rfl,B1 _ (by omega)⟩
    | i+2,hi=>cases hi
  clear e1 e2 e3 e4 g1 g2 g3 g4
  refine play_holds hOps hInts (by decide) (by decide) (by decide) (by decide) hrole hmode (fun E5 w5 mv ms po=>?_)
  obtain ⟨a',k',hg,hms⟩:=po.game (by decide)
  have hms2:=fixed06_game hg
  rw [hms] at hms2
  subst hms2
  have hrole5:E5.role h=.gone:=po.kept.le.roleH.trans hrole
  have hmode5:∀ b,E5.mode b=0:=fun b=>po.kept.le.mode b (hmode b)
  have hH5:=po.rowH
  have hrow:=po.row
  obtain ⟨g,cap,rfl⟩:=row_some hrow (by decide)
  have hcs:=row_cells hrow
  have hgH:=hH5 g rfl
  have hK5:=hK4.trans po.kept
  have hS5:=hS4.trans po.stands
  clear hH5 hrow po hg hms hOps hInts
  change HGn Try.prog h F E5 w5 100 _
  walk_nrm
  apply Idl.value (idl_hg Try.prog h F E5 w5) rfl rfl (by first | decide | exact base_kind _ | exact baseD_kind _ | assumption)
  focus (intro w; go_simp; (try w_num); first | done | rfl)
  focus (intro w; simp [go_sem, *])
  walk_nrm
  refine Idl.re (idl_hg Try.prog h F E5 w5) (Idl.q (idl_hg Try.prog h F E5 w5) ?_)
  rw [← hG2]
  rw [show fx2=xf2 from rfl]
  simp only [xf2,fx2,fxBody,Try.f17,Option.getD_some]
  refine Idl.rg (idl_hg Try.prog h F E5 w5) [0,1,2] rfl ?_
  refine HGn.mkV (c:=#[.int .i64 1,.int .i64 2,.int .i64 3]) (t:=3) (fun s=>.slice (some ⟨s,0,none⟩) 3 3) hrole5 rfl rfl (by k_ne) (fun w₁=>⟨by kernel_rfl,by kernel_rfl⟩) (fun B5 _=>?_)
  walk_nrm
  obtain ⟨w6,e6⟩:∃ w6,w6=w5.alloc (.cells #[.int .i64 1,.int .i64 2,.int .i64 3] 3):=⟨_,rfl⟩
  rw [← e6]
  have g6:w6.heap[w5.heap.size]?=some (.cells #[.int .i64 1,.int .i64 2,.int .i64 3] 3):=by rw [e6]; exact alloc_new
  have hK6:Kept h none E w E5 w6:=hK5.trans (by rw [e6]; exact kept_alloc)
  have hS56:Stands E5 w5 E5 w6:=by rw [e6]; exact stands_alloc
  have hS6:=hS5.trans hS56
  have hcs6:∀ i u,(mksV [((1:Int),(1:Int),(0:Int),(7:Int)),(0,2,0,5),(0,3,1,6)])[i]?=some u→w6.cell? ⟨g,i,none⟩=some u:=fun i u hu=>(hS56.cell (hcs i u hu) hgH).1
  clear e6 hcs
  skip
  refine Idl.callE (fn:=Try.f29) (vs:=#[.slice none 0 0,.slice (some ⟨w5.heap.size,0,none⟩) 3 3,.bool true]) (idl_hg Try.prog h F E5 w6) rfl rfl (by k_ne) rfl Try.func29 rfl rfl (by simp [Act.eval]) ?_
  refine run_empty (picks:=[1,2,3]) ⟨_,w5.heap.size,0,3,rfl,fun _=>rfl,fun i p hi=>?_⟩ (by decide) (by decide) hrole5 hmode5 (fun E7 w7 hK7 hS67=>?_)
  · match i,hi with
    | 0,hi=>cases hi; exact ⟨obj_cell g6 rfl,B5 _ (by omega)⟩
    | 1,hi=>cases hi; exact ⟨obj_cell g6 rfl,B5 _ (by omega)⟩
    | 2,hi=>cases hi; exact ⟨obj_cell g6 rfl,B5 _ (by omega)⟩
    | i+3,hi=>cases hi
  have hS7:=hS6.trans hS67
  have hcs7:∀ i u,(mksV [((1:Int),(1:Int),(0:Int),(7:Int)),(0,2,0,5),(0,3,1,6)])[i]?=some u→w7.cell? ⟨g,i,none⟩=some u∧E7.H g=none:=fun i u hu=>hS67.cell (hcs6 i u hu) hgH
  have hgH7:=(hcs7 0 _ rfl).2
  clear g6 hcs6
  change HGn Try.prog h F E7 w7 100 _
  walk_nrm
  apply Idl.value (idl_hg Try.prog h F E7 w7) rfl rfl (by first | decide | exact base_kind _ | exact baseD_kind _ | assumption)
  focus (intro w; go_simp; (try w_num); first | done | rfl)
  focus (intro w; simp [go_sem, *])
  walk_nrm
  refine Idl.re (idl_hg Try.prog h F E7 w7) (Idl.q (idl_hg Try.prog h F E7 w7) ?_)
  refine HG.quietS (fun _=>False) (fun _ z=>z.elim) (closed_none _) (Q:=fun a' x x'=>a'.tmps.size=34∧a'.tmps[0]?=some (.bool true)∧x'=x) (by rw [← hG3]; kernel_rfl) (by rfl) rfl (fun x hxs hx=>?_) (fun E8 w8 a8 x x' hE hd hxs hx hxs' hx' hK8 hB hS hq=>?_)
  · rw [← hG3]
    refine fx3_wpT (g:=g) (cap:=cap) (by simp) (by simp) (by simp) (fun i u hu=>(World.cell?_of_block (hx g hgH7)).trans (hcs7 i u hu).1) (fun T' q1 q2=>⟨rfl,rfl,fun _ _ _=>rfl,q1,q2,rfl⟩)
  · obtain ⟨Ta,df⟩:=a8
    have hd':df=[]:=hd
    subst hd'
    obtain ⟨q1,q2,rfl⟩:=hq
    have hS8:Stands E7 w7 E8 w8:=fun b o h1 h2=>⟨by rw [hE.H']; exact h1,by rw [hx' b h1,hx b h1]; exact h2⟩
    have hcc:=hc E8 w8 ((hK6.trans hK7).trans hK8) (hS7.trans hS8)
    obtain ⟨f2,hf2,fz⟩:=arrfv Ta q1
    have e0:=fz 0 _ q2
    clear fz
    subst hf2
    simp only [List.range,List.range.loop,List.map_cons,List.map_nil,e0]
    change HGn Try.prog h F E8 w8 100 _
    refine Idl.rt (idl_hg Try.prog h F E8 w8) ?_
    refine Idl.leave1 (n:=1) (idl_hg Try.prog h F E8 w8) rfl rfl Try.func17 rfl ?_
    exact hcc
end
end Go.Proofs.Ytimlbbleblijnaa.Co

namespace Go.Proofs.Ytimlbbleblijnaa.Co
open Go Go.Conc Go.RowKit
section
variable {h:Nat} {F:Machine→Trace→Prop} {E:Env} {w:World} {b₀:Frame} {a₀:Act} {ops₀:Array Oper} {i₀:Nat} {rest₀:List Nat} {k₀:List Item} {cl:List Frame}
theorem _root_.Go.Proofs.Ytimlbbleblijnaa.Co.Idl.leaveV {P:Program} {main:Bool} {A:Nat→Goroutine→Prop} {n:Nat} {b:Frame} {a:Act} {cs:List Frame} (I:Idl P main A) {fn:Func} {v:Value} {todo:List Item} {b₀:Frame} {a₀:Act} {k:List Item} {ops:Array Oper} {i:Nat} {rest:List Nat} (hn:b.kind=.normal) (hd:a.defers=[]) (hf:P.funcs[b.fn]?=some fn)
    (hr:∀ w,(results fn a.tmps).run P w=.ok v w) (he:∀ w,(results fn a.tmps).events P w #[]=#[]) (hg:A n (G (b₀.at (a₀.put ((ops[i]?).bind (·.dst)) v) (.inRegion ops rest :: k)) cs)):A (n+1) (G { b.at a todo with mode:=.returning } (b₀.at a₀ (.inRegion ops (i :: rest) :: k) :: cs)) :=
  I.step _ _ _ rfl (fun w=>by rw [stepG_leave hn hd hf (hr w) (he w),Frame.finish_at]) hg
end
section
variable {F:Machine→Trace→Prop} {E:Env} {w:World}
end
end Go.Proofs.Ytimlbbleblijnaa.Co

namespace Go.Proofs.Ytimlbbleblijnaa.Co
open Go Go.Conc
structure WSet0 (x x':World) (a:Addr) (n:Int):Prop where
  old:∀ b,b≠a.block→x'.heap[b]?=x.heap[b]?
  new:∀ c t,x.heap[a.block]?=some (.cells c t)→x'.heap[a.block]?=some (.cells (c.setIfInBounds a.off (.int .i64 n)) t)
theorem WSet0.refl {x:World} {b o:Nat} {v:Int} (h:WordAt x ⟨b,o,none⟩ v):WSet0 x x ⟨b,o,none⟩ v:=by
  refine ⟨fun _ _=>rfl,fun c t hc=>?_⟩
  obtain ⟨_,c',t',h1,h2⟩:=h
  dsimp only at h1 h2 hc ⊢
  rw [h1] at hc
  simp only [Option.some.injEq,Obj.cells.injEq] at hc
  obtain ⟨rfl,rfl,_⟩:=hc
  rw [h1]
  have hl:=(Array.getElem?_eq_some_iff.1 h2).1
  have e:c'.setIfInBounds o (.int .i64 v)=c':=by
    apply Array.ext
    · simp
    · intro i h3 h4
      rw [Array.getElem_setIfInBounds]
      split
      · rename_i e
        subst e
        exact (Array.getElem?_eq_some_iff.1 h2).2.symm
      · rfl
  rw [e]
theorem WSet0.set {x:World} {b o:Nat} {v n:Int} (h:WordAt x ⟨b,o,none⟩ v):WSet0 x (x.setCell ⟨b,o,none⟩ (.int .i64 n)) ⟨b,o,none⟩ n:=by
  refine ⟨fun c hc=>heap_setCell_ne (a:=⟨b,o,none⟩) (fun e=>hc e.symm),fun c t hc=>?_⟩
  exact heap_set (a:=⟨b,o,none⟩) (w:=x) rfl hc
structure WSet (E:Env) (w:World) (E1:Env) (w1:World) (a:Addr) (n:Int):Prop where
  H:E1.H=E.H
  old:∀ b,E.H b=none→b≠a.block→w1.heap[b]?=w.heap[b]?
  new:∀ c t,w.heap[a.block]?=some (.cells c t)→w1.heap[a.block]?=some (.cells (c.setIfInBounds a.off (.int .i64 n)) t)
theorem WSet0.up {x x' w w':World} {E E1:Env} {b o:Nat} {n:Int} (h:WSet0 x x' ⟨b,o,none⟩ n) (hH:E.H b=none) (hE:E1.H=E.H) (hx:∀ b,E.H b=none→x.heap[b]?=w.heap[b]?) (hx':∀ b,E.H b=none→w'.heap[b]?=x'.heap[b]?):WSet E w E1 w' ⟨b,o,none⟩ n:=by
  refine ⟨hE,fun c hc hne=>?_,fun c t hc=>?_⟩
  · rw [hx' c hc,h.old c hne,hx c hc]
  · have h1:=h.new c t ((hx b hH).trans hc)
    exact (hx' b hH).trans h1
theorem WSet.stands {E E1:Env} {w w1:World} {a:Addr} {n:Int} (h:WSet E w E1 w1 a n) {b:Nat} {o:Obj} (h1:E.H b=none) (h2:w.heap[b]?=some o) (hne:b≠a.block):E1.H b=none∧w1.heap[b]?=some o:=⟨by rw [h.H]; exact h1,by rw [h.old b h1 hne]; exact h2⟩
theorem WSet.word {E E1:Env} {w w1:World} {b o:Nat} {v n:Int} (h:WSet E w E1 w1 ⟨b,o,none⟩ n) (hW:WordAt w ⟨b,o,none⟩ v):WordAt w1 ⟨b,o,none⟩ n:=by
  obtain ⟨h0,c,t,h1,h2⟩:=hW
  refine ⟨rfl,_,t,h.new c t h1,?_⟩
  have hl:=(Array.getElem?_eq_some_iff.1 h2).1
  dsimp only at hl ⊢
  rw [Array.getElem?_setIfInBounds_self_of_lt hl]
end Go.Proofs.Ytimlbbleblijnaa.Co

namespace Go.Proofs.Ytimlbbleblijnaa.Co
open Go Go.Conc Go.RowKit
def isC (k:Int):Bool:=decide (1≤k) && decide (k≤4)
structure Still (j:Nat) (E:Env) (w:World) (E1:Env) (w1:World):Prop where
  kept:Kept j none E w E1 w1
  H:E1.H=E.H
  st:Stands E w E1 w1
theorem Still.refl (j:Nat) (E:Env) (w:World):Still j E w E w:=⟨.refl _ _ _ _,rfl,fun _ _ h1 h2=>⟨h1,h2⟩⟩
theorem Still.trans {j:Nat} {E E1 E2:Env} {w w1 w2:World} (a:Still j E w E1 w1) (b:Still j E1 w1 E2 w2):Still j E w E2 w2:=⟨a.kept.trans b.kept,b.H.trans a.H,a.st.trans b.st⟩
theorem Still.word {j:Nat} {E E1:Env} {w w1:World} {b o:Nat} {v:Int} (s:Still j E w E1 w1) (hW:WordAt w ⟨b,o,none⟩ v) (hH:E.H b=none):WordAt w1 ⟨b,o,none⟩ v∧E1.H b=none:=by
  obtain ⟨h0,c,t,h1,h2⟩:=hW
  obtain ⟨s1,s2⟩:=s.st b _ hH h1
  exact ⟨⟨h0,c,t,s2,h2⟩,s1⟩
section
variable {P:Program} {h:Nat} {F:Machine→Trace→Prop} {E:Env} {w:World} {Fs:FuncId→Bool}
theorem HG.quietN (hC:Closed P Fs) {fr:Frame} {T:Array Value} {k:List Item} {cs:List Frame} {c:Code} (R:Array Value→Prop) (hq:quietCode P Fs c=true) (hk:fr.kind=.normal)
    (hwp:∀ x:World,(∀ b,E.H b=none→x.heap[b]?=w.heap[b]?)→c.wp P (fun e a' x'=>e=.normal∧a'.defers=[]∧(∀ b,b < x.heap.size→x'.heap[b]?=x.heap[b]?)∧R a'.tmps) ⟨T,[]⟩ x)
    (hg:∀ (E1:Env) (w1:World) (T':Array Value),Still h E w E1 w1→R T'→HG P h F E1 (G (fr.at ⟨T',[]⟩ k) cs) w1):HG P h F E (G (fr.at ⟨T,[]⟩ (.code c :: k)) cs) w:=by
  refine HG.quietS (fun _=>False) (fun _ z=>z.elim) hC (Q:=fun a' _ _=>R a'.tmps) hq hk rfl (fun x hxs hx=>?_) (fun E1 w' a' x x' hE hd hxs hx hxs' hx' hK hB hSt hq=>?_)
  · exact Code.wp_mono (fun e a' x' ⟨q1,q2,q3,q4⟩=>⟨q1,q2,fun b hb _=>q3 b hb,q4⟩) (hwp x hx)
  · obtain ⟨Ta,df⟩:=a'
    have hdf:df=[]:=hd
    subst hdf
    refine hg E1 w' Ta ⟨hK,hE.H',fun b o h1 h2=>⟨by rw [hE.H']; exact h1,?_⟩⟩ hq
    have hl:=(Array.getElem?_eq_some_iff.1 h2).1
    rw [hx' b h1,hSt b (by omega) id,hx b h1]
    exact h2
end
end Go.Proofs.Ytimlbbleblijnaa.Co

namespace Go.Proofs.Ytimlbbleblijnaa.Co
open Go Go.Conc
theorem terms_aw (W:Nat→Bool) (H:Nat→Option Nat) (S:Addr→Prop) (Cs:Nat→Prop):Terms (Aw W) (DG H W S Cs):=⟨Aw.trans,fun w=>DG.idle _ _ _ _ w⟩
theorem aw_draw {W:Nat→Bool} {w w₁:World} (h:Aw W w w₁) (n:Nat):Aw W w { w₁ with drawn:=n }:=by
  obtain ⟨a1,a2,a3,a4,a5,a6⟩:=h
  exact ⟨a1,a2,a3,a4,a5,a6⟩
section
variable {P:Program} {h:Nat} {F:Machine→Trace→Prop} {E:Env} {w:World}
theorem HG.looks {fr:Frame} {a aF:Act} {k:List Item} {cs:List Frame} {rid:Nat} {ops:Array Oper} {S:World→Prop} (hm:P.follows .mixedOrders=true) (hk:fr.kind=.normal)
    (hany:∀ w₁,Aw E.W w w₁→AnyCH P (Aw E.W) E.D fr.fn .any ops (fun e a' w'=>e=.normal∧a'=aF∧Aw E.W w w') S ops.size (Array.replicate ops.size false) a { w₁ with drawn:=w₁.drawn+1 })
    (hg:∀ w',Aw E.W w w'→HG P h F E (G (fr.at aF k) cs) w'):HG P h F E (G (fr.at a (.code (.region rid ops true) :: k)) cs) w:=by
  have T:Terms (Aw E.W) E.D:=terms_aw _ _ _ _
  have hd:LetsDraw E.D:=fun w=>⟨Nat.le_refl _,fun _ _=>rfl,fun _ _=>rfl,fun _ _ x _ _ _ h=>⟨x,h⟩,fun f=>(by cases f; constructor <;> assumption),fun e he=>by simp at he,SameIo.refl _⟩
  have hW:=wpC_region_held (P:=P) (main:=h == 0) (R:=Aw E.W) (D:=E.D) (fn:=fr.fn) (ops:=ops) (Q:=fun e a' w'=>e=.normal∧a'=aF∧Aw E.W w w') (S:=S) T hd (id:=rid) (a:=a) (w:=w) hm hany
  refine (HG.clo P h F E).goes _ _ (GoesW.of_goes (n:=0+(ops.size+1+1)) ?_)
  refine wpC_goes hW rfl (by rw [hk]; decide) (fun e a' w' ⟨q1,q2,q3⟩=>?_)
  subst q1 q2
  exact Goes.stop (fun w₁ hA=>hg w₁ (Aw.trans _ _ _ q3 hA))
end
section
variable {P:Program} {W:Nat→Bool} {H:Nat→Option Nat} {Sx:Addr→Prop} {Cs:Nat→Prop} {fn:FuncId} {ops:Array Oper} {S:World→Prop} {o:Oper} {v:Value} {a:Act}
theorem yields_pure (hw:Region.wanted o (yielded ops a.tmps)=true) (hr:∀ w,(execOp a.eval o).run P w=.ok (.value v) w) (he:∀ w,(execOp a.eval o).events P w #[]=#[]):YieldsIfC P (DG H W Sx Cs) fn ops S o v a :=
  .inl ⟨hw,fun w _=>⟨hr w,Nat.le_refl _,fun _ _=>rfl,fun _ _=>rfl,fun _ _ x _ _ _ h=>⟨x,h⟩,id,fun e hh=>by
    have:=mem_listed hh
    rw [he w] at this
    simp at this,SameIo.refl _⟩⟩
theorem yields_ld {ad:Addr} (hS:∀ w,S w→w.cell? ad=some v) (hp:W ad.block=false) (hw:Region.wanted o (yielded ops a.tmps)=true)
    (hr:∀ w,w.cell? ad=some v→(execOp a.eval o).run P w=.ok (.value v) w∧∀ e ∈ (execOp a.eval o).events P w #[],e=⟨.cell ad,false,false⟩):YieldsIfC P (DG H W Sx Cs) fn ops S o v a :=
  .inl ⟨hw,fun w hs=>by
    have hc:=hS w hs
    obtain ⟨e1,e2⟩:=hr w hc
    refine ⟨e1,Nat.le_refl _,fun _ _=>rfl,fun _ _=>rfl,fun _ _ x _ _ _ h=>⟨x,h⟩,id,fun e hh=>?_,SameIo.refl _⟩
    rw [e2 e (mem_listed hh)]
    exact evG_plain (lt_of_cell hc) (fun z=>by rw [hp] at z; cases z) (fun z=>by cases z)⟩
end
noncomputable def tyB:Code:=Try.f31.body.getD .skip
noncomputable def tyA:Code:=match tyB with | .seq x _=>x | _=>.skip
noncomputable def tyC:Code:=match tyB with | .seq _ (.seq x _)=>x | _=>.skip
noncomputable def ty3:Code:=match tyB with | .seq _ (.seq _ (.seq x _))=>x | _=>.skip
theorem ty_parts:tyB=.seq tyA (.seq tyC (.seq ty3 .ret)):=by kernel_rfl
noncomputable def xtyA:Code:=tyA
noncomputable def xtyC:Code:=tyC
section
variable {h:Nat} {F:Machine→Trace→Prop} {E:Env} {w:World} {b₀:Frame} {a₀:Act} {ops₀:Array Oper} {i₀:Nat} {rest₀:List Nat} {k₀:List Item} {cl:List Frame}
theorem tally_own {gb rb ct cs:Nat} {en fr:Bool} {s p q:Int} {ty:TypeId} (hG:w.heap[gb]?=some (gateObj rb ct cs en fr s p q ty)) (hW:E.W gb=false)
    (hc:∀ E1 w1,AtE h E w E1 w1→HG Try.prog h F E1 (G (b₀.at (a₀.put ((ops₀[i₀]?).bind (·.dst)) (.tuple #[.int .i64 s,.int .i64 p,.int .i64 q])) (.inRegion ops₀ rest₀ :: k₀)) cl) w1) :
    HGn Try.prog h F E w 100 (entry 31 Try.f31 #[.pointer (some ⟨gb,0,none⟩)] (b₀.at a₀ (.inRegion ops₀ (i₀ :: rest₀) :: k₀) :: cl)):=by
  unfold entry
  rw [show Try.f31.body.getD .skip=.seq xtyA (.seq xtyC (.seq ty3 .ret)) from ty_parts,show Try.f31.ntmps=19 from rfl]
  replace hG:=Lib.hid hG
  replace hc:=Lib.hid hc
  generalize hG3:ty3=L3
  simp only [xtyA,xtyC,tyA,tyC,tyB,Try.f31,Option.getD_some]
  walk_nrm
  refine Idl.q (idl_hg Try.prog h F E w) (Idl.rg (idl_hg Try.prog h F E w) [0,1,2] rfl ?_)
  iterate 3 (apply Idl.value (idl_hg Try.prog h F E w) rfl rfl (by first | decide | exact base_kind _ | exact baseD_kind _ | assumption); (focus (intro w; go_simp; (try w_num); first | done | rfl)); (focus (intro w; simp [go_sem, *])); walk_nrm)
  refine Idl.re (idl_hg Try.prog h F E w) (Idl.q (idl_hg Try.prog h F E w) (Idl.q (idl_hg Try.prog h F E w) (Idl.rg (idl_hg Try.prog h F E w) [0,1] rfl ?_)))
  apply Idl.value (idl_hg Try.prog h F E w) rfl rfl (by first | decide | exact base_kind _ | exact baseD_kind _ | assumption)
  focus (intro w; go_simp; (try w_num); first | done | rfl)
  focus (intro w; simp [go_sem, *])
  walk_nrm
  refine Idl.value (v:=.bool false) (idl_hg Try.prog h F E w) rfl rfl (by k_ne) (fun w=>by kernel_rfl) (fun w=>by kernel_rfl) ?_
  walk_nrm
  refine Idl.re (idl_hg Try.prog h F E w) (Idl.cf (idl_hg Try.prog h F E w) rfl (Idl.sk (idl_hg Try.prog h F E w) (Idl.q (idl_hg Try.prog h F E w) ?_)))
  rw [← hG3]
  simp only [ty3,tyB,Try.f31,Option.getD_some]
  have hSR:∀ x y:World,x.heap[gb]?=some (gateObj rb ct cs en fr s p q ty)→Aw E.W x y→y.heap[gb]?=some (gateObj rb ct cs en fr s p q ty):=fun x y hx hA=>by rw [hA.heap _ hW]; exact hx
  have T:Terms (Aw E.W) E.D:=terms_aw _ _ _ _
  obtain ⟨aF,haF⟩:∃ aF:Act,aF=⟨#[.pointer (some ⟨gb,0,none⟩),undef,.int .i64 s,.int .i64 p,.int .i64 q,.pointer (some ⟨gb,0,none⟩),.bool false,.pointer (some ⟨gb,0,none⟩),.pointer (some ⟨gb,0,none⟩),.pointer (some ⟨gb,5,none⟩),.int .i64 s,.pointer (some ⟨gb,0,none⟩),.pointer (some ⟨gb,0,none⟩),.pointer (some ⟨gb,6,none⟩),.int .i64 p,.pointer (some ⟨gb,0,none⟩),.pointer (some ⟨gb,0,none⟩),.pointer (some ⟨gb,7,none⟩),.int .i64 q],[]⟩:=⟨_,rfl⟩
  refine HG.looks (S:=fun x=>x.heap[gb]?=some (gateObj rb ct cs en fr s p q ty)) (aF:=aF) (by kernel_rfl) (by rfl) (fun w₁ hA=>?_) (fun w' hA=>?_)
  · have hS1:w₁.heap[gb]?=some (gateObj rb ct cs en fr s p q ty):=hSR w w₁ hG.out hA
    have hQR:∀ (a:Act) (x y:World),(Exit.normal=Exit.normal∧a=aF∧Aw E.W w x)→Aw E.W x y→(Exit.normal=Exit.normal∧a=aF∧Aw E.W w y):=fun a x y ⟨q1,q2,q3⟩ hxy=>⟨q1,q2,Aw.trans _ _ _ q3 hxy⟩
    have hA1:=aw_draw hA (w₁.drawn+1)
    replace hA1:=Lib.hid hA1
    replace haF:=Lib.hid haF
    clear hA hG hc
    refine anyCH_take T hSR hQR (i:=0) (v:=.pointer (some ⟨gb,0,none⟩)) rfl (by kernel_rfl) (by kernel_rfl) (by kernel_rfl) (yields_pure (by rfl) (fun w=>by go_simp) (fun w=>by simp [go_sem])) hS1 ?_
    simp only [Act.put,List.setIfInBounds_toArray,List.set_cons_zero,List.set_cons_succ,List.getElem_toArray,List.getElem_cons_succ,List.getElem_cons_zero]
    refine anyCH_take T hSR hQR (i:=1) (v:=.pointer (some ⟨gb,0,none⟩)) rfl (by kernel_rfl) (by kernel_rfl) (by kernel_rfl) (yields_pure (by rfl) (fun w=>by go_simp) (fun w=>by simp [go_sem])) hS1 ?_
    simp only [Act.put,List.setIfInBounds_toArray,List.set_cons_zero,List.set_cons_succ,List.getElem_toArray,List.getElem_cons_succ,List.getElem_cons_zero]
    refine anyCH_take T hSR hQR (i:=2) (v:=.pointer (some ⟨gb,5,none⟩)) rfl (by kernel_rfl) (by kernel_rfl) (by kernel_rfl) (yields_pure (by rfl) (fun w=>by go_simp) (fun w=>by simp [go_sem])) hS1 ?_
    simp only [Act.put,List.setIfInBounds_toArray,List.set_cons_zero,List.set_cons_succ,List.getElem_toArray,List.getElem_cons_succ,List.getElem_cons_zero]
    refine anyCH_take T hSR hQR (i:=3) (v:=.int .i64 s) rfl (by kernel_rfl) (by kernel_rfl) (by kernel_rfl) (yields_ld (ad:=⟨gb,5,none⟩) (fun w hs=>obj_cell (by unfold gateObj at hs; exact hs) rfl) hW (by rfl) (fun w hc=>⟨by go_simp,fun e he=>by (have he':=he; simp [go_sem,hc] at he'; exact he')⟩)) hS1 ?_
    simp only [Act.put,List.setIfInBounds_toArray,List.set_cons_zero,List.set_cons_succ,List.getElem_toArray,List.getElem_cons_succ,List.getElem_cons_zero]
    refine anyCH_take T hSR hQR (i:=4) (v:=.pointer (some ⟨gb,0,none⟩)) rfl (by kernel_rfl) (by kernel_rfl) (by kernel_rfl) (yields_pure (by rfl) (fun w=>by go_simp) (fun w=>by simp [go_sem])) hS1 ?_
    simp only [Act.put,List.setIfInBounds_toArray,List.set_cons_zero,List.set_cons_succ,List.getElem_toArray,List.getElem_cons_succ,List.getElem_cons_zero]
    refine anyCH_take T hSR hQR (i:=5) (v:=.pointer (some ⟨gb,0,none⟩)) rfl (by kernel_rfl) (by kernel_rfl) (by kernel_rfl) (yields_pure (by rfl) (fun w=>by go_simp) (fun w=>by simp [go_sem])) hS1 ?_
    simp only [Act.put,List.setIfInBounds_toArray,List.set_cons_zero,List.set_cons_succ,List.getElem_toArray,List.getElem_cons_succ,List.getElem_cons_zero]
    refine anyCH_take T hSR hQR (i:=6) (v:=.pointer (some ⟨gb,6,none⟩)) rfl (by kernel_rfl) (by kernel_rfl) (by kernel_rfl) (yields_pure (by rfl) (fun w=>by go_simp) (fun w=>by simp [go_sem])) hS1 ?_
    simp only [Act.put,List.setIfInBounds_toArray,List.set_cons_zero,List.set_cons_succ,List.getElem_toArray,List.getElem_cons_succ,List.getElem_cons_zero]
    refine anyCH_take T hSR hQR (i:=7) (v:=.int .i64 p) rfl (by kernel_rfl) (by kernel_rfl) (by kernel_rfl) (yields_ld (ad:=⟨gb,6,none⟩) (fun w hs=>obj_cell (by unfold gateObj at hs; exact hs) rfl) hW (by rfl) (fun w hc=>⟨by go_simp,fun e he=>by (have he':=he; simp [go_sem,hc] at he'; exact he')⟩)) hS1 ?_
    simp only [Act.put,List.setIfInBounds_toArray,List.set_cons_zero,List.set_cons_succ,List.getElem_toArray,List.getElem_cons_succ,List.getElem_cons_zero]
    refine anyCH_take T hSR hQR (i:=8) (v:=.pointer (some ⟨gb,0,none⟩)) rfl (by kernel_rfl) (by kernel_rfl) (by kernel_rfl) (yields_pure (by rfl) (fun w=>by go_simp) (fun w=>by simp [go_sem])) hS1 ?_
    simp only [Act.put,List.setIfInBounds_toArray,List.set_cons_zero,List.set_cons_succ,List.getElem_toArray,List.getElem_cons_succ,List.getElem_cons_zero]
    refine anyCH_take T hSR hQR (i:=9) (v:=.pointer (some ⟨gb,0,none⟩)) rfl (by kernel_rfl) (by kernel_rfl) (by kernel_rfl) (yields_pure (by rfl) (fun w=>by go_simp) (fun w=>by simp [go_sem])) hS1 ?_
    simp only [Act.put,List.setIfInBounds_toArray,List.set_cons_zero,List.set_cons_succ,List.getElem_toArray,List.getElem_cons_succ,List.getElem_cons_zero]
    refine anyCH_take T hSR hQR (i:=10) (v:=.pointer (some ⟨gb,7,none⟩)) rfl (by kernel_rfl) (by kernel_rfl) (by kernel_rfl) (yields_pure (by rfl) (fun w=>by go_simp) (fun w=>by simp [go_sem])) hS1 ?_
    simp only [Act.put,List.setIfInBounds_toArray,List.set_cons_zero,List.set_cons_succ,List.getElem_toArray,List.getElem_cons_succ,List.getElem_cons_zero]
    refine anyCH_take T hSR hQR (i:=11) (v:=.int .i64 q) rfl (by kernel_rfl) (by kernel_rfl) (by kernel_rfl) (yields_ld (ad:=⟨gb,7,none⟩) (fun w hs=>obj_cell (by unfold gateObj at hs; exact hs) rfl) hW (by rfl) (fun w hc=>⟨by go_simp,fun e he=>by (have he':=he; simp [go_sem,hc] at he'; exact he')⟩)) hS1 ?_
    simp only [Act.put,List.setIfInBounds_toArray,List.set_cons_zero,List.set_cons_succ,List.getElem_toArray,List.getElem_cons_succ,List.getElem_cons_zero]
    refine anyCH_take T hSR hQR (i:=12) (v:=.int .i64 s) rfl (by kernel_rfl) (by kernel_rfl) (by kernel_rfl) (yields_pure (by rfl) (fun w=>by go_simp) (fun w=>by simp [go_sem])) hS1 ?_
    simp only [Act.put,List.setIfInBounds_toArray,List.set_cons_zero,List.set_cons_succ,List.getElem_toArray,List.getElem_cons_succ,List.getElem_cons_zero]
    refine anyCH_take T hSR hQR (i:=13) (v:=.int .i64 p) rfl (by kernel_rfl) (by kernel_rfl) (by kernel_rfl) (yields_pure (by rfl) (fun w=>by go_simp) (fun w=>by simp [go_sem])) hS1 ?_
    simp only [Act.put,List.setIfInBounds_toArray,List.set_cons_zero,List.set_cons_succ,List.getElem_toArray,List.getElem_cons_succ,List.getElem_cons_zero]
    refine anyCH_take T hSR hQR (i:=14) (v:=.int .i64 q) rfl (by kernel_rfl) (by kernel_rfl) (by kernel_rfl) (yields_pure (by rfl) (fun w=>by go_simp) (fun w=>by simp [go_sem])) hS1 ?_
    simp only [Act.put,List.setIfInBounds_toArray,List.set_cons_zero,List.set_cons_succ,List.getElem_toArray,List.getElem_cons_succ,List.getElem_cons_zero]
    refine anyCH_done (by kernel_rfl) ⟨rfl,haF.out.symm,hA1.out⟩ _
  · subst haF
    change HGn Try.prog h F E w' 100 _
    refine Idl.step (idl_hg Try.prog h F E w') _ _ _ rfl (fun _=>stepG_ret') ?_
    refine Idl.leaveV (n:=1) (v:=.tuple #[.int .i64 s,.int .i64 p,.int .i64 q]) (fn:=Try.f31) (idl_hg Try.prog h F E w') rfl rfl Try.func31 (fun w=>by simp [results,Try.f31,go_sem]) (fun w=>by simp [results,Try.f31,go_sem]) ?_
    exact hc.out E w' ⟨.refl h E,hA⟩
end
section
variable {σ Λ:Type} {D:Prot σ Λ} {h rb:Nat} {home:Goroutine→Prop} {k:Int} {th:Th} {F:Machine→Trace→Prop} {E:Env} {w:World} {s:σ} {b₀:Frame} {a₀:Act} {ops₀:Array Oper} {i₀:Nat} {rest₀:List Nat} {k₀:List Item} {cl:List Frame} {st po pt:Int}
theorem ga_cell {en fr:Bool} (g:GA w rb th en fr (st,po,pt)):w.cell? ⟨th.gb,0,none⟩=some (.pointer (some ⟨rb,0,none⟩))∧w.cell? ⟨th.gb,5,none⟩=some (.int .i64 st)∧w.cell? ⟨th.gb,6,none⟩=some (.int .i64 po)∧w.cell? ⟨th.gb,7,none⟩=some (.int .i64 pt)∧∀ o,w.frozen? ⟨th.gb,o,none⟩=false:=by
  unfold GA gateObj at g
  exact ⟨obj_cell g rfl,obj_cell g rfl,obj_cell g rfl,obj_cell g rfl,fun o=>obj_thaw g o⟩
theorem begin_own {en fr:Bool} (T:TKn h rb home k th E w) (g:GA w rb th en fr (st,po,pt)) (M:D.M s E w)
    (hc:∀ w',Kept th.j (some th.gb) E w E w'→TKn h rb home k th E w'→GA w' rb th en fr (0,0,0)→D.M s E w'→HG Try.prog th.j F E (G (b₀.at (a₀.put ((ops₀[i₀]?).bind (·.dst)) (.tuple #[])) (.inRegion ops₀ rest₀ :: k₀)) cl) w') :
    HGn Try.prog th.j F E w 100 (entry 34 Try.f34 #[.pointer (some ⟨th.gb,0,none⟩)] (b₀.at a₀ (.inRegion ops₀ (i₀ :: rest₀) :: k₀) :: cl)):=by
  obtain ⟨w1,hw1⟩:∃ w1,w1=w.setCell ⟨th.gb,5,none⟩ (.int .i64 0):=⟨_,rfl⟩
  obtain ⟨w2,hw2⟩:∃ w2,w2=w1.setCell ⟨th.gb,6,none⟩ (.int .i64 0):=⟨_,rfl⟩
  obtain ⟨w3,hw3⟩:∃ w3,w3=w2.setCell ⟨th.gb,7,none⟩ (.int .i64 0):=⟨_,rfl⟩
  have g1:GA w1 rb th en fr (0,po,pt):=by rw [hw1]; exact heap_set (a:=⟨th.gb,5,none⟩) (w:=w) rfl g
  have g2:GA w2 rb th en fr (0,0,pt):=by rw [hw2]; exact heap_set (a:=⟨th.gb,6,none⟩) (w:=w1) rfl g1
  have g3:GA w3 rb th en fr (0,0,0):=by rw [hw3]; exact heap_set (a:=⟨th.gb,7,none⟩) (w:=w2) rfl g2
  have k1:Kept th.j (some th.gb) E w E w1:=by rw [hw1]; exact kept_set T.gW
  have k2:Kept th.j (some th.gb) E w1 E w2:=by rw [hw2]; exact kept_set T.gW
  have k3:Kept th.j (some th.gb) E w2 E w3:=by rw [hw3]; exact kept_set T.gW
  have kk:=(k1.trans k2).trans k3
  have M1:D.M s E w1:=by rw [hw1]; exact Prot.set M T.gH
  have M2:D.M s E w2:=by rw [hw2]; exact Prot.set M1 T.gH
  have M3:D.M s E w3:=by rw [hw3]; exact Prot.set M2 T.gH
  have hc':=hc w3 kk (T.kept kk T.gct) g3 M3
  obtain ⟨_,c5,_,_,z0⟩:=ga_cell g
  obtain ⟨_,_,c6,_,z1⟩:=ga_cell g1
  obtain ⟨_,_,_,c7,z2⟩:=ga_cell g2
  have y0:=z0 5
  have y1:=z1 6
  have y2:=z2 7
  have W:=T.gW
  have V5:=fun i=>T.noSt i 5 (by decide)
  have V6:=fun i=>T.noSt i 6 (by decide)
  have V7:=fun i=>T.noSt i 7 (by decide)
  have hrole:=T.role
  clear hc M1 M2 M3 kk k1 k2 k3 g1 g2 g3 g M T z0 z1 z2
  replace hc':=Lib.hid hc'
  replace hw1:=Lib.hid hw1
  replace hw2:=Lib.hid hw2
  replace hw3:=Lib.hid hw3
  unfold entry
  simp only [Try.f34,Option.getD_some]
  walk_nrm
  refine Idl.q (idl_hg Try.prog th.j F E w) (Idl.rg (idl_hg Try.prog th.j F E w) [0,1] rfl ?_)
  apply Idl.value (idl_hg Try.prog th.j F E w) rfl rfl (by first | decide | exact base_kind _ | exact baseD_kind _ | assumption)
  focus (intro w; go_simp; (try w_num); first | done | rfl)
  focus (intro w; simp [go_sem, *])
  walk_nrm
  refine Idl.value (v:=.bool true) (idl_hg Try.prog th.j F E w) rfl rfl (by k_ne) (fun w=>by kernel_rfl) (fun w=>by kernel_rfl) ?_
  walk_nrm
  refine Idl.re (idl_hg Try.prog th.j F E w) (Idl.ct (idl_hg Try.prog th.j F E w) rfl (Idl.rg (idl_hg Try.prog th.j F E w) [0,1,2,3,4,5,6,7,8,9,10,11] rfl ?_))
  iterate 5 (apply Idl.value (idl_hg Try.prog th.j F E w) rfl rfl (by first | decide | exact base_kind _ | exact baseD_kind _ | assumption); (focus (intro w; go_simp; (try w_num); first | done | rfl)); (focus (intro w; simp [go_sem, *])); walk_nrm)
  refine HGn.st c5 (fun z=>by rw [W] at z; cases z) y0 V5 hrole rfl rfl (by first | decide | exact base_kind _ | exact baseD_kind _ | assumption) rfl (fun w₁ hc₁ hz₁=>⟨by go_simp; first | done | rfl,fun e he=>by (have he':=he; simp [go_sem,ev_st_int,ev_st_bool,ev_st_ptr,ev_st_slice,evSt_at hc₁ hz₁] at he'; exact he')⟩) ?_
  try walk_nrm
  rw [← hw1.out]
  iterate 2 (apply Idl.value (idl_hg Try.prog th.j F E w1) rfl rfl (by first | decide | exact base_kind _ | exact baseD_kind _ | assumption); (focus (intro w; go_simp; (try w_num); first | done | rfl)); (focus (intro w; simp [go_sem, *])); walk_nrm)
  refine HGn.st c6 (fun z=>by rw [W] at z; cases z) y1 V6 hrole rfl rfl (by first | decide | exact base_kind _ | exact baseD_kind _ | assumption) rfl (fun w₁ hc₁ hz₁=>⟨by go_simp; first | done | rfl,fun e he=>by (have he':=he; simp [go_sem,ev_st_int,ev_st_bool,ev_st_ptr,ev_st_slice,evSt_at hc₁ hz₁] at he'; exact he')⟩) ?_
  try walk_nrm
  rw [← hw2.out]
  iterate 2 (apply Idl.value (idl_hg Try.prog th.j F E w2) rfl rfl (by first | decide | exact base_kind _ | exact baseD_kind _ | assumption); (focus (intro w; go_simp; (try w_num); first | done | rfl)); (focus (intro w; simp [go_sem, *])); walk_nrm)
  refine HGn.st c7 (fun z=>by rw [W] at z; cases z) y2 V7 hrole rfl rfl (by first | decide | exact base_kind _ | exact baseD_kind _ | assumption) rfl (fun w₁ hc₁ hz₁=>⟨by go_simp; first | done | rfl,fun e he=>by (have he':=he; simp [go_sem,ev_st_int,ev_st_bool,ev_st_ptr,ev_st_slice,evSt_at hc₁ hz₁] at he'; exact he')⟩) ?_
  try walk_nrm
  rw [← hw3.out]
  refine Idl.re (idl_hg Try.prog th.j F E w3) (Idl.en (idl_hg Try.prog th.j F E w3) ?_)
  refine Idl.leave0 (n:=1) (idl_hg Try.prog th.j F E w3) rfl rfl Try.func34 rfl ?_
  exact hc'.out
theorem poll_own {en fr:Bool} (T:TKn h rb home k th E w) (g:GA w rb th en fr (st,po,pt)) (M:D.M s E w)
    (hc:∀ w',Kept th.j (some th.gb) E w E w'→TKn h rb home k th E w'→GA w' rb th en fr (st,IntKind.i64.wrap (po+1),pt)→D.M s E w'→HG Try.prog th.j F E (G (b₀.at (a₀.put ((ops₀[i₀]?).bind (·.dst)) (.tuple #[])) (.inRegion ops₀ rest₀ :: k₀)) cl) w') :
    HGn Try.prog th.j F E w 100 (entry 35 Try.f35 #[.pointer (some ⟨th.gb,0,none⟩)] (b₀.at a₀ (.inRegion ops₀ (i₀ :: rest₀) :: k₀) :: cl)):=by
  obtain ⟨w1,hw1⟩:∃ w1,w1=w.setCell ⟨th.gb,6,none⟩ (.int .i64 (IntKind.i64.wrap (po+1))):=⟨_,rfl⟩
  have g1:GA w1 rb th en fr (st,IntKind.i64.wrap (po+1),pt):=by rw [hw1]; exact heap_set (a:=⟨th.gb,6,none⟩) (w:=w) rfl g
  have k1:Kept th.j (some th.gb) E w E w1:=by rw [hw1]; exact kept_set T.gW
  have M1:D.M s E w1:=by rw [hw1]; exact Prot.set M T.gH
  have hc':=hc w1 k1 (T.kept k1 T.gct) g1 M1
  obtain ⟨_,_,c6,_,z0⟩:=ga_cell g
  have y0:=z0 6
  have W:=T.gW
  have V6:=fun i=>T.noSt i 6 (by decide)
  have hrole:=T.role
  clear hc M1 k1 g1 g M T z0
  replace hc':=Lib.hid hc'
  replace hw1:=Lib.hid hw1
  unfold entry
  simp only [Try.f35,Option.getD_some]
  walk_nrm
  refine Idl.q (idl_hg Try.prog th.j F E w) (Idl.rg (idl_hg Try.prog th.j F E w) [0,1] rfl ?_)
  apply Idl.value (idl_hg Try.prog th.j F E w) rfl rfl (by first | decide | exact base_kind _ | exact baseD_kind _ | assumption)
  focus (intro w; go_simp; (try w_num); first | done | rfl)
  focus (intro w; simp [go_sem, *])
  walk_nrm
  refine Idl.value (v:=.bool true) (idl_hg Try.prog th.j F E w) rfl rfl (by k_ne) (fun w=>by kernel_rfl) (fun w=>by kernel_rfl) ?_
  walk_nrm
  refine Idl.re (idl_hg Try.prog th.j F E w) (Idl.ct (idl_hg Try.prog th.j F E w) rfl (Idl.rg (idl_hg Try.prog th.j F E w) [0,1,2,3,4,5,6,7] rfl ?_))
  iterate 3 (apply Idl.value (idl_hg Try.prog th.j F E w) rfl rfl (by first | decide | exact base_kind _ | exact baseD_kind _ | assumption); (focus (intro w; go_simp; (try w_num); first | done | rfl)); (focus (intro w; simp [go_sem, *])); walk_nrm)
  refine HGn.ld c6 (fun z=>by rw [W] at z; cases z) rfl rfl (by first | decide | exact base_kind _ | exact baseD_kind _ | assumption) (fun w₁ hc₁=>⟨by go_simp,fun e he=>by (have he':=he; simp [go_sem,hc₁] at he'; exact he')⟩) ?_
  walk_nrm
  iterate 3 (apply Idl.value (idl_hg Try.prog th.j F E w) rfl rfl (by first | decide | exact base_kind _ | exact baseD_kind _ | assumption); (focus (intro w; go_simp; (try w_num); first | done | rfl)); (focus (intro w; simp [go_sem, *])); walk_nrm)
  refine HGn.st c6 (fun z=>by rw [W] at z; cases z) y0 V6 hrole rfl rfl (by first | decide | exact base_kind _ | exact baseD_kind _ | assumption) rfl (fun w₁ hc₁ hz₁=>⟨by go_simp; first | done | rfl,fun e he=>by (have he':=he; simp [go_sem,ev_st_int,ev_st_bool,ev_st_ptr,ev_st_slice,evSt_at hc₁ hz₁] at he'; exact he')⟩) ?_
  try walk_nrm
  rw [← hw1.out]
  refine Idl.re (idl_hg Try.prog th.j F E w1) (Idl.en (idl_hg Try.prog th.j F E w1) ?_)
  refine Idl.leave0 (n:=1) (idl_hg Try.prog th.j F E w1) rfl rfl Try.func35 rfl ?_
  exact hc'.out
theorem point_own {en fr:Bool} (T:TKn h rb home k th E w) (g:GA w rb th en fr (st,po,pt)) (M:D.M s E w)
    (hc:∀ w',Kept th.j (some th.gb) E w E w'→TKn h rb home k th E w'→GA w' rb th en fr (st,po,k)→D.M s E w'→HG Try.prog th.j F E (G (b₀.at (a₀.put ((ops₀[i₀]?).bind (·.dst)) (.tuple #[])) (.inRegion ops₀ rest₀ :: k₀)) cl) w') :
    HGn Try.prog th.j F E w 100 (entry 36 Try.f36 #[.pointer (some ⟨th.gb,0,none⟩)] (b₀.at a₀ (.inRegion ops₀ (i₀ :: rest₀) :: k₀) :: cl)):=by
  obtain ⟨w1,hw1⟩:∃ w1,w1=w.setCell ⟨th.gb,7,none⟩ (.int .i64 k):=⟨_,rfl⟩
  have g1:GA w1 rb th en fr (st,po,k):=by rw [hw1]; exact heap_set (a:=⟨th.gb,7,none⟩) (w:=w) rfl g
  have k1:Kept th.j (some th.gb) E w E w1:=by rw [hw1]; exact kept_set T.gW
  have M1:D.M s E w1:=by rw [hw1]; exact Prot.set M T.gH
  have hc':=hc w1 k1 (T.kept k1 T.gct) g1 M1
  obtain ⟨c0,_,_,c7,z0⟩:=ga_cell g
  have y0:=z0 7
  have W:=T.gW
  have V7:=fun i=>T.noSt i 7 (by decide)
  have hrole:=T.role
  have cp:=T.pick
  have hL:=T.rL
  clear hc M1 k1 g1 g M T z0
  replace hc':=Lib.hid hc'
  replace hw1:=Lib.hid hw1
  unfold entry
  simp only [Try.f36,Option.getD_some]
  walk_nrm
  refine Idl.q (idl_hg Try.prog th.j F E w) (Idl.rg (idl_hg Try.prog th.j F E w) [0,1] rfl ?_)
  apply Idl.value (idl_hg Try.prog th.j F E w) rfl rfl (by first | decide | exact base_kind _ | exact baseD_kind _ | assumption)
  focus (intro w; go_simp; (try w_num); first | done | rfl)
  focus (intro w; simp [go_sem, *])
  walk_nrm
  refine Idl.value (v:=.bool true) (idl_hg Try.prog th.j F E w) rfl rfl (by k_ne) (fun w=>by kernel_rfl) (fun w=>by kernel_rfl) ?_
  walk_nrm
  refine Idl.re (idl_hg Try.prog th.j F E w) (Idl.ct (idl_hg Try.prog th.j F E w) rfl (Idl.rg (idl_hg Try.prog th.j F E w) [0,1,2,3,4,5,6,7,8,9,10] rfl ?_))
  iterate 4 (apply Idl.value (idl_hg Try.prog th.j F E w) rfl rfl (by first | decide | exact base_kind _ | exact baseD_kind _ | assumption); (focus (intro w; go_simp; (try w_num); first | done | rfl)); (focus (intro w; simp [go_sem, *])); walk_nrm)
  refine HGn.ld c0 (fun z=>by rw [W] at z; cases z) rfl rfl (by first | decide | exact base_kind _ | exact baseD_kind _ | assumption) (fun w₁ hc₁=>⟨by go_simp,fun e he=>by (have he':=he; simp [go_sem,hc₁] at he'; exact he')⟩) ?_
  walk_nrm
  iterate 2 (apply Idl.value (idl_hg Try.prog th.j F E w) rfl rfl (by first | decide | exact base_kind _ | exact baseD_kind _ | assumption); (focus (intro w; go_simp; (try w_num); first | done | rfl)); (focus (intro w; simp [go_sem, *])); walk_nrm)
  refine HGn.ld cp (fun _=>⟨rfl,hL⟩) rfl rfl (by first | decide | exact base_kind _ | exact baseD_kind _ | assumption) (fun w₁ hc₁=>⟨by go_simp,fun e he=>by (have he':=he; simp [go_sem,hc₁] at he'; exact he')⟩) ?_
  walk_nrm
  iterate 2 (apply Idl.value (idl_hg Try.prog th.j F E w) rfl rfl (by first | decide | exact base_kind _ | exact baseD_kind _ | assumption); (focus (intro w; go_simp; (try w_num); first | done | rfl)); (focus (intro w; simp [go_sem, *])); walk_nrm)
  refine HGn.st c7 (fun z=>by rw [W] at z; cases z) y0 V7 hrole rfl rfl (by first | decide | exact base_kind _ | exact baseD_kind _ | assumption) rfl (fun w₁ hc₁ hz₁=>⟨by go_simp; first | done | rfl,fun e he=>by (have he':=he; simp [go_sem,ev_st_int,ev_st_bool,ev_st_ptr,ev_st_slice,evSt_at hc₁ hz₁] at he'; exact he')⟩) ?_
  try walk_nrm
  rw [← hw1.out]
  refine Idl.re (idl_hg Try.prog th.j F E w1) (Idl.en (idl_hg Try.prog th.j F E w1) ?_)
  refine Idl.leave0 (n:=1) (idl_hg Try.prog th.j F E w1) rfl rfl Try.func36 rfl ?_
  exact hc'.out
theorem picks_own {en fr:Bool} (T:TKn h rb home k th E w) (g:GA w rb th en fr (st,po,pt))
    (hc:HG Try.prog th.j F E (G (b₀.at (a₀.put ((ops₀[i₀]?).bind (·.dst)) (.int .i64 k)) (.inRegion ops₀ rest₀ :: k₀)) cl) w) :
    HGn Try.prog th.j F E w 100 (entry 37 Try.f37 #[.pointer (some ⟨th.gb,0,none⟩)] (b₀.at a₀ (.inRegion ops₀ (i₀ :: rest₀) :: k₀) :: cl)):=by
  obtain ⟨c0,_,_,_,_⟩:=ga_cell g
  have W:=T.gW
  have cp:=T.pick
  have hL:=T.rL
  clear g T
  replace hc:=Lib.hid hc
  unfold entry
  simp only [Try.f37,Option.getD_some]
  walk_nrm
  refine Idl.q (idl_hg Try.prog th.j F E w) (Idl.rg (idl_hg Try.prog th.j F E w) [0] rfl ?_)
  apply Idl.value (idl_hg Try.prog th.j F E w) rfl rfl (by first | decide | exact base_kind _ | exact baseD_kind _ | assumption)
  focus (intro w; go_simp; (try w_num); first | done | rfl)
  focus (intro w; simp [go_sem, *])
  walk_nrm
  refine Idl.re (idl_hg Try.prog th.j F E w) (Idl.q (idl_hg Try.prog th.j F E w) (Idl.q (idl_hg Try.prog th.j F E w) (Idl.rg (idl_hg Try.prog th.j F E w) [0,1] rfl ?_)))
  apply Idl.value (idl_hg Try.prog th.j F E w) rfl rfl (by first | decide | exact base_kind _ | exact baseD_kind _ | assumption)
  focus (intro w; go_simp; (try w_num); first | done | rfl)
  focus (intro w; simp [go_sem, *])
  walk_nrm
  refine Idl.value (v:=.bool false) (idl_hg Try.prog th.j F E w) rfl rfl (by k_ne) (fun w=>by kernel_rfl) (fun w=>by kernel_rfl) ?_
  walk_nrm
  refine Idl.re (idl_hg Try.prog th.j F E w) (Idl.cf (idl_hg Try.prog th.j F E w) rfl (Idl.sk (idl_hg Try.prog th.j F E w) (Idl.q (idl_hg Try.prog th.j F E w) (Idl.rg (idl_hg Try.prog th.j F E w) [0,1,2,3,4,5,6,7] rfl ?_))))
  iterate 3 (apply Idl.value (idl_hg Try.prog th.j F E w) rfl rfl (by first | decide | exact base_kind _ | exact baseD_kind _ | assumption); (focus (intro w; go_simp; (try w_num); first | done | rfl)); (focus (intro w; simp [go_sem, *])); walk_nrm)
  refine HGn.ld c0 (fun z=>by rw [W] at z; cases z) rfl rfl (by first | decide | exact base_kind _ | exact baseD_kind _ | assumption) (fun w₁ hc₁=>⟨by go_simp,fun e he=>by (have he':=he; simp [go_sem,hc₁] at he'; exact he')⟩) ?_
  walk_nrm
  iterate 2 (apply Idl.value (idl_hg Try.prog th.j F E w) rfl rfl (by first | decide | exact base_kind _ | exact baseD_kind _ | assumption); (focus (intro w; go_simp; (try w_num); first | done | rfl)); (focus (intro w; simp [go_sem, *])); walk_nrm)
  refine HGn.ld cp (fun _=>⟨rfl,hL⟩) rfl rfl (by first | decide | exact base_kind _ | exact baseD_kind _ | assumption) (fun w₁ hc₁=>⟨by go_simp,fun e he=>by (have he':=he; simp [go_sem,hc₁] at he'; exact he')⟩) ?_
  walk_nrm
  apply Idl.value (idl_hg Try.prog th.j F E w) rfl rfl (by first | decide | exact base_kind _ | exact baseD_kind _ | assumption)
  focus (intro w; go_simp; (try w_num); first | done | rfl)
  focus (intro w; simp [go_sem, *])
  walk_nrm
  refine Idl.re (idl_hg Try.prog th.j F E w) (Idl.rt (idl_hg Try.prog th.j F E w) ?_)
  refine Idl.leaveV (n:=1) (v:=.int .i64 k) (fn:=Try.f37) (idl_hg Try.prog th.j F E w) rfl rfl Try.func37 (fun w=>by simp [results,Try.f37,go_sem]) (fun w=>by simp [results,Try.f37,go_sem]) ?_
  exact hc.out
theorem tally_th {en fr:Bool} (T:TKn h rb home k th E w) (g:GA w rb th en fr (st,po,pt)) (M:D.M s E w)
    (hc:∀ E' w',Kept th.j (some th.gb) E w E' w'→TKn h rb home k th E' w'→GA w' rb th en fr (st,po,pt)→D.M s E' w'→HG Try.prog th.j F E' (G (b₀.at (a₀.put ((ops₀[i₀]?).bind (·.dst)) (.tuple #[.int .i64 st,.int .i64 po,.int .i64 pt])) (.inRegion ops₀ rest₀ :: k₀)) cl) w') :
    HGn Try.prog th.j F E w 100 (entry 31 Try.f31 #[.pointer (some ⟨th.gb,0,none⟩)] (b₀.at a₀ (.inRegion ops₀ (i₀ :: rest₀) :: k₀) :: cl)):=by
  refine HG.withH fun hWH _=>?_
  refine tally_own (by unfold GA at g; exact g) T.gW (fun E1 w1 hA=>?_)
  have kk:Kept th.j (some th.gb) E w E1 w1:=Kept.of_at hA
  exact hc E1 w1 kk (T.kept kk T.gct) (GA.at g T.gW hA) (Prot.at M hWH hA)
end
end Go.Proofs.Ytimlbbleblijnaa.Co
