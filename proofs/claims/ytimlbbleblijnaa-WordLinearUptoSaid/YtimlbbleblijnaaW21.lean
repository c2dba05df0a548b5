/- Lemmas for the laws of this seat, laid together of PJd, PJe, PJf. -/
import Derived.Test.YtimlbbleblijnaaW20
import Derived.Maps.OwnOps

open Go.ConcR.Gen (base_kind baseD_kind)
set_option linter.unusedVariables false
set_option linter.unusedSimpArgs false
set_option maxRecDepth 100000
set_option maxHeartbeats 4000000
namespace Go.Proofs.Ytimlbbleblijnaa.Co
open Go Go.Conc Go.RowKit
open Go.Maps (Keyed)
open Go.ConcN (sumTo upd sumTo_upd upd_ne upd_same sumTo_congr le_sumTo)
structure RegsV (T:Array Value) (gb:Nat) (p:PT) (mb db ab nb i c:Nat):Prop where
  sz:T.size=56
  t0:T[0]?=some (.pointer (some ⟨gb,0,none⟩))
  t2:T[2]?=some (.pointer (some ⟨db,0,none⟩))
  t3:T[3]?=some (.pointer (some ⟨ab,0,none⟩))
  t4:T[4]?=some (.pointer (some ⟨nb,0,none⟩))
  t5:T[5]?=some (.pointer (some ⟨mb,0,none⟩))
  t6:T[6]?=some (.pointer (some ⟨p.tb,0,none⟩))
  t8:T[8]?=some (.int .i64 (c:Int))
  t14:T[14]?=some (.slice (some ⟨p.la,p.lo,none⟩) p.ops.length p.cap)∨p.ops=[]
  t15:T[15]?=some (.int .i64 (p.ops.length:Int))
  t16:T[16]?=some (.int .i64 (i:Int))
structure WTok (K:Nat→Obj→Prop) (L:List PT) (t:Nat) (p:PT) (mb wb n db ab nb mpb:Nat):Prop where
  P:PTok K L t p
  kd:KC K ⟨db,0,none⟩ (.map (some mpb))
  km:∃ o,K mpb o∧∀ w:World,w.heap[mpb]?=some o→w.ownsMap Try.prog 3 RV mpb 4 DW
  ka:KC K ⟨ab,0,none⟩ (.slice (some ⟨wb,0,none⟩) n n)
  kn:KC K ⟨nb,0,none⟩ (.int .i64 (n:Int))
  ne:∀ b o,K b o→b≠wb
  n1:1≤n
  n2:n≤1048576
  rng:∀ (i:Nat) (op:Op3),p.ops[i]?=some op→I64 op.1∧I64 op.2.1∧I64 op.2.2
theorem RegsV.up {T T':Array Value} {gb mb db ab nb i c:Nat} {p:PT} (R:RegsV T gb p mb db ab nb i c) (hs:T'.size=56) (h:∀ j,j < 17→T'[j]?=T[j]?∨(j≠0∧j≠2∧j≠3∧j≠4∧j≠5∧j≠6∧j≠8∧j≠14∧j≠15∧j≠16)):RegsV T' gb p mb db ab nb i c:=by
  have key:∀ j,j < 17→(j=0∨j=2∨j=3∨j=4∨j=5∨j=6∨j=8∨j=14∨j=15∨j=16)→T'[j]?=T[j]?:=fun j h1 h2=>(h j h1).resolve_right (fun z=>by omega)
  exact ⟨hs,(key 0 (by decide) (by decide)).trans R.t0,(key 2 (by decide) (by decide)).trans R.t2,(key 3 (by decide) (by decide)).trans R.t3,(key 4 (by decide) (by decide)).trans R.t4,(key 5 (by decide) (by decide)).trans R.t5,(key 6 (by decide) (by decide)).trans R.t6,(key 8 (by decide) (by decide)).trans R.t8,R.t14.imp (fun z=>(key 14 (by decide) (by decide)).trans z) id,(key 15 (by decide) (by decide)).trans R.t15,(key 16 (by decide) (by decide)).trans R.t16⟩
theorem wrap_nat (c:Nat) (h:c≤1000000000000):IntKind.i64.wrap ((c:Int)+1)=((c+1:Nat):Int):=by rw [IntKind.wrap_i64]; omega
noncomputable def hdV7:List Item:=[.code vR7,.code vR8,.inBlock 1,.code vR9,.inLoop vL,.inBlock 0]
noncomputable def hdV8:List Item:=[.code vR8,.inBlock 1,.code vR9,.inLoop vL,.inBlock 0]
noncomputable def hdV5:List Item:=[.code (.seq vR5 (.seq vR6 (.seq vR7 vR8))),.inBlock 1,.code vR9,.inLoop vL,.inBlock 0]
noncomputable def hdV6:List Item:=[.code vR6,.code (.seq vR7 vR8),.inBlock 1,.code vR9,.inLoop vL,.inBlock 0]
noncomputable def xvR2:Code:=vR2
noncomputable def xvIf:Code:=vIf
noncomputable def xvR5:Code:=vR5
noncomputable def xvR8:Code:=vR8
noncomputable def xvR9:Code:=vR9
section
variable {h rb mb wb n db ab nb mpb t i c:Nat} {home:Goroutine→Prop} {k nn:Int} {th:Th} {F:Machine→Trace→Prop} {E:Env} {w:World} {s:WS} {K:Nat→Obj→Prop} {L:List PT} {p:PT} {Tr:Array Value} {c0:Frame} {cl:List Frame}
theorem WordM.still {j:Nat} {E':Env} {w':World} (m:WordM mb wb n K L s E w) (S:Still j E w E' w'):WordM mb wb n K L s E' w' :=
  (wordD mb wb n K L).closed _ _ _ _ _ m fun b hb hn=>by
    obtain ⟨s1,s2⟩:=S.st b _ hn (Array.getElem?_eq_getElem hb)
    exact ⟨s1,by rw [s2,Array.getElem?_eq_getElem hb]⟩
theorem word_round {T:Array Value} (R:RegsV T th.gb p mb db ab nb i c) (hi:i≤1000000000000) (hci:c≤i)
    (hc:∀ T',RegsV T' th.gb p mb db ab nb (i+1) (c+1)→HG Try.prog th.j F E (G ((base 81).at ⟨T',[]⟩ hdV) (c0 :: cl)) w) :
    HGn Try.prog th.j F E w 100 (G ((base 81).at ⟨T,[]⟩ hdV8) (c0 :: cl)):=by
  have w1:=wrap_nat c (by omega)
  have w2:=wrap_nat i hi
  obtain ⟨f,hf,fz⟩:=arrfv T R.sz
  have hT:=R
  have e8:=fz 8 _ R.t8
  have e16:=fz 16 _ R.t16
  have hc':∀ T',T'.size=56→(∀ j,j < 17→T'[j]?=T[j]?∨j=8∨j=16∨j=13)→T'[8]?=some (.int .i64 ((c+1:Nat):Int))→T'[16]?=some (.int .i64 ((i+1:Nat):Int))→HG Try.prog th.j F E (G ((base 81).at ⟨T',[]⟩ hdV) (c0 :: cl)) w:=fun T' a1 a2 a3 a4=>by
    have key:∀ j,j < 17→(j=0∨j=2∨j=3∨j=4∨j=5∨j=6∨j=14∨j=15)→T'[j]?=T[j]?:=fun j h1 h2=>(a2 j h1).resolve_right (fun z=>by omega)
    exact hc T' ⟨a1,(key 0 (by decide) (by decide)).trans R.t0,(key 2 (by decide) (by decide)).trans R.t2,(key 3 (by decide) (by decide)).trans R.t3,(key 4 (by decide) (by decide)).trans R.t4,(key 5 (by decide) (by decide)).trans R.t5,(key 6 (by decide) (by decide)).trans R.t6,a3,R.t14.imp (fun z=>(key 14 (by decide) (by decide)).trans z) id,(key 15 (by decide) (by decide)).trans R.t15,a4⟩
  clear hc hT R fz
  subst hf
  replace hc':=Lib.hid hc'
  unfold hdV8
  unfold hdV at hc'
  rw [show vR8=xvR8 from rfl,show vR9=xvR9 from rfl]
  generalize hGL:vL=LL at hc' ⊢
  simp only [xvR8,xvR9,vR8,vR9,vIn,vL,vB,Try.f81,Option.getD_some,List.range,List.range.loop,List.map_cons,List.map_nil,e8,e16]
  refine Idl.rg (idl_hg Try.prog th.j F E w) [0,1,2] rfl ?_
  iterate 3 (apply Idl.value (idl_hg Try.prog th.j F E w) rfl rfl (by first | decide | exact base_kind _ | exact baseD_kind _ | assumption); (focus (intro w; go_simp; (try w_num); first | done | rfl)); (focus (intro w; simp [go_sem, *])); walk_nrm)
  refine Idl.re (idl_hg Try.prog th.j F E w) (Idl.ib (idl_hg Try.prog th.j F E w) (Idl.rg (idl_hg Try.prog th.j F E w) [0,1] rfl ?_))
  iterate 2 (apply Idl.value (idl_hg Try.prog th.j F E w) rfl rfl (by first | decide | exact base_kind _ | exact baseD_kind _ | assumption); (focus (intro w; go_simp; (try w_num); first | done | rfl)); (focus (intro w; simp [go_sem, *])); walk_nrm)
  refine Idl.re (idl_hg Try.prog th.j F E w) (Idl.il (idl_hg Try.prog th.j F E w) ?_)
  try simp only [w1,w2]
  refine hc'.out _ (by simp) (fun j hj=>?_) (by simp) (by simp)
  match j,hj with
  | 0,_ | 1,_ | 2,_ | 3,_ | 4,_ | 5,_ | 6,_ | 7,_ | 9,_ | 10,_ | 11,_ | 12,_ | 13,_ | 14,_ | 15,_=>exact .inl (by simp)
  | 8,_=>exact .inr (.inl rfl)
  | 16,_=>exact .inr (.inr (.inl rfl))
  | q+17,hq=>exact absurd hq (by omega)
theorem word_mark {en fr:Bool} {tl:Int × Int × Int} (W:WTok K L t p mb wb n db ab nb mpb) (hbound:sumTo L.length (opLen L)≤1000000000000) (TK:TKn h rb home k th E w) (g:GA w rb th en fr tl) (m:WordM mb wb n K L s E w) (hcn:s.cnt t=c) (hil:i < p.ops.length) (hci:c≤i) (R:RegsV Tr th.gb p mb db ab nb i c) (t13:Tr[13]?=some (.int .i64 nn))
    (hc:∀ E1 w' T',Kept th.j (some th.gb) E w E1 w'→TKn h rb home k th E1 w'→GA w' rb th en fr tl→WordM mb wb n K L ⟨s.ms ++ [((t:Int),k,(c:Int),nn)],upd s.cnt t (c+1),s.vs⟩ E1 w'→RegsV T' th.gb p mb db ab nb (i+1) (c+1)→HG Try.prog th.j F E1 (G ((base 81).at ⟨T',[]⟩ hdV) (c0 :: cl)) w') :
    HG Try.prog th.j F E (G ((base 81).at ⟨Tr,[]⟩ hdV7) (c0 :: cl)) w:=by
  refine HG.withH fun hWH _=>?_
  have hK3:=W.P.kt
  have hlen:=W.P.len
  have hop:c < opLen L t∧t < L.length:=by
    refine ⟨?_,(List.getElem?_eq_some_iff.1 W.P.pt).1⟩
    rw [W.P.ln]; omega
  unfold hdV7
  refine HG.quietF closed_picks (Q:=fun a' w' E1 w1=>a'.tmps.size=56∧(∀ j,j < 44→a'.tmps[j]?=Tr[j]?)∧∃ mv x x',w1.heap[mb]?=some (.cells #[mv] 27)∧World.heap x=(vw E1.H w1).heap∧World.heap x'=(vw E1.H w').heap∧Fit E1.H E1.W w1∧Marked (mb+1) mb mv (mksV s.ms ++ mkV ((t:Int),k,(c:Int),nn)) (s.ms.length+1) x x') (by kernel_rfl) rfl rfl (fun E1 w1 hA hf τ=>?_) (fun E1 w1 hA a' w' h1 h2 h3 hq=>?_)
  · have T1:=TK.kept (Kept.of_at hA) TK.gct
    have M1:WordM mb wb n K L s E1 w1:=Prot.at (D:=wordD mb wb n K L) m hWH hA
    have m1:=M1.m
    obtain ⟨mv,r1,r2,r3⟩:=m1.row
    have g1:=GA.at g TK.gW hA
    have hWH1:∀ b,E1.W b=true→E1.H b=some 1:=hf.sub
    have hrH:E1.H rb=some 1:=hWH1 rb T1.rW
    obtain ⟨st,sm,xv,e0,hrl⟩:=T1.rL
    have hxv:=runObj_first hrl T1.pick
    obtain ⟨f,rfl⟩:=arrf Tr R.sz
    have q0:=R.t0
    have q5:=R.t5
    have q6:=R.t6
    have q8:=R.t8
    simp only [arrf_get f (show 0 < 56 by decide),arrf_get f (show 5 < 56 by decide),arrf_get f (show 6 < 56 by decide),arrf_get f (show 8 < 56 by decide),arrf_get f (show 13 < 56 by decide),Option.some.injEq] at q0 q5 q6 q8 t13
    obtain ⟨k1,k2,k3⟩:=M1.konst _ _ hK3
    have hxs:(rt (vw E1.H w1) τ 0).heap.size=w1.heap.size:=by simp
    have hsome:∀ {c x:Nat},mv.ownBlock=some c→E1.H c=some x→False:=fun {c x} e1 e2=>by rw [(r3 c e1).1] at e2; cases e2
    have hcb:mb < w1.heap.size:=(Array.getElem?_eq_some_iff.1 r1).1
    refine vmark_wp (gb:=th.gb) (rb:=rb) (mb:=mb) (tb:=p.tb) (B:=mb+1) (n:=s.ms.length) (k:=k) (nn:=nn) (t:=(t:Int)) (i:=(c:Int)) (mv:=mv) (xs:=mksV s.ms) q0 q5 q6 q8 t13 ?_ ?_ ?_ ?_ ?_ (fun e=>hsome e T1.gH) (fun e=>hsome e hrH) (fun e=>?_) (fun e=>?_) (fun e=>?_) (fun e=>?_) k3 ?_ (by rw [hxs]; exact hcb) (fun T' x' hs hj hM=>?_)
    · exact vw_first T1.gH (by unfold GA gateObj at g1; exact g1) rfl
    · exact vw_first hrH (by unfold runObj at hrl; exact hrl) (by rw [← hxv]; rfl)
    · show (vw E1.H w1).heap[mb]?=_
      rw [vw_get_none m1.mbH]; exact r1
    · rw [vw_cellN k2]; exact k1
    · exact ownsRow_same r2 (fun g' hg'=>by
        show (vw E1.H w1).heap[g']?=_
        rw [vw_get_none (r3 g' hg').1])
    · exact absurd (r2.lt mb e).1 (by omega)
    · obtain ⟨o3',k3',_⟩:=hK3
      exact (r3 _ e).2.2 _ _ (.inl k3') rfl
    · have:=m1.mbH; rw [← e,T1.gH] at this; cases this
    · have:=m1.mbH; rw [← e,hrH] at this; cases this
    · have h2:=m1.len
      have h3:=sumTo_le L.length m1.cnt
      dsimp only at h2 h3
      omega
    · refine ⟨rfl,rfl,fun w' τ' d he hF hf'=>⟨hs,fun j hj'=>?_,mv,rt (vw E1.H w1) τ 0,x',r1,rfl,by rw [he]; rfl,hf,hM⟩⟩
      rw [hj j hj',arrf_get f (by omega)]
  · obtain ⟨hs,hj,mv,x,x',hmv,hx,hx',hf,hM⟩:=hq
    have M1:WordM mb wb n K L s E1 w1:=Prot.at (D:=wordD mb wb n K L) m hWH hA
    obtain ⟨m2,hk⟩:=playM_mark M1.m h2 hf hx hx' hmv hcn hop hM
    have T1:=TK.kept (Kept.of_at hA) TK.gct
    have g1:=GA.at g TK.gW hA
    have hk2:=(hk (j:=th.j) (gb:=some th.gb)).1
    have g2:GA w' rb th en fr tl:=by
      unfold GA at g1 ⊢
      rw [(hk (j:=0) (gb:=none)).2 th.gb T1.gH T1.gW T1.gL]; exact g1
    have T2:=T1.kept hk2 T1.gct
    obtain ⟨Ta,df⟩:=a'
    have hd:df=[]:=h1
    subst hd
    dsimp only at hs hj
    have R2:RegsV Ta th.gb p mb db ab nb i c:=R.up hs (fun j h1=>.inl (hj j (by omega)))
    refine word_round R2 (by omega) hci (fun T' R'=>?_)
    exact hc E1 w' T' ((Kept.of_at hA).trans hk2) T2 g2 ⟨m2,M1.rng⟩ R'
end
theorem zero122 (w:World):(zeroValue 122).run Try.prog w=.ok .nilFunc w:=by kernel_rfl
def lookV (k:Int):Value:=if isC k then fvV (fnOf k) else .nilFunc
theorem RV_look {y:Value} {ps:List MemPlace} {k:Int} (h:RV y=some (DW.atKey (.int .i64 k) (.held .nilFunc),ps)):y=lookV k:=by
  have:=RV_inv h
  rw [DW_at] at this
  unfold lookV
  cases hc:isC k with
  | true=>rw [hc] at this; simp only [if_true,DataW.held.injEq] at this ⊢; exact this.symm
  | false=>rw [hc] at this; simp only [Bool.false_eq_true,if_false,DataW.held.injEq] at this ⊢; exact this.symm
theorem vr3_wp {T:Array Value} {x:World} {la lo N cap i:Nat} {kd at' nn:Int} {Q:Exit→Act→World→Prop} (hs:T.size=56)
    (h14:T[14]?=some (.slice (some ⟨la,lo,none⟩) N cap)) (h16:T[16]?=some (.int .i64 (i:Int))) (hi:i < N)
    (c1:x.cell? ⟨la,lo+i * 3,none⟩=some (.int .i64 kd)) (c2:x.cell? ⟨la,lo+i * 3+1,none⟩=some (.int .i64 at')) (c3:x.cell? ⟨la,lo+i * 3+2,none⟩=some (.int .i64 nn))
    (hQ:∀ T' x',T'.size=56→(∀ j,j < 17→j≠10→T'[j]?=T[j]?)→T'[10]?=some (.pointer (some ⟨x.heap.size,0,none⟩))→x'.heap=x.heap.push (.cells #[.int .i64 kd,.int .i64 at',.int .i64 nn] 34)→Q .normal ⟨T',[]⟩ x') :
    vR3.wp Try.prog Q ⟨T,[]⟩ x:=by
  have q1:(0:Int)≤(i:Int):=by omega
  have q2:(i:Int) < (N:Int):=by omega
  have w1:=World.new_ne x _ c1
  have w2:=World.new_ne x _ c2
  have w3:=World.new_ne x _ c3
  obtain ⟨f,hf,fz⟩:=arrfv T hs
  have e14:=fz 14 _ h14
  have e16:=fz 16 _ h16
  clear fz
  subst hf
  have hQ':∀ T' x',T'.size=56→(∀ j,j < 17→j≠10→T'[j]?=some (f j))→T'[10]?=some (.pointer (some ⟨x.heap.size,0,none⟩))→x'.heap=x.heap.push (.cells #[.int .i64 kd,.int .i64 at',.int .i64 nn] 34)→Q .normal ⟨T',[]⟩ x':=fun T' x' a1 a2 a3 a4=>hQ T' x' a1 (fun j h1 h2=>by rw [a2 j h1 h2,arrf_get f (by omega)]) a3 a4
  clear hQ h14 h16 hs
  simp only [List.range,List.range.loop,List.map_cons,List.map_nil,e14,e16]
  simp only [vR3,vIn,vL,vB,Try.f81,Option.getD_some]
  go_wp2
  refine hQ' _ _ (by simp) (fun j hj h10=>?_) (by simp) rfl
  match j,hj,h10 with
  | 10,_,h=>exact absurd rfl h
  | 0,_,_ | 1,_,_ | 2,_,_ | 3,_,_ | 4,_,_ | 5,_,_ | 6,_,_ | 7,_,_ | 8,_,_ | 9,_,_ | 11,_,_ | 12,_,_ | 13,_,_ | 14,_,_ | 15,_,_ | 16,_,_=>simp [e14,e16]
  | q+17,hq,_=>exact absurd hq (by omega)
theorem vr4_wp {T:Array Value} {x:World} {db bb mpb:Nat} {kd:Int} {Q:Exit→Act→World→Prop} (hs:T.size=56)
    (h2:T[2]?=some (.pointer (some ⟨db,0,none⟩))) (h10:T[10]?=some (.pointer (some ⟨bb,0,none⟩)))
    (c1:x.cell? ⟨db,0,none⟩=some (.map (some mpb))) (c2:x.cell? ⟨bb,0,none⟩=some (.int .i64 kd)) (hk:I64 kd) (hown:x.ownsMap Try.prog 3 RV mpb 4 DW)
    (hQ:∀ T',T'.size=56→(∀ j,j < 17→j≠11→j≠12→T'[j]?=T[j]?)→T'[11]?=some (lookV kd)→T'[12]?=some (.bool (isC kd))→Q .normal ⟨T',[]⟩ x) :
    vR4.wp Try.prog Q ⟨T,[]⟩ x:=by
  obtain ⟨f,hf,fz⟩:=arrfv T hs
  have e2:=fz 2 _ h2
  have e10:=fz 10 _ h10
  clear fz
  subst hf
  have hQ':∀ T',T'.size=56→(∀ j,j < 17→j≠11→j≠12→T'[j]?=some (f j))→T'[11]?=some (lookV kd)→T'[12]?=some (.bool (Maps.has DW (.int .i64 kd)))→Q .normal ⟨T',[]⟩ x:=fun T' a1 a2 a3 a4=>hQ T' a1 (fun j h1 h2 h3=>by rw [a2 j h1 h2 h3,arrf_get f (by omega)]) a3 (by rw [← DW_has]; exact a4)
  clear hQ h2 h10 hs
  simp only [List.range,List.range.loop,List.map_cons,List.map_nil,e2,e10]
  simp only [vR4,vIn,vL,vB,Try.f81,Option.getD_some]
  go_wp2_with (at_lookup; refine wpList_lookup_own_ok _ rfl _ _ 120 rfl 3 122 law3 Try.underlying120 RV (zero122 _) (.held .nilFunc) [] rfl mpb 4 DW rfl hown _ (.int .i64 kd) rfl (key3 hk) ?_; intro y ps hy; obtain rfl:=RV_look hy; clear hy; generalize Maps.has DW (.int .i64 kd)=hb at hQ' ⊢)
  refine hQ' _ (by simp) (fun j hj h11 h12=>?_) (by simp) (by simp)
  match j,hj,h11,h12 with
  | 11,_,h,_=>exact absurd rfl h
  | 12,_,_,h=>exact absurd rfl h
  | 0,_,_,_ | 1,_,_,_ | 2,_,_,_ | 3,_,_,_ | 4,_,_,_ | 5,_,_,_ | 6,_,_,_ | 7,_,_,_ | 8,_,_,_ | 9,_,_,_ | 10,_,_,_ | 13,_,_,_ | 14,_,_,_ | 15,_,_,_ | 16,_,_,_=>simp [e2,e10]
  | q+17,hq,_,_=>exact absurd hq (by omega)
noncomputable def hdVI:List Item:=[.code vIn,.inBlock 1,.code vR9,.inLoop vL,.inBlock 0]
section
variable {h rb mb wb n db ab nb mpb t i c:Nat} {home:Goroutine→Prop} {k nn:Int} {th:Th} {F:Machine→Trace→Prop} {E:Env} {w:World} {s:WS} {K:Nat→Obj→Prop} {L:List PT} {p:PT} {Tr:Array Value} {cs:List Frame}
variable {b₀:Frame} {a₀:Act} {ops₀:Array Oper} {i₀:Nat} {rest₀:List Nat} {k₀:List Item} {cl:List Frame}
theorem hdV_parts:hdV=[.code (.seq xvR2 (.seq xvIf (.seq (.block 1 vIn) vR9))),.inLoop vL,.inBlock 0]:=congrArg (fun z=>[Item.code z,.inLoop vL,.inBlock 0]) vL_parts
theorem word_exit (R:RegsV Tr th.gb p mb db ab nb i c) (hlen:p.ops.length=i) (hc:HG Try.prog th.j F E (G (b₀.at (a₀.put ((ops₀[i₀]?).bind (·.dst)) (.tuple #[])) (.inRegion ops₀ rest₀ :: k₀)) cl) w) :
    HGn Try.prog th.j F E w 100 (G ((base 81).at ⟨Tr,[]⟩ hdV) (b₀.at a₀ (.inRegion ops₀ (i₀ :: rest₀) :: k₀) :: cl)):=by
  obtain ⟨f,hf,fz⟩:=arrfv Tr R.sz
  have e15:=fz 15 _ R.t15
  have e16:=fz 16 _ R.t16
  rw [hlen] at e15
  clear fz
  subst hf
  have hdec:decide ((i:Int) < (i:Int))=false:=decide_eq_false (by omega)
  clear R
  rw [hdV_parts]
  generalize hG1:vIn=L1
  generalize hG2:vR9=L2
  generalize hGL:vL=LL
  simp only [xvR2,xvIf,vR2,vIf,vL,vB,Try.f81,Option.getD_some,List.range,List.range.loop,List.map_cons,List.map_nil,e15,e16]
  refine Idl.q (idl_hg Try.prog th.j F E w) (Idl.rg (idl_hg Try.prog th.j F E w) [0] rfl ?_)
  apply Idl.value (idl_hg Try.prog th.j F E w) rfl rfl (by first | decide | exact base_kind _ | exact baseD_kind _ | assumption)
  focus (intro w; go_simp; (try w_num); first | done | rfl)
  focus (intro w; simp [go_sem, *])
  walk_nrm
  refine Idl.re (idl_hg Try.prog th.j F E w) (Idl.q (idl_hg Try.prog th.j F E w) (Idl.cf (idl_hg Try.prog th.j F E w) rfl (Idl.exit (idl_hg Try.prog th.j F E w) rfl (Idl.en (idl_hg Try.prog th.j F E w) ?_))))
  refine Idl.leave0 (n:=1) (idl_hg Try.prog th.j F E w) rfl rfl Try.func81 rfl ?_
  exact hc
theorem word_head (R:RegsV Tr th.gb p mb db ab nb i c) (hlt:i < p.ops.length) (hc:∀ T',RegsV T' th.gb p mb db ab nb i c→HG Try.prog th.j F E (G ((base 81).at ⟨T',[]⟩ hdVI) cs) w) :
    HGn Try.prog th.j F E w 100 (G ((base 81).at ⟨Tr,[]⟩ hdV) cs):=by
  obtain ⟨f,hf,fz⟩:=arrfv Tr R.sz
  have e15:=fz 15 _ R.t15
  have e16:=fz 16 _ R.t16
  clear fz
  have hc':∀ T',T'.size=56→(∀ j,j < 17→T'[j]?=some (f j))→HG Try.prog th.j F E (G ((base 81).at ⟨T',[]⟩ hdVI) cs) w:=fun T' a1 a2=>hc T' (R.up a1 (fun j hj=>.inl (by rw [a2 j hj,hf,arrf_get f (by omega)])))
  clear hc R
  subst hf
  have hdec:decide ((i:Int) < (p.ops.length:Int))=true:=decide_eq_true (by omega)
  replace hc':=Lib.hid hc'
  rw [hdV_parts]
  unfold hdVI at hc'
  generalize hG1:vIn=L1 at hc' ⊢
  generalize hG2:vR9=L2 at hc' ⊢
  generalize hGL:vL=LL at hc' ⊢
  simp only [xvR2,xvIf,vR2,vIf,vL,vB,Try.f81,Option.getD_some,List.range,List.range.loop,List.map_cons,List.map_nil,e15,e16]
  refine Idl.q (idl_hg Try.prog th.j F E w) (Idl.rg (idl_hg Try.prog th.j F E w) [0] rfl ?_)
  apply Idl.value (idl_hg Try.prog th.j F E w) rfl rfl (by first | decide | exact base_kind _ | exact baseD_kind _ | assumption)
  focus (intro w; go_simp; (try w_num); first | done | rfl)
  focus (intro w; simp [go_sem, *])
  walk_nrm
  refine Idl.re (idl_hg Try.prog th.j F E w) (Idl.q (idl_hg Try.prog th.j F E w) (Idl.ct (idl_hg Try.prog th.j F E w) rfl (Idl.sk (idl_hg Try.prog th.j F E w) (Idl.q (idl_hg Try.prog th.j F E w) (Idl.bl (idl_hg Try.prog th.j F E w) ?_)))))
  refine hc'.out _ (by simp) (fun j hj=>?_)
  match j,hj with
  | 0,_ | 1,_ | 2,_ | 3,_ | 4,_ | 5,_ | 6,_ | 7,_ | 8,_ | 9,_ | 10,_ | 11,_ | 12,_ | 13,_ | 14,_ | 15,_ | 16,_=>simp [e15,e16]
  | q+17,hq=>exact absurd hq (by omega)
theorem word_skip (R:RegsV Tr th.gb p mb db ab nb i c) (hi:i≤1000000000000) (t12:Tr[12]?=some (.bool false)) (hc:∀ T',RegsV T' th.gb p mb db ab nb (i+1) c→HG Try.prog th.j F E (G ((base 81).at ⟨T',[]⟩ hdV) cs) w) :
    HGn Try.prog th.j F E w 100 (G ((base 81).at ⟨Tr,[]⟩ hdV5) cs):=by
  obtain ⟨f,hf,fz⟩:=arrfv Tr R.sz
  have e12:=fz 12 _ t12
  have e16:=fz 16 _ R.t16
  clear fz
  have w2:=wrap_nat i hi
  have hc':∀ T',T'.size=56→(∀ j,j < 16→T'[j]?=some (f j))→T'[16]?=some (.int .i64 ((i+1:Nat):Int))→HG Try.prog th.j F E (G ((base 81).at ⟨T',[]⟩ hdV) cs) w:=fun T' a1 a2 a3=>by
    have key:∀ j,j < 16→T'[j]?=Tr[j]?:=fun j hj=>by rw [a2 j hj,hf,arrf_get f (by omega)]
    exact hc T' ⟨a1,(key 0 (by decide)).trans R.t0,(key 2 (by decide)).trans R.t2,(key 3 (by decide)).trans R.t3,(key 4 (by decide)).trans R.t4,(key 5 (by decide)).trans R.t5,(key 6 (by decide)).trans R.t6,(key 8 (by decide)).trans R.t8,R.t14.imp (fun z=>(key 14 (by decide)).trans z) id,(key 15 (by decide)).trans R.t15,a3⟩
  clear hc R t12
  subst hf
  replace hc':=Lib.hid hc'
  unfold hdV5
  unfold hdV at hc'
  rw [show vR5=xvR5 from rfl,show vR9=xvR9 from rfl]
  generalize hG1:vR6=L1 at hc' ⊢
  generalize hG2:vR7=L2 at hc' ⊢
  generalize hG3:vR8=L3 at hc' ⊢
  generalize hGL:vL=LL at hc' ⊢
  simp only [xvR5,xvR9,vR5,vR9,vIn,vL,vB,Try.f81,Option.getD_some,List.range,List.range.loop,List.map_cons,List.map_nil,e12,e16]
  refine Idl.q (idl_hg Try.prog th.j F E w) (Idl.q (idl_hg Try.prog th.j F E w) (Idl.rg (idl_hg Try.prog th.j F E w) [0,1] rfl ?_))
  iterate 2 (apply Idl.value (idl_hg Try.prog th.j F E w) rfl rfl (by first | decide | exact base_kind _ | exact baseD_kind _ | assumption); (focus (intro w; go_simp; (try w_num); first | done | rfl)); (focus (intro w; simp [go_sem, *])); walk_nrm)
  refine Idl.re (idl_hg Try.prog th.j F E w) (Idl.ct (idl_hg Try.prog th.j F E w) rfl (Idl.exit (idl_hg Try.prog th.j F E w) rfl (Idl.rg (idl_hg Try.prog th.j F E w) [0,1] rfl ?_)))
  iterate 2 (apply Idl.value (idl_hg Try.prog th.j F E w) rfl rfl (by first | decide | exact base_kind _ | exact baseD_kind _ | assumption); (focus (intro w; go_simp; (try w_num); first | done | rfl)); (focus (intro w; simp [go_sem, *])); walk_nrm)
  refine Idl.re (idl_hg Try.prog th.j F E w) (Idl.il (idl_hg Try.prog th.j F E w) ?_)
  try simp only [w2]
  refine hc'.out _ (by simp) (fun j hj=>?_) (by simp)
  match j,hj with
  | 0,_ | 1,_ | 2,_ | 3,_ | 4,_ | 5,_ | 6,_ | 7,_ | 8,_ | 9,_ | 10,_ | 11,_ | 12,_ | 13,_ | 14,_ | 15,_=>simp [e12,e16]
  | q+16,hq=>exact absurd hq (by omega)
theorem word_take (R:RegsV Tr th.gb p mb db ab nb i c) (t12:Tr[12]?=some (.bool true)) (hc:∀ T',T'.size=56→(∀ j,j < 17→T'[j]?=Tr[j]?)→HG Try.prog th.j F E (G ((base 81).at ⟨T',[]⟩ hdV6) cs) w) :
    HGn Try.prog th.j F E w 100 (G ((base 81).at ⟨Tr,[]⟩ hdV5) cs):=by
  obtain ⟨f,hf,fz⟩:=arrfv Tr R.sz
  have e12:=fz 12 _ t12
  clear fz
  have hc':∀ T',T'.size=56→(∀ j,j < 17→T'[j]?=some (f j))→HG Try.prog th.j F E (G ((base 81).at ⟨T',[]⟩ hdV6) cs) w:=fun T' a1 a2=>hc T' a1 (fun j hj=>by rw [a2 j hj,hf,arrf_get f (by omega)])
  clear hc R t12
  subst hf
  replace hc':=Lib.hid hc'
  unfold hdV5
  unfold hdV6 at hc'
  rw [show vR5=xvR5 from rfl]
  generalize hG1:vR6=L1 at hc' ⊢
  generalize hG2:vR7=L2 at hc' ⊢
  generalize hG3:vR8=L3 at hc' ⊢
  generalize hG4:vR9=L4 at hc' ⊢
  generalize hGL:vL=LL at hc' ⊢
  simp only [xvR5,vR5,vIn,vL,vB,Try.f81,Option.getD_some,List.range,List.range.loop,List.map_cons,List.map_nil,e12]
  refine Idl.q (idl_hg Try.prog th.j F E w) (Idl.q (idl_hg Try.prog th.j F E w) (Idl.rg (idl_hg Try.prog th.j F E w) [0,1] rfl ?_))
  iterate 2 (apply Idl.value (idl_hg Try.prog th.j F E w) rfl rfl (by first | decide | exact base_kind _ | exact baseD_kind _ | assumption); (focus (intro w; go_simp; (try w_num); first | done | rfl)); (focus (intro w; simp [go_sem, *])); walk_nrm)
  refine Idl.re (idl_hg Try.prog th.j F E w) (Idl.cf (idl_hg Try.prog th.j F E w) rfl (Idl.sk (idl_hg Try.prog th.j F E w) (Idl.q (idl_hg Try.prog th.j F E w) ?_)))
  refine hc'.out _ (by simp) (fun j hj=>?_)
  match j,hj with
  | 0,_ | 1,_ | 2,_ | 3,_ | 4,_ | 5,_ | 6,_ | 7,_ | 8,_ | 9,_ | 10,_ | 11,_ | 12,_ | 13,_ | 14,_ | 15,_ | 16,_=>simp [e12]
  | q+17,hq=>exact absurd hq (by omega)
theorem word_op {op:Op3} (W:WTok K L t p mb wb n db ab nb mpb) (m:WordM mb wb n K L s E w) (hop:p.ops[i]?=some op) (R:RegsV Tr th.gb p mb db ab nb i c)
    (hc:∀ E1 w1 T' bb,Still th.j E w E1 w1→RegsV T' th.gb p mb db ab nb i c→w1.heap[bb]?=some (.cells #[.int .i64 op.1,.int .i64 op.2.1,.int .i64 op.2.2] 34)→E1.H bb=none→T'[10]?=some (.pointer (some ⟨bb,0,none⟩))→T'[11]?=some (lookV op.1)→T'[12]?=some (.bool (isC op.1))→HG Try.prog th.j F E1 (G ((base 81).at ⟨T',[]⟩ hdV5) cs) w1) :
    HGn Try.prog th.j F E w 100 (G ((base 81).at ⟨Tr,[]⟩ hdVI) cs):=by
  have hlt:i < p.ops.length:=(List.getElem?_eq_some_iff.1 hop).1
  have h14:=R.t14.resolve_right (fun e=>by rw [e] at hlt; simp at hlt)
  obtain ⟨o1,o2,o3⟩:=W.P.ops i op hop
  obtain ⟨r1,r2,r3⟩:=W.rng i op hop
  unfold hdVI
  rw [show vIn=.seq vR3 (.seq vR4 (.seq vR5 (.seq vR6 (.seq vR7 vR8)))) from vIn_parts]
  refine Idl.step (idl_hg Try.prog th.j F E w) _ _ _ rfl (fun _=>stepG_seq) ?_
  refine HG.quietM [.cells #[.int .i64 op.1,.int .i64 op.2.1,.int .i64 op.2.2] 34] (closed_none _) (fun T' S=>T'.size=56∧(∀ j,j < 17→j≠10→T'[j]?=Tr[j]?)∧T'[10]?=some (.pointer (some ⟨S,0,none⟩))) (by kernel_rfl) (by rfl) (fun x hxs hx=>?_) (fun E1 w1 T1 S1 N1 hR=>?_)
  · have cx:∀ {a v},KC K a v→x.cell? a=some v:=fun {a v} hk=>by
      obtain ⟨k1,k2,_⟩:=m.konst _ _ hk
      exact (World.cell?_of_block (hx _ k2)).trans k1
    refine vr3_wp R.sz h14 R.t16 hlt (cx o1) (cx o2) (cx o3) (fun T' x' a1 a2 a3 a4=>⟨rfl,rfl,fun b hb=>by rw [a4,Array.getElem?_push,if_neg (by omega)],fun j o hj=>?_,a1,a2,a3⟩)
    match j,hj with
    | 0,hj=>cases hj; rw [a4]; simp
  obtain ⟨s1,j1,u10⟩:=hR
  obtain ⟨nb0,nbH⟩:=N1 0 _ rfl
  rw [Nat.add_zero] at nb0 nbH
  generalize w.heap.size=bb at nb0 nbH u10
  have R1:RegsV T1 th.gb p mb db ab nb i c:=R.up s1 (fun j hj=>by
    by_cases e:j=10
    · exact .inr (by omega)
    · exact .inl (j1 j hj e))
  have m1:=m.still S1
  change HGn Try.prog th.j F E1 w1 100 _
  refine Idl.step (idl_hg Try.prog th.j F E1 w1) _ _ _ rfl (fun _=>stepG_seq) ?_
  refine HG.quietN (closed_none _) (fun T'=>T'.size=56∧(∀ j,j < 17→j≠11→j≠12→T'[j]?=T1[j]?)∧T'[11]?=some (lookV op.1)∧T'[12]?=some (.bool (isC op.1))) (by kernel_rfl) (by rfl) (fun x hx=>?_) (fun E2 w2 T2 S2 hR=>?_)
  · obtain ⟨k1,k2,_⟩:=m1.konst _ _ W.kd
    obtain ⟨om,km1,km2⟩:=W.km
    obtain ⟨q1,q2,_⟩:=m1.m.kobj _ _ (.inl km1)
    refine vr4_wp s1 R1.t2 u10 ((World.cell?_of_block (hx _ k2)).trans k1) ((World.cell?_of_block (a:=⟨bb,0,none⟩) (hx _ nbH)).trans (obj_cell nb0 (o:=0) rfl)) r1 (ownsMap_same (km2 w1 q1) (hx _ q2)) (fun T' a1 a2 a3 a4=>⟨rfl,rfl,fun _ _=>rfl,a1,a2,a3,a4⟩)
  obtain ⟨s2,j2,u11,u12⟩:=hR
  obtain ⟨nb1H,nb1⟩:=S2.st _ _ nbH nb0
  exact hc E2 w2 T2 bb (S1.trans S2) (R1.up s2 (fun j hj=>by
    by_cases e:j=11∨j=12
    · exact .inr (by omega)
    · exact .inl (j2 j hj (fun z=>e (.inl z)) (fun z=>e (.inr z))))) nb1 nb1H ((j2 10 (by decide) (by decide) (by decide)).trans u10) u11 u12
end
end Go.Proofs.Ytimlbbleblijnaa.Co

namespace Go.Proofs.Ytimlbbleblijnaa.Co
open Go Go.Conc Go.RowKit
open Go.ConcN (sumTo upd sumTo_upd upd_ne upd_same sumTo_congr le_sumTo)
section
variable {j:Nat} {F:Machine→Trace→Prop} {E:Env} {w:World} {b₀:Frame} {a₀:Act} {ops₀:Array Oper} {i₀:Nat} {rest₀:List Nat} {k₀:List Item} {cl:List Frame}
theorem c124_go {wv gv nv : Value} (hmid : ∀ (a₁ : Act) (ops : Array Oper) (i' : Nat) (rest' : List Nat) (k' : List Item), a₁.defers = [] → (∀ (F' : Machine → Trace → Prop) (E2 : Env) (w2 : World) (v : Value), HG Try.prog j F' E2 (G (b₀.at (a₀.put ((ops₀[i₀]?).bind (·.dst)) v) (.inRegion ops₀ rest₀ :: k₀)) cl) w2 → HG Try.prog j F' E2 (G ((base 124).at (a₁.put ((ops[i']?).bind (·.dst)) v) (.inRegion ops rest' :: k')) (b₀.at a₀ (.inRegion ops₀ (i₀ :: rest₀) :: k₀) :: cl)) w2) →
      HGn Try.prog j F E w 200 (entry 70 Try.f70 #[wv,gv] ((base 124).at a₁ (.inRegion ops (i' :: rest') :: k') :: b₀.at a₀ (.inRegion ops₀ (i₀ :: rest₀) :: k₀) :: cl))) :
    HGn Try.prog j F E w 300 (entry 124 Try.f124 #[wv,gv,nv] (b₀.at a₀ (.inRegion ops₀ (i₀ :: rest₀) :: k₀) :: cl)):=by
  unfold entry
  replace hmid:=Lib.hid hmid
  simp only [Try.f124,Option.getD_some]
  walk_nrm
  refine Idl.q (idl_hg Try.prog j F E w) (Idl.rg (idl_hg Try.prog j F E w) [0] rfl ?_)
  apply Idl.value (idl_hg Try.prog j F E w) rfl rfl (by first | decide | exact base_kind _ | exact baseD_kind _ | assumption)
  focus (intro w; go_simp; (try w_num); first | done | rfl)
  focus (intro w; simp [go_sem, *])
  walk_nrm
  refine Idl.re (idl_hg Try.prog j F E w) (Idl.q (idl_hg Try.prog j F E w) (Idl.rg (idl_hg Try.prog j F E w) [0,1,2,3] rfl ?_))
  iterate 2 (apply Idl.value (idl_hg Try.prog j F E w) rfl rfl (by first | decide | exact base_kind _ | exact baseD_kind _ | assumption); (focus (intro w; go_simp; (try w_num); first | done | rfl)); (focus (intro w; simp [go_sem, *])); walk_nrm)
  refine Idl.callE (fn:=Try.f70) (vs:=#[wv,gv]) (idl_hg Try.prog j F E w) rfl rfl (by k_ne) rfl Try.func70 rfl rfl (by simp [Act.eval]) ?_
  refine hmid.out _ _ _ _ _ rfl (fun F' E2 w2 v hh=>?_)
  replace hh:=Lib.hid hh
  change HGn Try.prog j F' E2 w2 100 _
  walk_nrm
  apply Idl.value (idl_hg Try.prog j F' E2 w2) rfl rfl (by first | decide | exact base_kind _ | exact baseD_kind _ | assumption)
  focus (intro w; go_simp; (try w_num); first | done | rfl)
  focus (intro w; simp [go_sem, *])
  walk_nrm
  refine Idl.re (idl_hg Try.prog j F' E2 w2) (Idl.rt (idl_hg Try.prog j F' E2 w2) ?_)
  refine Idl.leave1 (n:=1) (idl_hg Try.prog j F' E2 w2) rfl rfl Try.func124 rfl ?_
  exact hh.out
theorem c125_go {wv gv nv : Value} (hmid : ∀ (a₁ : Act) (ops : Array Oper) (i' : Nat) (rest' : List Nat) (k' : List Item), a₁.defers = [] → (∀ (F' : Machine → Trace → Prop) (E2 : Env) (w2 : World) (v : Value), HG Try.prog j F' E2 (G (b₀.at (a₀.put ((ops₀[i₀]?).bind (·.dst)) (.int .i64 0)) (.inRegion ops₀ rest₀ :: k₀)) cl) w2 → HG Try.prog j F' E2 (G ((base 125).at (a₁.put ((ops[i']?).bind (·.dst)) v) (.inRegion ops rest' :: k')) (b₀.at a₀ (.inRegion ops₀ (i₀ :: rest₀) :: k₀) :: cl)) w2) →
      HGn Try.prog j F E w 200 (entry 71 Try.f71 #[wv,gv,nv] ((base 125).at a₁ (.inRegion ops (i' :: rest') :: k') :: b₀.at a₀ (.inRegion ops₀ (i₀ :: rest₀) :: k₀) :: cl))) :
    HGn Try.prog j F E w 300 (entry 125 Try.f125 #[wv,gv,nv] (b₀.at a₀ (.inRegion ops₀ (i₀ :: rest₀) :: k₀) :: cl)):=by
  unfold entry
  replace hmid:=Lib.hid hmid
  simp only [Try.f125,Option.getD_some]
  walk_nrm
  refine Idl.q (idl_hg Try.prog j F E w) (Idl.rg (idl_hg Try.prog j F E w) [0] rfl ?_)
  apply Idl.value (idl_hg Try.prog j F E w) rfl rfl (by first | decide | exact base_kind _ | exact baseD_kind _ | assumption)
  focus (intro w; go_simp; (try w_num); first | done | rfl)
  focus (intro w; simp [go_sem, *])
  walk_nrm
  refine Idl.re (idl_hg Try.prog j F E w) (Idl.q (idl_hg Try.prog j F E w) (Idl.rg (idl_hg Try.prog j F E w) [0,1,2,3] rfl ?_))
  iterate 3 (apply Idl.value (idl_hg Try.prog j F E w) rfl rfl (by first | decide | exact base_kind _ | exact baseD_kind _ | assumption); (focus (intro w; go_simp; (try w_num); first | done | rfl)); (focus (intro w; simp [go_sem, *])); walk_nrm)
  refine Idl.callE (fn:=Try.f71) (vs:=#[wv,gv,nv]) (idl_hg Try.prog j F E w) rfl rfl (by k_ne) rfl Try.func71 rfl rfl (by simp [Act.eval]) ?_
  refine hmid.out _ _ _ _ _ rfl (fun F' E2 w2 v hh=>?_)
  replace hh:=Lib.hid hh
  change HGn Try.prog j F' E2 w2 100 _
  walk_nrm
  refine Idl.re (idl_hg Try.prog j F' E2 w2) (Idl.q (idl_hg Try.prog j F' E2 w2) (Idl.rg (idl_hg Try.prog j F' E2 w2) [0] rfl ?_))
  apply Idl.value (idl_hg Try.prog j F' E2 w2) rfl rfl (by first | decide | exact base_kind _ | exact baseD_kind _ | assumption)
  focus (intro w; go_simp; (try w_num); first | done | rfl)
  focus (intro w; simp [go_sem, *])
  walk_nrm
  refine Idl.re (idl_hg Try.prog j F' E2 w2) (Idl.rt (idl_hg Try.prog j F' E2 w2) ?_)
  refine Idl.leave1 (n:=1) (idl_hg Try.prog j F' E2 w2) rfl rfl Try.func125 rfl ?_
  exact hh.out
end
noncomputable def vOps6:Array Oper:=match vR6 with | .region _ o _=>o | _=>#[]
theorem vR6_eq:vR6=.region 6 vOps6 true:=by kernel_rfl
noncomputable def o6c:Oper:=(vOps6[14]?).getD default
noncomputable def o6a:Oper:=(vOps6[15]?).getD default
theorem o6c_at:vOps6[14]?=some o6c:=by kernel_rfl
theorem o6a_at:vOps6[15]?=some o6a:=by kernel_rfl
theorem o6_last:lastT2 .any vOps6 14=true:=by kernel_rfl
section
variable {j gb wb n db ab nb bb mb i c fnn:Nat} {at' nn:Int} {F:Machine→Trace→Prop} {E:Env} {w:World} {p:PT} {Tr:Array Value} {cs:List Frame} {fn:Func}
theorem word_r6 (R:RegsV Tr gb p mb db ab nb i c) (t10:Tr[10]?=some (.pointer (some ⟨bb,0,none⟩))) (t11:Tr[11]?=some (fvV fnn))
    (ca:w.cell? ⟨ab,0,none⟩=some (.slice (some ⟨wb,0,none⟩) n n)) (Wa:E.W ab=false) (cn:w.cell? ⟨nb,0,none⟩=some (.int .i64 (n:Int))) (Wn:E.W nb=false)
    (c1:w.cell? ⟨bb,1,none⟩=some (.int .i64 at')) (c2:w.cell? ⟨bb,2,none⟩=some (.int .i64 nn)) (Wb:E.W bb=false) (hn1:1≤n) (hn2:n≤1048576)
    (hf:Try.prog.funcs[fnn]?=some fn) (hname:(fn.name == "runtime.NumGoroutine")=false) (hb:fn.body.isSome=true)
    (hmid:∀ (w1:World) (a₁:Act) (ops:Array Oper) (i':Nat) (rest':List Nat) (k':List Item),AtE j E w E w1→a₁.defers=[] →
      (∀ (F':Machine→Trace→Prop) (E2:Env) (w2:World) (r:Value),(∀ T',T'.size=56→(∀ q,q < 17→q≠13→T'[q]?=Tr[q]?)→T'[13]?=some r→HG Try.prog j F' E2 (G ((base 81).at ⟨T',[]⟩ hdV7) cs) w2)→HG Try.prog j F' E2 (G ((base 81).at (a₁.put ((ops[i']?).bind (·.dst)) r) (.inRegion ops rest' :: k')) cs) w2) →
      HGn Try.prog j F E w1 300 (entry fnn fn #[.pointer (some ⟨wb,pickIx at' n,none⟩),.pointer (some ⟨gb,0,none⟩),.int .i64 nn] ((base 81).at a₁ (.inRegion ops (i' :: rest') :: k') :: cs))) :
    HG Try.prog j F E (G ((base 81).at ⟨Tr,[]⟩ hdV6) cs) w:=by
  obtain ⟨f,hfF,fz⟩:=arrfv Tr R.sz
  have e0:=fz 0 _ R.t0
  have e3:=fz 3 _ R.t3
  have e4:=fz 4 _ R.t4
  have e10:=fz 10 _ t10
  have e11:=fz 11 _ t11
  have hrk:∀ q,q < 17→Tr[q]?=some (f q):=fun q hq=>by rw [hfF,arrf_get f (by omega)]
  have hmid':∀ (w1:World) (a₁:Act) (ops:Array Oper) (i':Nat) (rest':List Nat) (k':List Item),AtE j E w E w1→a₁.defers=[] →
      (∀ (F':Machine→Trace→Prop) (E2:Env) (w2:World) (r:Value),(∀ T',T'.size=56→(∀ q,q < 17→q≠13→T'[q]?=some (f q))→T'[13]?=some r→HG Try.prog j F' E2 (G ((base 81).at ⟨T',[]⟩ hdV7) cs) w2)→HG Try.prog j F' E2 (G ((base 81).at (a₁.put ((ops[i']?).bind (·.dst)) r) (.inRegion ops rest' :: k')) cs) w2) →
      HGn Try.prog j F E w1 300 (entry fnn fn #[.pointer (some ⟨wb,pickIx at' n,none⟩),.pointer (some ⟨gb,0,none⟩),.int .i64 nn] ((base 81).at a₁ (.inRegion ops (i' :: rest') :: k') :: cs)):=fun w1 a₁ ops i' rest' k' hA hd hp =>
    hmid w1 a₁ ops i' rest' k' hA hd (fun F' E2 w2 r hh=>hp F' E2 w2 r (fun T' a1 a2 a3=>hh T' a1 (fun q h1 h2=>by rw [a2 q h1 h2,hrk q h1]) a3))
  clear hmid R t10 t11 hrk fz
  subst hfF
  have hn0:n≠0:=by omega
  have b1:=Int.lt_tmod_of_pos at' (show (0:Int) < (n:Int) by omega)
  have b2:=Int.tmod_lt_of_pos at' (show (0:Int) < (n:Int) by omega)
  have hix:=pickIx_lt at' (show 0 < n by omega)
  have hi0:0≤at'.tmod (n:Int)+(n:Int):=by omega
  have hi1:=Int.tmod_nonneg (n:Int) hi0
  have hw1:IntKind.i64.wrap (at'.tmod (n:Int)+(n:Int))=at'.tmod (n:Int)+(n:Int):=by rw [IntKind.wrap_i64]; omega
  have hw2:(at'.tmod (n:Int)+(n:Int)).tmod (n:Int)=((pickIx at' n:Nat):Int):=by unfold pickIx; omega
  clear hi0 hi1 b1 b2
  generalize pickIx at' n=ix at hix hw2 hmid'
  have gi:(ix:Int) < (n:Int):=by omega
  have gi0:(0:Int)≤(ix:Int):=by omega
  obtain ⟨fv,hfv⟩:∃ fv,fv=fvV fnn:=⟨_,rfl⟩
  rw [← hfv] at e11
  replace hfv:=Lib.hid hfv
  replace hmid':=Lib.hid hmid'
  unfold hdV6
  rw [vR6_eq]
  simp only [List.range,List.range.loop,List.map_cons,List.map_nil,e0,e3,e4,e10,e11]
  have T:Terms (Aw E.W) E.D:=terms_aw _ _ _ _
  have hSR:∀ x y:World,(x.cell? ⟨ab,0,none⟩=some (.slice (some ⟨wb,0,none⟩) n n)∧x.cell? ⟨nb,0,none⟩=some (.int .i64 (n:Int))∧x.cell? ⟨bb,1,none⟩=some (.int .i64 at')∧x.cell? ⟨bb,2,none⟩=some (.int .i64 nn))→Aw E.W x y→(y.cell? ⟨ab,0,none⟩=some (.slice (some ⟨wb,0,none⟩) n n)∧y.cell? ⟨nb,0,none⟩=some (.int .i64 (n:Int))∧y.cell? ⟨bb,1,none⟩=some (.int .i64 at')∧y.cell? ⟨bb,2,none⟩=some (.int .i64 nn)):=fun x y ⟨s1,s2,s3,s4⟩ hA=>⟨(World.cell?_of_block (hA.heap _ Wa)).trans s1,(World.cell?_of_block (hA.heap _ Wn)).trans s2,(World.cell?_of_block (hA.heap _ Wb)).trans s3,(World.cell?_of_block (hA.heap _ Wb)).trans s4⟩
  obtain ⟨aF,haF⟩:∃ aF:Act,aF=⟨#[.pointer (some ⟨gb,0,none⟩),f 1,f 2,.pointer (some ⟨ab,0,none⟩),.pointer (some ⟨nb,0,none⟩),f 5,f 6,f 7,f 8,f 9,.pointer (some ⟨bb,0,none⟩),fv,f 12,f 13,f 14,f 15,f 16,f 17,f 18,f 19,f 20,f 21,f 22,f 23,f 24,f 25,f 26,f 27,f 28,fv,.slice (some ⟨wb,0,none⟩) n n,.pointer (some ⟨bb,1,none⟩),.int .i64 at',.int .i64 (n:Int),.int .i64 (at'.tmod n),.int .i64 (n:Int),.int .i64 (at'.tmod n+n),.int .i64 (n:Int),.int .i64 (ix:Int),.pointer (some ⟨wb,ix,none⟩),.pointer (some ⟨gb,0,none⟩),.pointer (some ⟨bb,2,none⟩),.int .i64 nn,f 43,f 44,f 45,f 46,f 47,f 48,f 49,f 50,f 51,f 52,f 53,f 54,f 55],[]⟩:=⟨_,rfl⟩
  refine HG.looksTo2 (S:=fun x=>x.cell? ⟨ab,0,none⟩=some (.slice (some ⟨wb,0,none⟩) n n)∧x.cell? ⟨nb,0,none⟩=some (.int .i64 (n:Int))∧x.cell? ⟨bb,1,none⟩=some (.int .i64 at')∧x.cell? ⟨bb,2,none⟩=some (.int .i64 nn)) (aF:=aF) (n:=14) (o:=o6c) (p:=o6a) (by kernel_rfl) (by rfl) o6c_at o6a_at o6_last (fun w₁ hA=>?_) (fun w' hA=>?_)
  · have hS1:w₁.cell? ⟨ab,0,none⟩=some (.slice (some ⟨wb,0,none⟩) n n)∧w₁.cell? ⟨nb,0,none⟩=some (.int .i64 (n:Int))∧w₁.cell? ⟨bb,1,none⟩=some (.int .i64 at')∧w₁.cell? ⟨bb,2,none⟩=some (.int .i64 nn):=hSR w w₁ ⟨ca,cn,c1,c2⟩ hA
    have hQR:∀ (a:Act) (x y:World),(Exit.normal=Exit.normal∧a=aF∧Aw E.W w x)→Aw E.W x y→(Exit.normal=Exit.normal∧a=aF∧Aw E.W w y):=fun a x y ⟨q1,q2,q3⟩ hxy=>⟨q1,q2,Aw.trans _ _ _ q3 hxy⟩
    have hA1:=aw_draw hA (w₁.drawn+1)
    replace hA1:=Lib.hid hA1
    replace haF:=Lib.hid haF
    clear hA hmid' ca cn c1 c2
    rw [show nop2 vOps6 14 o6c o6a=(nop2 ((match (match vIn with | .seq _ (.seq _ (.seq _ (.seq x _)))=>x | _=>.skip) with | .region _ o _=>o | _=>#[])) 14 o6c o6a) from rfl]
    simp only [vIn,vL,vB,Try.f81,Option.getD_some,nop2,List.setIfInBounds_toArray,List.set_cons_zero,List.set_cons_succ]
    refine anyCH_take T hSR hQR (i:=0) (v:=fv) rfl (by kernel_rfl) (by kernel_rfl) (by kernel_rfl) (yields_pure (by rfl) (fun w=>by go_simp) (fun w=>by simp [go_sem])) hS1 ?_
    simp only [Act.put,List.setIfInBounds_toArray,List.set_cons_zero,List.set_cons_succ,List.getElem_toArray,List.getElem_cons_succ,List.getElem_cons_zero]
    refine anyCH_take T hSR hQR (i:=1) (v:=.slice (some ⟨wb,0,none⟩) n n) rfl (by kernel_rfl) (by kernel_rfl) (by kernel_rfl) (yields_ld (ad:=⟨ab,0,none⟩) (fun w hs=>hs.1) Wa (by rfl) (fun w hc=>⟨by go_simp,fun e he=>by (have he':=he; simp [go_sem,hc] at he'; exact he')⟩)) hS1 ?_
    simp only [Act.put,List.setIfInBounds_toArray,List.set_cons_zero,List.set_cons_succ,List.getElem_toArray,List.getElem_cons_succ,List.getElem_cons_zero]
    refine anyCH_take T hSR hQR (i:=2) (v:=.pointer (some ⟨bb,1,none⟩)) rfl (by kernel_rfl) (by kernel_rfl) (by kernel_rfl) (yields_pure (by rfl) (fun w=>by go_simp) (fun w=>by simp [go_sem])) hS1 ?_
    simp only [Act.put,List.setIfInBounds_toArray,List.set_cons_zero,List.set_cons_succ,List.getElem_toArray,List.getElem_cons_succ,List.getElem_cons_zero]
    refine anyCH_take T hSR hQR (i:=3) (v:=.int .i64 at') rfl (by kernel_rfl) (by kernel_rfl) (by kernel_rfl) (yields_ld (ad:=⟨bb,1,none⟩) (fun w hs=>hs.2.2.1) Wb (by rfl) (fun w hc=>⟨by go_simp,fun e he=>by (have he':=he; simp [go_sem,hc] at he'; exact he')⟩)) hS1 ?_
    simp only [Act.put,List.setIfInBounds_toArray,List.set_cons_zero,List.set_cons_succ,List.getElem_toArray,List.getElem_cons_succ,List.getElem_cons_zero]
    refine anyCH_take T hSR hQR (i:=4) (v:=.int .i64 (n:Int)) rfl (by kernel_rfl) (by kernel_rfl) (by kernel_rfl) (yields_ld (ad:=⟨nb,0,none⟩) (fun w hs=>hs.2.1) Wn (by rfl) (fun w hc=>⟨by go_simp,fun e he=>by (have he':=he; simp [go_sem,hc] at he'; exact he')⟩)) hS1 ?_
    simp only [Act.put,List.setIfInBounds_toArray,List.set_cons_zero,List.set_cons_succ,List.getElem_toArray,List.getElem_cons_succ,List.getElem_cons_zero]
    refine anyCH_take T hSR hQR (i:=5) (v:=.int .i64 (at'.tmod n)) rfl (by kernel_rfl) (by kernel_rfl) (by kernel_rfl) (yields_pure (by rfl) (fun w=>by simp [go_sem,hn0]) (fun w=>by simp [go_sem,hn0])) hS1 ?_
    simp only [Act.put,List.setIfInBounds_toArray,List.set_cons_zero,List.set_cons_succ,List.getElem_toArray,List.getElem_cons_succ,List.getElem_cons_zero]
    refine anyCH_take T hSR hQR (i:=6) (v:=.int .i64 (n:Int)) rfl (by kernel_rfl) (by kernel_rfl) (by kernel_rfl) (yields_ld (ad:=⟨nb,0,none⟩) (fun w hs=>hs.2.1) Wn (by rfl) (fun w hc=>⟨by go_simp,fun e he=>by (have he':=he; simp [go_sem,hc] at he'; exact he')⟩)) hS1 ?_
    simp only [Act.put,List.setIfInBounds_toArray,List.set_cons_zero,List.set_cons_succ,List.getElem_toArray,List.getElem_cons_succ,List.getElem_cons_zero]
    refine anyCH_take T hSR hQR (i:=7) (v:=.int .i64 (at'.tmod n+n)) rfl (by kernel_rfl) (by kernel_rfl) (by kernel_rfl) (yields_pure (by rfl) (fun w=>by simp [go_sem,hw1]) (fun w=>by simp [go_sem])) hS1 ?_
    simp only [Act.put,List.setIfInBounds_toArray,List.set_cons_zero,List.set_cons_succ,List.getElem_toArray,List.getElem_cons_succ,List.getElem_cons_zero]
    refine anyCH_take T hSR hQR (i:=8) (v:=.int .i64 (n:Int)) rfl (by kernel_rfl) (by kernel_rfl) (by kernel_rfl) (yields_ld (ad:=⟨nb,0,none⟩) (fun w hs=>hs.2.1) Wn (by rfl) (fun w hc=>⟨by go_simp,fun e he=>by (have he':=he; simp [go_sem,hc] at he'; exact he')⟩)) hS1 ?_
    simp only [Act.put,List.setIfInBounds_toArray,List.set_cons_zero,List.set_cons_succ,List.getElem_toArray,List.getElem_cons_succ,List.getElem_cons_zero]
    refine anyCH_take T hSR hQR (i:=9) (v:=.int .i64 (ix:Int)) rfl (by kernel_rfl) (by kernel_rfl) (by kernel_rfl) (yields_pure (by rfl) (fun w=>by simp [go_sem,hn0,hw2]) (fun w=>by simp [go_sem,hn0])) hS1 ?_
    simp only [Act.put,List.setIfInBounds_toArray,List.set_cons_zero,List.set_cons_succ,List.getElem_toArray,List.getElem_cons_succ,List.getElem_cons_zero]
    refine anyCH_take T hSR hQR (i:=10) (v:=.pointer (some ⟨wb,ix,none⟩)) rfl (by kernel_rfl) (by kernel_rfl) (by kernel_rfl) (yields_pure (by rfl) (fun w=>by go_simp) (fun w=>by simp [go_sem,gi,gi0,hix])) hS1 ?_
    simp only [Act.put,List.setIfInBounds_toArray,List.set_cons_zero,List.set_cons_succ,List.getElem_toArray,List.getElem_cons_succ,List.getElem_cons_zero]
    refine anyCH_take T hSR hQR (i:=11) (v:=.pointer (some ⟨gb,0,none⟩)) rfl (by kernel_rfl) (by kernel_rfl) (by kernel_rfl) (yields_pure (by rfl) (fun w=>by go_simp) (fun w=>by simp [go_sem])) hS1 ?_
    simp only [Act.put,List.setIfInBounds_toArray,List.set_cons_zero,List.set_cons_succ,List.getElem_toArray,List.getElem_cons_succ,List.getElem_cons_zero]
    refine anyCH_take T hSR hQR (i:=12) (v:=.pointer (some ⟨bb,2,none⟩)) rfl (by kernel_rfl) (by kernel_rfl) (by kernel_rfl) (yields_pure (by rfl) (fun w=>by go_simp) (fun w=>by simp [go_sem])) hS1 ?_
    simp only [Act.put,List.setIfInBounds_toArray,List.set_cons_zero,List.set_cons_succ,List.getElem_toArray,List.getElem_cons_succ,List.getElem_cons_zero]
    refine anyCH_take T hSR hQR (i:=13) (v:=.int .i64 nn) rfl (by kernel_rfl) (by kernel_rfl) (by kernel_rfl) (yields_ld (ad:=⟨bb,2,none⟩) (fun w hs=>hs.2.2.2) Wb (by rfl) (fun w hc=>⟨by go_simp,fun e he=>by (have he':=he; simp [go_sem,hc] at he'; exact he')⟩)) hS1 ?_
    simp only [Act.put,List.setIfInBounds_toArray,List.set_cons_zero,List.set_cons_succ,List.getElem_toArray,List.getElem_cons_succ,List.getElem_cons_zero]
    refine anyCH_take T hSR hQR (i:=14) (v:=undef) rfl (by kernel_rfl) (by kernel_rfl) (by kernel_rfl) (yields_pure (by kernel_rfl) (fun w=>by kernel_rfl) (fun w=>by kernel_rfl)) hS1 ?_
    refine anyCH_take T hSR hQR (i:=15) (v:=undef) rfl (by kernel_rfl) (by kernel_rfl) (by kernel_rfl) (yields_pure (by kernel_rfl) (fun w=>by kernel_rfl) (fun w=>by kernel_rfl)) hS1 ?_
    refine anyCH_done (by kernel_rfl) ⟨rfl,haF.out.symm,hA1.out⟩ _
  · subst haF
    rw [show ([14,14+1]:List Nat)=[14,15] from rfl]
    change HGn Try.prog j F E w' 400 _
    refine Idl.callClo (f:=fnn) (fn:=fn) (caps:=#[]) (ats:=#[39,49,2]) (x:=.tmp 29) (as':=#[.tmp 39,.tmp 40,.tmp 42]) (vs:=#[.pointer (some ⟨wb,ix,none⟩),.pointer (some ⟨gb,0,none⟩),.int .i64 nn]) (idl_hg Try.prog j F E w') o6c_at (by kernel_rfl) (by k_ne) (by kernel_rfl) (by rw [hfv.out]; rfl) hf hname hb (by simp [Act.eval]) ?_
    refine hmid'.out w' _ _ _ _ _ ⟨.refl j E,hA⟩ rfl (fun F' E2 w2 r hh=>?_)
    replace hh:=Lib.hid hh
    clear hmid' hSR T ca cn c1 c2
    rw [show (vOps6[14]?).bind (·.dst)=some 43 by kernel_rfl]
    unfold hdV7 at hh
    change HGn Try.prog j F' E2 w2 100 _
    generalize hG7:vR7=L7 at hh ⊢
    generalize hG8:vR8=L8 at hh ⊢
    generalize hG9:vR9=L9 at hh ⊢
    generalize hGL:vL=LL at hh ⊢
    simp only [vOps6,vR6,vIn,vL,vB,Try.f81,Option.getD_some]
    walk_nrm
    apply Idl.value (idl_hg Try.prog j F' E2 w2) rfl rfl (by first | decide | exact base_kind _ | exact baseD_kind _ | assumption)
    focus (intro w; go_simp; (try w_num); first | done | rfl)
    focus (intro w; simp [go_sem, *])
    walk_nrm
    refine Idl.re (idl_hg Try.prog j F' E2 w2) (Idl.q (idl_hg Try.prog j F' E2 w2) ?_)
    refine hh.out _ (by simp) (fun q hq h13=>?_) (by simp)
    match q,hq,h13 with
    | 13,_,h=>exact absurd rfl h
    | 0,_,_ | 1,_,_ | 2,_,_ | 3,_,_ | 4,_,_ | 5,_,_ | 6,_,_ | 7,_,_ | 8,_,_ | 9,_,_ | 10,_,_ | 11,_,_ | 12,_,_ | 14,_,_ | 15,_,_ | 16,_,_=>simp [e0,e3,e4,e10,e11]
    | q+17,hq,_=>exact absurd hq (by omega)
end
end Go.Proofs.Ytimlbbleblijnaa.Co
