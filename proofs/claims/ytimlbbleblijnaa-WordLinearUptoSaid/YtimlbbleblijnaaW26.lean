/- Lemmas for the laws of this seat, laid together of PNc, PHj, PGdf, PNd, PGdg. -/
import Derived.Test.YtimlbbleblijnaaW17
import Derived.Test.YtimlbbleblijnaaW18
import Derived.Test.YtimlbbleblijnaaW23
import Derived.Test.YtimlbbleblijnaaW25
import Derived.Test.YtimlbbleblijnaaRows
import Derived.ProofKit
import Derived.SizedLaws
import Derived.ChangeArms
import Derived.ChangeSame
import Derived.Lib.SmallJoins
import Derived.OpenShut
import Derived.Deep.Strs
import Derived.Deep.CondSized

open Go.ConcR.Gen (base_kind baseD_kind)
set_option linter.unusedVariables false
set_option linter.unusedSimpArgs false
set_option maxRecDepth 100000
set_option maxHeartbeats 4000000
namespace Go.Proofs.Ytimlbbleblijnaa.Co
open Go Go.Conc Go.RowKit
open Go.ConcN (sumTo upd sumTo_upd upd_ne upd_same sumTo_congr le_sumTo)
theorem lnS5_wp {T:Array Value} {x:World} {n:Nat} {Q:Exit→Act→World→Prop} (hs:T.size=180) (h0:T[0]?=some (.int .i64 (n:Int))) (hn:n≤1048576)
    (hQ:∀ T' x',T'.size=180→(∀ j,j < 14→j≠12→T'[j]?=T[j]?)→T'[12]?=some (.slice (some ⟨x.heap.size,0,none⟩) n n)→x'.heap=x.heap.push (.cells ((List.range n).map fun _=>Value.int .i64 0).toArray 2)→Q .normal ⟨T',[]⟩ x'):lnS5.wp Try.prog Q ⟨T,[]⟩ x:=by
  obtain ⟨f,hf,fz⟩:=arrfv T hs
  have e0:=fz 0 _ h0
  have hQ':∀ T' x',T'.size=180→(∀ j,j < 14→j≠12→T'[j]?=some (f j))→T'[12]?=some (.slice (some ⟨x.heap.size,0,none⟩) n n)→x'.heap=x.heap.push (.cells ((List.range n).map fun _=>Value.int .i64 0).toArray 2)→Q .normal ⟨T',[]⟩ x':=fun T' x' a1 a2 a3 a4=>hQ T' x' a1 (fun j h1 h2=>by rw [a2 j h1 h2,hf,arrf_get f (by omega)]) a3 a4
  clear hQ fz h0 hs
  subst hf
  have hmk:=make_h n hn x
  obtain ⟨r,hr⟩:∃ r,r=((List.range n).map fun _=>Value.int .i64 0).toArray:=⟨_,rfl⟩
  rw [← hr] at hmk hQ'
  replace hr:=Lib.hid hr
  replace hQ':=Lib.hid hQ'
  simp only [List.range,List.range.loop,List.map_cons,List.map_nil,e0]
  simp only [lnS5,lnT5,lnT3,lnT2,lnT1,lnB,Try.f10,Option.getD_some]
  go_wp2
  refine hQ'.out _ _ (by simp) (fun j hj h12=>?_) (by simp) rfl
  match j,hj,h12 with
  | 12,_,h=>exact absurd rfl h
  | 0,_,_ | 1,_,_ | 2,_,_ | 3,_,_ | 4,_,_ | 5,_,_ | 6,_,_ | 7,_,_ | 8,_,_ | 9,_,_ | 10,_,_ | 11,_,_ | 13,_,_=>simp [e0]
  | q+14,hq,_=>exact absurd hq (by omega)
theorem lnS6_wp {T:Array Value} {x:World} {N cap:Nat} {ta:Option Addr} {Q:Exit→Act→World→Prop} (hs:T.size=180) (h1:T[1]?=some (.slice ta N cap)) (hN:N≤8)
    (hQ:∀ T' x',T'.size=180→(∀ j,j < 14→j≠13→T'[j]?=T[j]?)→T'[13]?=some (.slice (some ⟨x.heap.size,0,none⟩) N N)→x'.heap=x.heap.push (.cells ((List.range N).map fun _=>Value.int .i64 0).toArray 3)→Q .normal ⟨T',[]⟩ x'):lnS6.wp Try.prog Q ⟨T,[]⟩ x:=by
  obtain ⟨f,hf,fz⟩:=arrfv T hs
  have e1:=fz 1 _ h1
  have hQ':∀ T' x',T'.size=180→(∀ j,j < 14→j≠13→T'[j]?=some (f j))→T'[13]?=some (.slice (some ⟨x.heap.size,0,none⟩) N N)→x'.heap=x.heap.push (.cells ((List.range N).map fun _=>Value.int .i64 0).toArray 3)→Q .normal ⟨T',[]⟩ x':=fun T' x' a1 a2 a3 a4=>hQ T' x' a1 (fun j h1 h2=>by rw [a2 j h1 h2,hf,arrf_get f (by omega)]) a3 a4
  clear hQ fz h1 hs
  subst hf
  have hmk:=make_at N hN x
  obtain ⟨r,hr⟩:∃ r,r=((List.range N).map fun _=>Value.int .i64 0).toArray:=⟨_,rfl⟩
  rw [← hr] at hmk hQ'
  replace hr:=Lib.hid hr
  replace hQ':=Lib.hid hQ'
  simp only [List.range,List.range.loop,List.map_cons,List.map_nil,e1]
  simp only [lnS6,lnT6,lnT5,lnT3,lnT2,lnT1,lnB,Try.f10,Option.getD_some]
  go_wp2
  refine hQ'.out _ _ (by simp) (fun j hj h13=>?_) (by simp) rfl
  match j,hj,h13 with
  | 13,_,h=>exact absurd rfl h
  | 0,_,_ | 1,_,_ | 2,_,_ | 3,_,_ | 4,_,_ | 5,_,_ | 6,_,_ | 7,_,_ | 8,_,_ | 9,_,_ | 10,_,_ | 11,_,_ | 12,_,_=>simp [e1]
  | q+14,hq,_=>exact absurd hq (by omega)
def only46:FuncId→Bool:=fun f=>f == 46
theorem closed_46:Closed Try.prog only46:=by
  refine ⟨fun f hf=>?_,fun f fn c hf hfn hb=>?_⟩
  · have:f=46:=by simpa [only46] using hf
    subst this
    exact ⟨Try.f46,Try.func46,by kernel_rfl,.inl (by rfl)⟩
  · have:f=46:=by simpa [only46] using hf
    subst this
    rw [Try.func46] at hfn
    obtain rfl:=Option.some.inj hfn
    have h2:Try.f46.body=some (Try.f46.body.getD .skip):=by rfl
    rw [h2] at hb
    obtain rfl:=Option.some.inj hb
    show quietCode Try.prog only46 (Try.f46.body.getD .skip)=true
    kernel_rfl
theorem lnS24_wp {T:Array Value} {x:World} {av bv:Value} {ps:List Int} {Q:Exit→Act→World→Prop} (hs:T.size=180) (h12:T[12]?=some av) (h11:T[11]?=some bv) (ha:IntsX x av ps) (hb:IntsX x bv ps) (hpl:ps.length≤1000000000000)
    (hQ:∀ T' x',T'.size=180→(∀ j,j < 14→T'[j]?=T[j]?)→T'[20]?=some (.bool true)→x'.heap=x.heap→Q .normal ⟨T',[]⟩ x'):lnS24.wp Try.prog Q ⟨T,[]⟩ x:=by
  obtain ⟨f,hf,fz⟩:=arrfv T hs
  have e12:=fz 12 _ h12
  have e11:=fz 11 _ h11
  have hQ':∀ T' x',T'.size=180→(∀ j,j < 14→T'[j]?=some (f j))→T'[20]?=some (.bool true)→x'.heap=x.heap→Q .normal ⟨T',[]⟩ x':=fun T' x' a1 a2 a3 a4=>hQ T' x' a1 (fun j h1=>by rw [a2 j h1,hf,arrf_get f (by omega)]) a3 a4
  clear hQ fz h11 h12 hs
  subst hf
  have hcl:=sameInts_wp ha hb hpl
  replace hQ':=Lib.hid hQ'
  simp only [List.range,List.range.loop,List.map_cons,List.map_nil,e12,e11]
  simp only [lnS24,lnT24,lnT7,lnT6,lnT5,lnT3,lnT2,lnT1,lnB,Try.f10,Option.getD_some]
  go_wp2_with fail
  refine hcl.mono ?_
  rintro _ _ ⟨rfl,k,rfl⟩
  go_wp2_with fail
  refine hQ'.out _ _ (by simp) (fun j hj=>?_) (by simp) rfl
  match j,hj with
  | 0,_ | 1,_ | 2,_ | 3,_ | 4,_ | 5,_ | 6,_ | 7,_ | 8,_ | 9,_ | 10,_ | 11,_ | 12,_ | 13,_=>simp [e11,e12]
  | q+14,hq=>exact absurd hq (by omega)
noncomputable def xlnS0:Code:=lnS0
noncomputable def xlnS1:Code:=lnS1
noncomputable def xlnS2:Code:=lnS2
noncomputable def xlnS3:Code:=lnS3
noncomputable def xlnS25:Code:=lnS25
section
variable {F:Machine→Trace→Prop} {E:Env} {w:World}
theorem lin_t5 {n:Nat} {ts:List (List Op3)} {picks:List Int} {drain:Bool} {ms:List Mk} {hs:List Int} {tv mv hv:Value} {B:Nat} {a':WA} {k':Int} {T:Array Value} (hsz:T.size=180)
    (t0:T[0]?=some (.int .i64 (n:Int))) (t1:T[1]?=some tv) (t9:T[9]?=some (.bool true)) (t10:T[10]?=some mv) (t11:T[11]?=some hv) (hT:OpsAt E w tv ts)
    (hrow:w.ownsRow B 37 4 mv ms.length (mksV ms)) (hrowH:∀ g,mv.ownBlock=some g→E.H g=none) (hheld:w.ownsRow B 2 1 hv hs.length (hs.map (Value.int .i64))) (hheldH:∀ g,hv.ownBlock=some g→E.H g=none)
    (hg:(wordG n ts).Run picks drain (wa0 ts) (a',k')) (hms:a'.ms=ms) (hhs:hs=(List.range n).map a'.vs) (hn1:1≤n) (hn2:n≤1048576) (hN:ts.length≤8) (hll:∀ l ∈ ts,l.length≤100000000000) (ho64:∀ l ∈ ts,∀ op ∈ l,I64 op.1∧I64 op.2.1∧I64 op.2.2)
    (hc:∀ E' w' T todo,Kept 0 none E w E' w'→Stands E w E' w'→T[8]?=some (.bool true)→HG Try.prog 0 F E' (G { (base 10).at ⟨T,[]⟩ todo with mode:=.returning } []) w') :
    HG Try.prog 0 F E (G ((base 10).at ⟨T,[]⟩ [.code lnT5]) []) w:=by
  obtain ⟨ta,ba,bo,cap,LA,LC,rfl,hta,hts⟩:=hT.at_
  obtain ⟨A,mcap,rfl⟩:=owns_slice hrow
  have gl:=linear_ok hg
  have hok:okLs n ts ms:=by rw [← hms]; exact gl.ok
  have hvs:a'.vs=(rpl n ts ms).2:=by rw [← hms]; exact gl.vs
  have hml:ms.length≤800000000000:=by
    have h0:a'.ms.length+wordW ts a'≤sumTo ts.length (lenOf ts):=gl.len
    rw [hms] at h0
    have h1:=sumTo_bound (f:=lenOf ts) (B:=100000000000) ts.length (fun i hi=>by
      unfold lenOf
      rw [List.getElem?_eq_getElem hi]
      exact hll _ (List.getElem_mem hi))
    have h2:ts.length * 100000000000≤8 * 100000000000:=Nat.mul_le_mul_right _ hN
    omega
  rw [show lnT5=.seq lnS5 lnT6 from ln_parts.2.2.2.2.1]
  change HGn Try.prog 0 F E w 100 _
  refine Idl.step (idl_hg Try.prog 0 F E w) _ _ _ rfl (fun _=>stepG_seq) ?_
  refine HG.quietX [.cells ((List.range n).map fun _=>Value.int .i64 0).toArray 2] (closed_none _) (fun T' S=>T'.size=180∧(∀ j,j < 14→j≠12→T'[j]?=T[j]?)∧T'[12]?=some (.slice (some ⟨S,0,none⟩) n n)) (by kernel_rfl) (by rfl) (fun x hxs hx=>?_) (fun E1 w1 T1 S1 z1 N1 hR=>?_)
  · refine lnS5_wp hsz t0 hn2 (fun T' x' a1 a2 a3 a4=>⟨rfl,rfl,fun b hb=>by rw [a4,Array.getElem?_push,if_neg (by omega)],by rw [a4]; simp,(fun i o hi=>?_),a1,a2,a3⟩)
    match i,hi with
    | 0,hi=>cases hi; rw [a4]; simp
  obtain ⟨s1,j1,v12⟩:=hR
  obtain ⟨n1,n1H⟩:=N1 0 _ rfl
  rw [Nat.add_zero] at n1 n1H
  have z1:w1.heap.size=w.heap.size+1:=z1
  rw [show lnT6=.seq lnS6 lnT7 from ln_parts.2.2.2.2.2.1]
  change HGn Try.prog 0 F E1 w1 100 _
  refine Idl.step (idl_hg Try.prog 0 F E1 w1) _ _ _ rfl (fun _=>stepG_seq) ?_
  refine HG.quietX [.cells ((List.range ts.length).map fun _=>Value.int .i64 0).toArray 3] (closed_none _) (fun T' S=>T'.size=180∧(∀ j,j < 14→j≠13→T'[j]?=T1[j]?)∧T'[13]?=some (.slice (some ⟨S,0,none⟩) ts.length ts.length)) (by kernel_rfl) (by rfl) (fun x hxs hx=>?_) (fun E2 w2 T2 S2 z2 N2 hR=>?_)
  · refine lnS6_wp s1 ((j1 1 (by decide) (by decide)).trans t1) hN (fun T' x' a1 a2 a3 a4=>⟨rfl,rfl,fun b hb=>by rw [a4,Array.getElem?_push,if_neg (by omega)],by rw [a4]; simp,(fun i o hi=>?_),a1,a2,a3⟩)
    match i,hi with
    | 0,hi=>cases hi; rw [a4]; simp
  obtain ⟨s2,j2,v13⟩:=hR
  obtain ⟨n2,n2H⟩:=N2 0 _ rfl
  rw [Nat.add_zero] at n2 n2H
  have S12:=S1.trans S2
  obtain ⟨n1H',n1'⟩:=S2.st _ _ n1H n1
  generalize hhb:w.heap.size=hb at n1' n1H' v12
  generalize hab:w1.heap.size=ab at n2 n2H v13
  have u:∀ j,j < 12→T2[j]?=T[j]?:=fun j hj=>(j2 j (by omega) (by omega)).trans (j1 j (by omega) (by omega))
  have u12:T2[12]?=some (.slice (some ⟨hb,0,none⟩) n n):=(j2 12 (by decide) (by decide)).trans v12
  have hT2:=hT.stands S12.st
  obtain ⟨g,hg0⟩:∃ g,0 < ms.length→A=some ⟨g,0,none⟩:=by
    by_cases h0:0 < ms.length
    · obtain ⟨g,c,e⟩:=row_some hrow h0
      injection e with e1
      exact ⟨g,fun _=>e1⟩
    · exact ⟨0,fun h=>absurd h h0⟩
  have hcs:∀ i u,(mksV ms)[i]?=some u→w.cell? ⟨g,i,none⟩=some u∧E.H g=none:=fun i u hu=>by
    have h0:0 < ms.length:=by
      rcases Nat.eq_zero_or_pos ms.length with z | z
      · rw [List.eq_nil_of_length_eq_zero z] at hu
        simp [mksV] at hu
      · exact z
    have hA:=hg0 h0
    rw [hA] at hrow hrowH
    exact ⟨row_cells hrow i u hu,hrowH g rfl⟩
  rw [show lnT7=.seq lnS7 lnT24 from ln_parts.2.2.2.2.2.2.1]
  change HGn Try.prog 0 F E2 w2 100 _
  refine Idl.step (idl_hg Try.prog 0 F E2 w2) _ _ _ rfl (fun _=>stepG_seq) ?_
  have hold:∀ {a:Addr} {v:Value} {y:World},(∀ b,E2.H b=none→y.heap[b]?=w2.heap[b]?)→w.cell? a=some v→E.H a.block=none→y.cell? a=some v∧a.block≠ab∧a.block≠hb:=fun {a v y} hy h1 h2=>by
    obtain ⟨q1,q2⟩:=S12.st.cell h1 h2
    have:=World.block_lt_of_cell? w _ h1
    exact ⟨(World.cell?_of_block (hy _ q2)).trans q1,by omega,by omega⟩
  refine HG.quietS (fun b=>b=ab∨b=hb) (fun b hb'=>by rcases hb' with e | e <;> rw [e] <;> assumption) closed_lin (Q:=fun a' x x'=>a'.tmps.size=180∧(∀ j,j < 14→j≠8→a'.tmps[j]?=T2[j]?)∧LinW x x' ab ts.length (rpl n ts ms).1 hb n (rpl n ts ms).2) (by kernel_rfl) (by rfl) rfl (fun y hys hy=>?_) (fun E3 w3 a3 y y' hE3 hd3 hys hy hys' hy' hK3 hB3 hS3 hq3=>?_)
  · have hyc:∀ {a:Addr} {u:Value},w.cell? a=some u→E.H a.block=none→y.cell? a=some u∧a.block≠ab∧a.block≠hb:=fun h1 h2=>hold hy h1 h2
    obtain ⟨ba',hba⟩:∃ ba',ba'≠ab∧ba'≠hb∧(0 < ts.length→ba'=ba):=by
      by_cases h0:0 < ts.length
      · obtain ⟨l,hl⟩:∃ l,ts[0]?=some l:=⟨_,List.getElem?_eq_getElem h0⟩
        obtain ⟨⟨c1,c2⟩,_⟩:=hts 0 l hl
        exact ⟨ba,(hyc c1 c2).2.1,(hyc c1 c2).2.2,fun _=>rfl⟩
      · exact ⟨ab+hb+1,by omega,by omega,fun h=>absurd h h0⟩
    obtain ⟨g',hg'⟩:∃ g',g'≠ab∧g'≠hb∧(0 < ms.length→g'=g):=by
      by_cases h0:0 < ms.length
      · have hl:0 < (mksV ms).length:=by
          cases ms with
          | nil=>cases h0
          | cons m ms=>simp [mksV,mkV]
        obtain ⟨c1,c2⟩:=hcs 0 _ (List.getElem?_eq_getElem hl)
        exact ⟨g,(hyc c1 c2).2.1,(hyc c1 c2).2.2,fun _=>rfl⟩
      · exact ⟨ab+hb+1,by omega,by omega,fun h=>absurd h h0⟩
    refine lin_loop (ts:=ts) (ms:=ms) (n:=n) (ab:=ab) (hb:=hb) (ba:=ba') (bo:=bo) (g:=g') (LA:=LA) (LC:=LC) (ta:=ta) (cap:=cap) (A:=A) (mcap:=mcap) s2 ((u 0 (by decide)).trans t0) ((u 1 (by decide)).trans t1) ((u 10 (by decide)).trans t10) u12 v13 (fun h=>by rw [hta h,hba.2.2 h]) (fun h=>by rw [hg0 h,hg'.2.2 h]) (fun i l hi=>?_) (fun i u' hu=>?_) ((hy ab n2H).trans n2) ((hy hb n1H').trans n1') (by omega) hba.1 hba.2.1 hg'.1 hg'.2.1 hok hn1 hn2 hN (by omega) (fun l hl=>Nat.le_trans (hll l hl) (by decide)) ho64 (fun T' x' a1 a2 a3=>⟨rfl,rfl,fun b hb' hne=>a3.old b hb' (fun e=>hne (.inl e)) (fun e=>hne (.inr e)),a1,a2,a3⟩)
    · have hi':0 < ts.length:=by have:=(List.getElem?_eq_some_iff.1 hi).1; omega
      obtain ⟨⟨c1,c2⟩,c3⟩:=hts i l hi
      rw [hba.2.2 hi']
      refine ⟨(hyc c1 c2).1,fun hne=>?_⟩
      obtain ⟨la,lo,e1',e2',e3'⟩:=c3 hne
      refine ⟨la,lo,e1',?_,?_,fun j op hj=>⟨(hyc (e3' j op hj).1 e2').1,(hyc (e3' j op hj).2.1 e2').1,(hyc (e3' j op hj).2.2 e2').1⟩⟩
      · cases l with
        | nil=>exact absurd rfl hne
        | cons op l=>exact (hyc (e3' 0 op rfl).1 e2').2.1
      · cases l with
        | nil=>exact absurd rfl hne
        | cons op l=>exact (hyc (e3' 0 op rfl).1 e2').2.2
    · have hi':0 < ms.length:=by
        rcases Nat.eq_zero_or_pos ms.length with z | z
        · rw [List.eq_nil_of_length_eq_zero z] at hu
          simp [mksV] at hu
        · exact z
      rw [hg'.2.2 hi']
      exact (hyc (hcs i u' hu).1 (hcs i u' hu).2).1
  obtain ⟨T3,df3⟩:=a3
  have hdf:df3=[]:=hd3
  subst hdf
  obtain ⟨s3,j3,hlw⟩:=hq3
  dsimp only at s3 j3
  have hS23:∀ (b:Nat) (o:Obj),¬ (b=ab∨b=hb)→E2.H b=none→w2.heap[b]?=some o→E3.H b=none∧w3.heap[b]?=some o:=fun b o h0 h1 h2=>⟨by rw [hE3.H']; exact h1,by
    have hl:=(Array.getElem?_eq_some_iff.1 h2).1
    rw [hy' b h1,hS3 b (by omega) h0,hy b h1]; exact h2⟩
  have hS03:Stands E w E3 w3:=fun b o h1 h2=>by
    obtain ⟨q1,q2⟩:=S12.st b o h1 h2
    have:=(Array.getElem?_eq_some_iff.1 h2).1
    exact hS23 b o (fun z=>by omega) q1 q2
  have hrowH3:w3.heap[hb]?=some (.cells ((List.range n).map fun j=>Value.int .i64 ((rpl n ts ms).2 j)).toArray 2):=(hy' hb n1H').trans hlw.rowH
  have hb3H:E3.H hb=none:=by rw [hE3.H']; exact n1H'
  have hrp:(List.range n).map a'.vs=(List.range n).map (rpl n ts ms).2:=by rw [hvs]
  rw [show lnT24=.seq lnS24 lnT25 from ln_parts.2.2.2.2.2.2.2.1]
  change HGn Try.prog 0 F E3 w3 100 _
  refine Idl.step (idl_hg Try.prog 0 F E3 w3) _ _ _ rfl (fun _=>stepG_seq) ?_
  obtain ⟨aa,hcap,rfl,hvf⟩:=owns_form hheld
  refine HG.quietN closed_46 (fun T'=>T'.size=180∧(∀ j,j < 14→T'[j]?=T3[j]?)∧T'[20]?=some (.bool true)) (by kernel_rfl) (by rfl) (fun x hx=>?_) (fun E4 w4 T4 S4 hR=>?_)
  · refine lnS24_wp (ps:=hs) s3 ((j3 12 (by decide) (by decide)).trans u12) ((j3 11 (by decide) (by decide)).trans ((u 11 (by decide)).trans t11)) ?_ ?_ (by rw [hhs]; simp; omega) (fun T' x' a1 a2 a3 a4=>⟨rfl,rfl,fun b hb'=>by rw [a4],a1,a2,a3⟩)
    · have hl:hs.length=n:=by rw [hhs]; simp
      refine ⟨some ⟨hb,0,none⟩,hb,0,n,by rw [hl],fun _=>rfl,fun i p hi=>?_⟩
      refine (World.cell?_of_block (a:=⟨hb,0+i,none⟩) (hx _ hb3H)).trans (obj_cell hrowH3 ?_)
      rw [hhs,hrp] at hi
      rw [Nat.zero_add]
      rw [List.getElem?_map] at hi
      simp only [Option.map_eq_some_iff] at hi
      obtain ⟨z,hz1,hz2⟩:=hi
      have hin:i < n:=by simpa using (List.getElem?_eq_some_iff.1 hz1).1
      rw [List.getElem?_range hin] at hz1
      cases hz1
      simp [hin,hz2]
    · refine ⟨aa,(aa.map (·.block)).getD 0,0,hcap,rfl,fun hne=>?_,fun i p hi=>?_⟩
      · obtain ⟨g1,rfl,_,_⟩:=hvf (List.length_pos_iff.2 hne)
        rfl
      · have hpos:0 < hs.length:=by have:=(List.getElem?_eq_some_iff.1 hi).1; omega
        obtain ⟨g1,rfl,_,hg3⟩:=hvf hpos
        have c1:=hg3 i (.int .i64 p) (by rw [List.getElem?_map,hi]; rfl)
        obtain ⟨q1,q2⟩:=hS03.cell c1 (hheldH g1 rfl)
        exact (World.cell?_of_block (hx _ q2)).trans q1
  obtain ⟨s4,j4,v20⟩:=hR
  have w_9:T4[9]?=some (.bool true):=by rw [j4 9 (by decide),j3 9 (by decide) (by decide),u 9 (by decide)]; exact t9
  have hS04:Stands E w E4 w4:=hS03.trans S4.st
  have hK04:Kept 0 none E w E4 w4:=(S12.kept.trans hK3).trans S4.kept
  obtain ⟨f,hf,fz⟩:=arrfv T4 s4
  have e9:=fz 9 _ w_9
  have e20:=fz 20 _ v20
  have hc':=fun T todo=>hc E4 w4 T todo hK04 hS04
  clear hc
  clear fz
  subst hf
  replace hc':=Lib.hid hc'
  rw [show lnT25=.seq xlnS25 .ret from ln_parts.2.2.2.2.2.2.2.2]
  change HGn Try.prog 0 F E4 w4 100 _
  simp only [xlnS25,lnS25,lnT25,lnT24,lnT7,lnT6,lnT5,lnT3,lnT2,lnT1,lnB,Try.f10,Option.getD_some,List.range,List.range.loop,List.map_cons,List.map_nil,e9,e20]
  refine Idl.q (idl_hg Try.prog 0 F E4 w4) (Idl.rg (idl_hg Try.prog 0 F E4 w4) [0,1,2,3,4] rfl ?_)
  iterate 5 (apply Idl.value (idl_hg Try.prog 0 F E4 w4) rfl rfl (by first | decide | exact base_kind _ | exact baseD_kind _ | assumption); (focus (intro w; go_simp; (try w_num); first | done | rfl)); (focus (intro w; simp [go_sem, *])); walk_nrm)
  refine Idl.re (idl_hg Try.prog 0 F E4 w4) (Idl.rt (idl_hg Try.prog 0 F E4 w4) ?_)
  exact hc'.out _ _ (by simp)
theorem lin_tail {n:Int} {ts:List (List Op3)} {picks:List Int} {drain:Bool} {ms:List Mk} {hs:List Int} {tv mv hv:Value} {B:Nat} {T:Array Value} (hsz:T.size=180)
    (t0:T[0]?=some (.int .i64 n)) (t1:T[1]?=some tv) (t9:T[9]?=some (.bool true)) (t10:T[10]?=some mv) (t11:T[11]?=some hv) (hT:OpsAt E w tv ts)
    (hrow:w.ownsRow B 37 4 mv ms.length (mksV ms)) (hrowH:∀ g,mv.ownBlock=some g→E.H g=none) (hheld:w.ownsRow B 2 1 hv hs.length (hs.map (Value.int .i64))) (hheldH:∀ g,hv.ownBlock=some g→E.H g=none)
    (hmany:(n < 1∨1048576 < n∨8 < ts.length)→ms=[]∧hs=[]) (hgame:¬ (n < 1∨1048576 < n∨8 < ts.length)→∃ a' k,(wordG n.toNat ts).Run picks drain (wa0 ts) (a',k)∧a'.ms=ms∧hs=(List.range n.toNat).map a'.vs)
    (hll:∀ l ∈ ts,l.length≤100000000000) (ho64:∀ l ∈ ts,∀ op ∈ l,I64 op.1∧I64 op.2.1∧I64 op.2.2)
    (hc:∀ E' w' T todo,Kept 0 none E w E' w'→Stands E w E' w'→T[8]?=some (.bool true)→HG Try.prog 0 F E' (G { (base 10).at ⟨T,[]⟩ todo with mode:=.returning } []) w') :
    HG Try.prog 0 F E (G ((base 10).at ⟨T,[]⟩ [.code lnT3]) []) w:=by
  obtain ⟨ta,ba,bo,cap,LA,LC,rfl,_,_⟩:=hT.at_
  obtain ⟨f,hf,fz⟩:=arrfv T hsz
  have e0:=fz 0 _ t0
  have e1:=fz 1 _ t1
  have e9:=fz 9 _ t9
  have e10:=fz 10 _ t10
  have e11:=fz 11 _ t11
  by_cases hr:n < 1∨1048576 < n∨8 < ts.length
  · obtain ⟨rfl,rfl⟩:=hmany hr
    obtain ⟨A,mcap,rfl⟩:=owns_slice hrow
    obtain ⟨aa,hcap,rfl,_⟩:=owns_form hheld
    have hc':=fun T todo=>hc E w T todo (.refl _ _ _ _) (fun b o h1 h2=>⟨h1,h2⟩)
    clear hc hgame hmany hT fz t0 t1 t9 t10 t11 hrow hheld
    subst hf
    replace hc':=Lib.hid hc'
    rw [show lnT3=.seq xlnS3 lnT5 from ln_parts.2.2.2.1]
    change HGn Try.prog 0 F E w 100 _
    generalize hG5:lnT5=G5
    simp only [xlnS3,lnS3,lnT3,lnT2,lnT1,lnB,Try.f10,Option.getD_some,List.range,List.range.loop,List.map_cons,List.map_nil,e0,e1,e9,e10,e11,List.length_nil]
    by_cases h1:n < 1
    · have d1:decide (n < 1)=true:=decide_eq_true h1
      clear hr
      refine Idl.q (idl_hg Try.prog 0 F E w) (Idl.q (idl_hg Try.prog 0 F E w) (Idl.rg (idl_hg Try.prog 0 F E w) [0,1,2,3,4,5,6,7,8,9,10] rfl ?_))
      iterate 3 (apply Idl.value (idl_hg Try.prog 0 F E w) rfl rfl (by first | decide | exact base_kind _ | exact baseD_kind _ | assumption); (focus (intro w; go_simp; (try w_num); first | done | rfl)); (focus (intro w; simp [go_sem, *])); walk_nrm)
      refine Idl.unwanted (idl_hg Try.prog 0 F E w) rfl rfl ?_
      walk_nrm
      refine Idl.unwanted (idl_hg Try.prog 0 F E w) rfl rfl ?_
      walk_nrm
      iterate 2 (apply Idl.value (idl_hg Try.prog 0 F E w) rfl rfl (by first | decide | exact base_kind _ | exact baseD_kind _ | assumption); (focus (intro w; go_simp; (try w_num); first | done | rfl)); (focus (intro w; simp [go_sem, *])); walk_nrm)
      refine Idl.unwanted (idl_hg Try.prog 0 F E w) rfl rfl ?_
      walk_nrm
      refine Idl.unwanted (idl_hg Try.prog 0 F E w) rfl rfl ?_
      walk_nrm
      refine Idl.unwanted (idl_hg Try.prog 0 F E w) rfl rfl ?_
      walk_nrm
      apply Idl.value (idl_hg Try.prog 0 F E w) rfl rfl (by first | decide | exact base_kind _ | exact baseD_kind _ | assumption)
      focus (intro w; go_simp; (try w_num); first | done | rfl)
      focus (intro w; simp [go_sem, *])
      walk_nrm
      refine Idl.re (idl_hg Try.prog 0 F E w) (Idl.ct (idl_hg Try.prog 0 F E w) rfl (Idl.q (idl_hg Try.prog 0 F E w) (Idl.rg (idl_hg Try.prog 0 F E w) [0,1,2,3,4,5,6,7,8,9,10,11] rfl ?_)))
      iterate 12 (apply Idl.value (idl_hg Try.prog 0 F E w) rfl rfl (by first | decide | exact base_kind _ | exact baseD_kind _ | assumption); (focus (intro w; go_simp; (try w_num); first | done | rfl)); (focus (intro w; simp [go_sem, *])); walk_nrm)
      refine Idl.re (idl_hg Try.prog 0 F E w) (Idl.rt (idl_hg Try.prog 0 F E w) ?_)
      exact hc'.out _ _ (by simp)
    · have d1:decide (n < 1)=false:=decide_eq_false h1
      by_cases h2:1048576 < n
      · have d2:decide (1048576 < n)=true:=decide_eq_true h2
        clear hr
        refine Idl.q (idl_hg Try.prog 0 F E w) (Idl.q (idl_hg Try.prog 0 F E w) (Idl.rg (idl_hg Try.prog 0 F E w) [0,1,2,3,4,5,6,7,8,9,10] rfl ?_))
        iterate 7 (apply Idl.value (idl_hg Try.prog 0 F E w) rfl rfl (by first | decide | exact base_kind _ | exact baseD_kind _ | assumption); (focus (intro w; go_simp; (try w_num); first | done | rfl)); (focus (intro w; simp [go_sem, *])); walk_nrm)
        refine Idl.unwanted (idl_hg Try.prog 0 F E w) rfl rfl ?_
        walk_nrm
        refine Idl.unwanted (idl_hg Try.prog 0 F E w) rfl rfl ?_
        walk_nrm
        refine Idl.unwanted (idl_hg Try.prog 0 F E w) rfl rfl ?_
        walk_nrm
        apply Idl.value (idl_hg Try.prog 0 F E w) rfl rfl (by first | decide | exact base_kind _ | exact baseD_kind _ | assumption)
        focus (intro w; go_simp; (try w_num); first | done | rfl)
        focus (intro w; simp [go_sem, *])
        walk_nrm
        refine Idl.re (idl_hg Try.prog 0 F E w) (Idl.ct (idl_hg Try.prog 0 F E w) rfl (Idl.q (idl_hg Try.prog 0 F E w) (Idl.rg (idl_hg Try.prog 0 F E w) [0,1,2,3,4,5,6,7,8,9,10,11] rfl ?_)))
        iterate 12 (apply Idl.value (idl_hg Try.prog 0 F E w) rfl rfl (by first | decide | exact base_kind _ | exact baseD_kind _ | assumption); (focus (intro w; go_simp; (try w_num); first | done | rfl)); (focus (intro w; simp [go_sem, *])); walk_nrm)
        refine Idl.re (idl_hg Try.prog 0 F E w) (Idl.rt (idl_hg Try.prog 0 F E w) ?_)
        exact hc'.out _ _ (by simp)
      · have d2:decide (1048576 < n)=false:=decide_eq_false h2
        have d3:decide ((8:Int) < (ts.length:Int))=true:=decide_eq_true (by omega)
        clear hr
        refine Idl.q (idl_hg Try.prog 0 F E w) (Idl.q (idl_hg Try.prog 0 F E w) (Idl.rg (idl_hg Try.prog 0 F E w) [0,1,2,3,4,5,6,7,8,9,10] rfl ?_))
        iterate 11 (apply Idl.value (idl_hg Try.prog 0 F E w) rfl rfl (by first | decide | exact base_kind _ | exact baseD_kind _ | assumption); (focus (intro w; go_simp; (try w_num); first | done | rfl)); (focus (intro w; simp [go_sem, *])); walk_nrm)
        refine Idl.re (idl_hg Try.prog 0 F E w) (Idl.ct (idl_hg Try.prog 0 F E w) rfl (Idl.q (idl_hg Try.prog 0 F E w) (Idl.rg (idl_hg Try.prog 0 F E w) [0,1,2,3,4,5,6,7,8,9,10,11] rfl ?_)))
        iterate 12 (apply Idl.value (idl_hg Try.prog 0 F E w) rfl rfl (by first | decide | exact base_kind _ | exact baseD_kind _ | assumption); (focus (intro w; go_simp; (try w_num); first | done | rfl)); (focus (intro w; simp [go_sem, *])); walk_nrm)
        refine Idl.re (idl_hg Try.prog 0 F E w) (Idl.rt (idl_hg Try.prog 0 F E w) ?_)
        exact hc'.out _ _ (by simp)
  · obtain ⟨a',k',hg,hms,hhs⟩:=hgame hr
    obtain ⟨m,rfl⟩:∃ m:Nat,n=(m:Int):=⟨n.toNat,by omega⟩
    rw [Int.toNat_natCast] at hg hhs
    have hN:ts.length≤8:=by omega
    have d1:decide ((m:Int) < 1)=false:=decide_eq_false (by omega)
    have d2:decide ((1048576:Int) < (m:Int))=false:=decide_eq_false (by omega)
    have d3:decide ((8:Int) < (ts.length:Int))=false:=decide_eq_false (by omega)
    have hgo:∀ T',T'.size=180→(∀ j,j < 12→T'[j]?=some (f j))→HG Try.prog 0 F E (G ((base 10).at ⟨T',[]⟩ [.code lnT5]) []) w:=fun T' a1 a2=>by
      have kk:∀ j,j < 12→T'[j]?=T[j]?:=fun j hj=>by rw [a2 j hj,hf,arrf_get f (by omega)]
      exact lin_t5 a1 ((kk 0 (by decide)).trans t0) ((kk 1 (by decide)).trans t1) ((kk 9 (by decide)).trans t9) ((kk 10 (by decide)).trans t10) ((kk 11 (by decide)).trans t11) hT hrow hrowH hheld hheldH hg hms hhs (by omega) (by omega) hN hll ho64 hc
    clear hc hgame hmany hT fz t0 t1 t9 t10 t11 hrow hheld hr hg hms hhs hrowH hheldH hll ho64
    subst hf
    replace hgo:=Lib.hid hgo
    rw [show lnT3=.seq xlnS3 lnT5 from ln_parts.2.2.2.1]
    change HGn Try.prog 0 F E w 100 _
    generalize hG5:lnT5=G5 at hgo ⊢
    simp only [xlnS3,lnS3,lnT3,lnT2,lnT1,lnB,Try.f10,Option.getD_some,List.range,List.range.loop,List.map_cons,List.map_nil,e0,e1,e9,e10,e11]
    refine Idl.q (idl_hg Try.prog 0 F E w) (Idl.q (idl_hg Try.prog 0 F E w) (Idl.rg (idl_hg Try.prog 0 F E w) [0,1,2,3,4,5,6,7,8,9,10] rfl ?_))
    iterate 11 (apply Idl.value (idl_hg Try.prog 0 F E w) rfl rfl (by first | decide | exact base_kind _ | exact baseD_kind _ | assumption); (focus (intro w; go_simp; (try w_num); first | done | rfl)); (focus (intro w; simp [go_sem, *])); walk_nrm)
    refine Idl.re (idl_hg Try.prog 0 F E w) (Idl.cf (idl_hg Try.prog 0 F E w) rfl (Idl.sk (idl_hg Try.prog 0 F E w) ?_))
    refine hgo.out _ (by simp) (fun j hj=>?_)
    match j,hj with
    | 0,_ | 1,_ | 2,_ | 3,_ | 4,_ | 5,_ | 6,_ | 7,_ | 8,_ | 9,_ | 10,_ | 11,_=>simp [e0,e1,e9,e10,e11]
    | q+12,hq=>exact absurd hq (by omega)
theorem wordLinear_walk {n:Int} {ts:List (List Op3)} {picks:List Int} {drain:Bool} {tv pv:Value} (hT:OpsAt E w tv ts) (hP:IntsAt E w pv picks)
    (hpl:picks.length≤1000000000000000) (hll:∀ l ∈ ts,l.length≤100000000000) (hp64:∀ p ∈ picks,-9223372036854775808≤p∧p≤9223372036854775807) (ho64:∀ l ∈ ts,∀ op ∈ l,I64 op.1∧I64 op.2.1∧I64 op.2.2) (hrole:E.role 0=.gone) (hmode:∀ b,E.mode b=0)
    (hc:∀ E' w' T todo,Kept 0 none E w E' w'→Stands E w E' w'→T[8]?=some (.bool true)→HG Try.prog 0 F E' (G { (base 10).at ⟨T,[]⟩ todo with mode:=.returning } []) w') :
    HGn Try.prog 0 F E w 100 (entry 10 Try.f10 #[.int .i64 n,tv,pv,.bool drain] []):=by
  unfold entry
  rw [show Try.f10.body.getD .skip=.seq xlnS0 (.seq xlnS1 (.seq lnS2 lnT3)) from ln_parts.1.trans (congrArg (fun z=>Code.seq lnS0 z) (ln_parts.2.1.trans (congrArg (fun z=>Code.seq lnS1 z) ln_parts.2.2.1))),show Try.f10.ntmps=180 from rfl]
  generalize hG2:lnS2=G2
  generalize hG3:lnT3=G3
  simp only [xlnS0,xlnS1,lnS0,lnS1,lnT1,lnB,Try.f10,Option.getD_some]
  walk_nrm
  refine Idl.q (idl_hg Try.prog 0 F E w) (Idl.rg (idl_hg Try.prog 0 F E w) [0] rfl ?_)
  apply Idl.value (idl_hg Try.prog 0 F E w) rfl rfl (by first | decide | exact base_kind _ | exact baseD_kind _ | assumption)
  focus (intro w; go_simp; (try w_num); first | done | rfl)
  focus (intro w; simp [go_sem, *])
  walk_nrm
  refine Idl.re (idl_hg Try.prog 0 F E w) (Idl.q (idl_hg Try.prog 0 F E w) (Idl.rg (idl_hg Try.prog 0 F E w) [0,1] rfl ?_))
  refine Idl.callE (fn:=Try.f27) (vs:=#[]) (idl_hg Try.prog 0 F E w) rfl rfl (by k_ne) rfl Try.func27 rfl rfl (by simp [Act.eval]) ?_
  refine fixed07_holds (fun E1 w1 hK1 hS1=>?_)
  have hT1:=hT.stands hS1
  have hP1:=hP.stands hS1
  have hrole1:E1.role 0=.gone:=hK1.le.roleH.trans hrole
  have hmode1:∀ b,E1.mode b=0:=fun b=>hK1.le.mode b (hmode b)
  change HGn Try.prog 0 F E1 w1 200 _
  walk_nrm
  apply Idl.value (idl_hg Try.prog 0 F E1 w1) rfl rfl (by first | decide | exact base_kind _ | exact baseD_kind _ | assumption)
  focus (intro w; go_simp; (try w_num); first | done | rfl)
  focus (intro w; simp [go_sem, *])
  walk_nrm
  refine Idl.re (idl_hg Try.prog 0 F E1 w1) (Idl.q (idl_hg Try.prog 0 F E1 w1) ?_)
  rw [← hG2,show lnS2=xlnS2 from rfl]
  simp only [xlnS2,lnS2,lnT2,lnT1,lnB,Try.f10,Option.getD_some]
  refine Idl.rg (idl_hg Try.prog 0 F E1 w1) [0,1,2,3,4,5,6,7,8,9] rfl ?_
  iterate 4 (apply Idl.value (idl_hg Try.prog 0 F E1 w1) rfl rfl (by first | decide | exact base_kind _ | exact baseD_kind _ | assumption); (focus (intro w; go_simp; (try w_num); first | done | rfl)); (focus (intro w; simp [go_sem, *])); walk_nrm)
  refine Idl.callE (fn:=Try.f45) (vs:=#[.int .i64 n,tv,pv,.bool drain]) (idl_hg Try.prog 0 F E1 w1) rfl rfl (by k_ne) rfl Try.func45 rfl rfl (by simp [Act.eval]) ?_
  refine word_holds hT1 hP1 hll hpl hp64 ho64 hrole1 hmode1 (fun E2 w2 mv hv ms hs po=>?_)
  change HGn Try.prog 0 F E2 w2 200 _
  walk_nrm
  iterate 5 (apply Idl.value (idl_hg Try.prog 0 F E2 w2) rfl rfl (by first | decide | exact base_kind _ | exact baseD_kind _ | assumption); (focus (intro w; go_simp; (try w_num); first | done | rfl)); (focus (intro w; simp [go_sem, *])); walk_nrm)
  refine Idl.re (idl_hg Try.prog 0 F E2 w2) ?_
  rw [← hG3]
  exact lin_tail (n:=n) (ts:=ts) (picks:=picks) (drain:=drain) (ms:=ms) (hs:=hs) (tv:=tv) (mv:=mv) (hv:=hv) (B:=w1.heap.size) (by simp) (by simp) (by simp) (by simp) (by simp) (by simp) (hT1.stands po.stands) po.row po.rowH po.held po.heldH po.many po.game hll ho64 (fun E' w' T todo k s=>hc E' w' T todo ((hK1.trans po.kept).trans k) ((hS1.trans po.stands).trans s))
end
end Go.Proofs.Ytimlbbleblijnaa.Co

namespace Go.Proofs.Ytimlbbleblijnaa.Co
open Go Go.Conc Go.RowKit
def StandsB (B:Nat) (E:Env) (w:World) (E':Env) (w':World):Prop:=∀ b o,b < B→E.H b=none→w.heap[b]?=some o→E'.H b=none∧w'.heap[b]?=some o
theorem StandsB.trans {B:Nat} {E E1 E2:Env} {w w1 w2:World} (a:StandsB B E w E1 w1) (b:StandsB B E1 w1 E2 w2):StandsB B E w E2 w2:=fun c o hb h1 h2=>by
  obtain ⟨x,y⟩:=a c o hb h1 h2
  exact b c o hb x y
structure LV (ops:List Op3) (A:Option Addr) (la lo cap lbb:Nat) (E:Env) (w:World):Prop where
  box:w.heap[lbb]?=some (.cells #[.slice A ops.length cap] 32)
  boxH:E.H lbb=none
  arr:0 < ops.length→A=some ⟨la,lo,none⟩
  ops:∀ (i:Nat) (op:Op3),ops[i]?=some op→w.cell? ⟨la,lo+i * 3,none⟩=some (.int .i64 op.1)∧w.cell? ⟨la,lo+i * 3+2,none⟩=some (.int .i64 op.2.2)∧E.H la=none
theorem LV.stands {ops:List Op3} {A:Option Addr} {la lo cap lbb:Nat} {E E':Env} {w w':World} (h:LV ops A la lo cap lbb E w) (S:Stands E w E' w'):LV ops A la lo cap lbb E' w':=by
  obtain ⟨b1,b2⟩:=S lbb _ h.boxH h.box
  refine ⟨b2,b1,h.arr,fun i op hi=>?_⟩
  obtain ⟨c1,c2,c3⟩:=h.ops i op hi
  have d1:=S.cell c1 c3
  have d2:=S.cell c2 c3
  exact ⟨d1.1,d2.1,d1.2⟩
section
variable {F:Machine→Trace→Prop} {E:Env} {w:World} {ops:List Op3} {A:Option Addr} {la lo cap lbb B:Nat}
end
end Go.Proofs.Ytimlbbleblijnaa.Co

namespace Go.Proofs.Ytimlbbleblijnaa.Co
open Go Go.Conc Go.RowKit Go.ChangeShapes Go.WideShapes Go.Deep
set_option maxRecDepth 100000
theorem bulk_one {H:Type} (d:DataW H):1≤Rows.uptoBulk d:=by
  cases d with
  | lit l=>cases l <;> simp [Rows.uptoBulk]
  | nil=>simp [Rows.uptoBulk]
  | ptr d=>simp [Rows.uptoBulk]
  | slice elems spare=>simp [Rows.uptoBulk]
  | agg parts=>simp [Rows.uptoBulk]
  | iface t d=>simp [Rows.uptoBulk]
  | map entries=>simp [Rows.uptoBulk]
  | held h=>simp [Rows.uptoBulk]
theorem bulk_many {H:Type}:∀ l:List (DataW H),l.length≤Rows.uptoBulkAll l
  | []=>by simp [Rows.uptoBulkAll]
  | x :: r=>by
    have h1:=bulk_one x
    have h2:=bulk_many r
    simp only [Rows.uptoBulkAll,List.length_cons]; omega
theorem bulk_mem {H:Type}:∀ {l:List (DataW H)} {x:DataW H},x ∈ l→Rows.uptoBulk x≤Rows.uptoBulkAll l
  | y :: r,x,h=>by
    simp only [Rows.uptoBulkAll]
    rcases List.mem_cons.1 h with rfl | h
    · omega
    · have:=bulk_mem h
      omega
theorem pick_list {α:Type} {p:Nat→α→Prop}:∀ n,(∀ i,i < n→∃ x,p i x)→∃ l:List α,l.length=n∧∀ i (h:i < l.length),p i l[i]
  | 0,_=>⟨[],rfl,fun i h=>absurd h (by simp)⟩
  | n+1,hp=>by
    obtain ⟨l,hl,h⟩:=pick_list n (fun i hi=>hp i (by omega))
    obtain ⟨x,hx⟩:=hp n (by omega)
    refine ⟨l ++ [x],by simp [hl],fun i hi=>?_⟩
    by_cases hi':i < l.length
    · rw [List.getElem_append_left hi']; exact h i hi'
    · have hi2:i=l.length:=by simp at hi; omega
      subst hi2
      simp [hl,hx]
theorem add_at (b o k:Nat):(⟨b,o,none⟩:Addr).add k=⟨b,o+k,none⟩:=by
  unfold Addr.add
  by_cases h:k=0
  · simp [h]
  · simp [h]
theorem vis_cell {W:World} {a:Addr} {v:Value} (h:W.cell? a=some v):(Env.zero W).H a.block=none:=by
  show H0 W a.block=none
  unfold H0
  unfold World.cell? at h
  cases e:W.heap[a.block]? with
  | none=>rfl
  | some o =>
    rw [e] at h
    cases o <;> first | rfl | (exfalso; simp at h)
section
variable {H:Type} {enc:TypeId × Value→H} {W:World} {base:Nat} {spare:Nat→Bool} {held:Bool}
theorem ints_open {m:Nat} {c:Value} {y:DataW H × List MemPlace} (h:DataW.trod enc Try.prog W base spare held m 23 [c]=some y) :
    ∃ ps:List Int,IntsAt (Env.zero W) W c ps∧ps.length≤Rows.uptoBulk y.1∧∀ p ∈ ps,-9223372036854775808≤p∧p≤9223372036854775807:=by
  rcases DataW.trod_slice Try.underlying23 h with ⟨hc,hy⟩ | ⟨a,len,cap,elems,rest,n,_,hc,hy,hb,hl,hm,hlen,hel,_,_⟩
  · obtain rfl:c=.slice none 0 0:=by simpa using hc
    exact ⟨[],⟨none,0,0,0,rfl,fun h=>absurd rfl h,fun i l hi=>by simp at hi⟩,Nat.zero_le _,fun l hl=>by cases hl⟩
  · obtain rfl:c=.slice (some a) len cap:=by simpa using hc
    have hC:Try.prog.cellsOf 3=1:=by kernel_rfl
    rw [hC] at hel
    have key:∀ i,i < len→∃ z:Int,W.cell? (a.add (i * 1))=some (.int .i64 z)∧-9223372036854775808≤z∧z≤9223372036854775807:=by
      intro i hi
      have he:=hel i hi
      rw [List.getElem?_eq_getElem (by omega)] at he
      simp only [Option.bind_eq_some_iff] at he
      obtain ⟨cs,hcs,ht⟩:=he
      have hcc:=World.cells?_some hcs
      have hl1:cs.length=1:=hcc.2.1
      match cs,hl1 with
      | [c0],_ =>
        obtain ⟨z,e0,z0,b0⟩:=DataW.trod_int (k:=.i64) (by kernel_rfl) ht
        obtain rfl:c0=.int .i64 z:=by simpa using e0
        have hbb:=bounds_i64 b0
        refine ⟨z,?_,by omega,by omega⟩
        have:=hcc.2.2 0 (by omega)
        simpa [Addr.add] using this
    obtain ⟨zs,hzl,hp⟩:=pick_list len key
    refine ⟨zs,⟨some a,a.block,a.off,cap,by rw [hzl],fun hn=>?_,fun i p hi=>?_⟩,?_,fun p hp'=>?_⟩
    · have h0:=(hp 0 (List.length_pos_iff.2 hn)).1
      have ha:a.add (0 * 1)=a:=by simp [Addr.add]
      rw [ha] at h0
      have hsp:=World.cell?_spot h0
      obtain ⟨ab,ao,at0⟩:=a
      simp only at hsp
      subst hsp
      rfl
    · have hi':i < zs.length:=(List.getElem?_eq_some_iff.1 hi).1
      have h0:=(hp 0 (by omega)).1
      have ha:a.add (0 * 1)=a:=by simp [Addr.add]
      rw [ha] at h0
      have hsp:=World.cell?_spot h0
      obtain ⟨ab,ao,at0⟩:=a
      simp only at hsp
      subst hsp
      obtain ⟨w1,_⟩:=hp i hi'
      rw [add_at,Nat.mul_one] at w1
      obtain ⟨_,rfl⟩:=List.getElem?_eq_some_iff.1 hi
      have hv:=vis_cell w1
      exact ⟨w1,hv⟩
    · rw [hzl]
      have h1:=bulk_many (elems.map (·.1))
      rw [hy]
      simp only [Rows.uptoBulk]
      rw [List.length_map] at h1
      omega
    · obtain ⟨i,hi,rfl⟩:=List.mem_iff_getElem.1 hp'
      exact (hp i hi).2
end
end Go.Proofs.Ytimlbbleblijnaa.Co

namespace Go.Proofs.Ytimlbbleblijnaa.Co
open Go Go.Conc Go.RowKit Go.ChangeShapes Go.WideShapes Go.Deep
set_option maxRecDepth 100000
section
variable {H:Type} {enc:TypeId × Value→H} {W:World} {base:Nat} {spare:Nat→Bool} {held:Bool}
theorem one_op3 {m:Nat} {cs:List Value} {y:DataW H × List MemPlace} (h:DataW.trod enc Try.prog W base spare held m 34 cs=some y):∃ x:Op3,cs=[.int .i64 x.1,.int .i64 x.2.1,.int .i64 x.2.2]∧I64 x.1∧I64 x.2.1∧I64 x.2.2:=by
  obtain ⟨y0,y1,y2,n,hy,hl,h0,h1,h2⟩:=trod_struct3 Try.underlying34 h
  have hl2:cs.length=3:=hl.trans (by kernel_rfl)
  match cs,hl2 with
  | [c0,c1,c2],_ =>
    obtain ⟨a,e0,z0,b0⟩:=DataW.trod_int (k:=.i64) (by kernel_rfl) (show DataW.trod enc Try.prog W base spare held n _ [c0]=some y0 from h0)
    obtain ⟨b,e1,z1,b1⟩:=DataW.trod_int (k:=.i64) (by kernel_rfl) (show DataW.trod enc Try.prog W base spare held n _ [c1]=some y1 from h1)
    obtain ⟨c,e2,z2,b2⟩:=DataW.trod_int (k:=.i64) (by kernel_rfl) (show DataW.trod enc Try.prog W base spare held n _ [c2]=some y2 from h2)
    obtain rfl:c0=.int .i64 a:=by simpa using e0
    obtain rfl:c1=.int .i64 b:=by simpa using e1
    obtain rfl:c2=.int .i64 c:=by simpa using e2
    have q0:=bounds_i64 b0
    have q1:=bounds_i64 b1
    have q2:=bounds_i64 b2
    exact ⟨(a,b,c),rfl,⟨by dsimp only; omega,by dsimp only; omega⟩,⟨by dsimp only; omega,by dsimp only; omega⟩,⟨by dsimp only; omega,by dsimp only; omega⟩⟩
theorem ops_open3 {m:Nat} {c:Value} {y:DataW H × List MemPlace} (h:DataW.trod enc Try.prog W base spare held m 32 [c]=some y) :
    ∃ (A:Option Addr) (cap:Nat) (l:List Op3),c=.slice A l.length cap∧l.length≤Rows.uptoBulk y.1∧(∀ (j:Nat) (x:Op3),l[j]?=some x→I64 x.1∧I64 x.2.1∧I64 x.2.2)∧(l≠[]→∃ la lo,A=some ⟨la,lo,none⟩∧∀ j op,l[j]?=some op →
      W.cell? ⟨la,lo+j * 3,none⟩=some (.int .i64 op.1)∧W.cell? ⟨la,lo+j * 3+1,none⟩=some (.int .i64 op.2.1)∧W.cell? ⟨la,lo+j * 3+2,none⟩=some (.int .i64 op.2.2)):=by
  rcases DataW.trod_slice Try.underlying32 h with ⟨hc,hy⟩ | ⟨a,len,cap,elems,rest,n,_,hc,hy,hb,hl,hm,hlen,hel,_,_⟩
  · obtain rfl:c=.slice none 0 0:=by simpa using hc
    exact ⟨none,0,[],rfl,Nat.zero_le _,fun j x h=>by simp at h,fun h=>absurd rfl h⟩
  · obtain rfl:c=.slice (some a) len cap:=by simpa using hc
    have hC:Try.prog.cellsOf 34=3:=by kernel_rfl
    rw [hC] at hel
    have key:∀ i,i < len→∃ x:Op3,W.cell? (a.add (i * 3))=some (.int .i64 x.1)∧W.cell? ((a.add (i * 3)).add 1)=some (.int .i64 x.2.1)∧W.cell? ((a.add (i * 3)).add 2)=some (.int .i64 x.2.2)∧I64 x.1∧I64 x.2.1∧I64 x.2.2:=by
      intro i hi
      have he:=hel i hi
      rw [List.getElem?_eq_getElem (by omega)] at he
      simp only [Option.bind_eq_some_iff] at he
      obtain ⟨cs,hcs,ht⟩:=he
      obtain ⟨x,rfl,hxr⟩:=one_op3 ht
      have hcc:=(World.cells?_some hcs).2.2
      refine ⟨x,?_,hcc 1 (by omega),hcc 2 (by omega),hxr⟩
      have:=hcc 0 (by omega)
      simpa [Addr.add] using this
    obtain ⟨l,hll,hp⟩:=pick_list len key
    refine ⟨some a,cap,l,by rw [hll],?_,fun j x hx=>(by
      obtain ⟨hi,rfl⟩:=List.getElem?_eq_some_iff.1 hx
      exact (hp j hi).2.2.2),fun hne=>?_⟩
    · have h1:=bulk_many (elems.map (·.1))
      rw [hy]
      simp only [Rows.uptoBulk]
      rw [List.length_map] at h1
      omega
    · have hn:0 < l.length:=List.length_pos_iff.2 hne
      have h0:=(hp 0 hn).1
      have ha:a.add (0 * 3)=a:=by simp [Addr.add]
      rw [ha] at h0
      have hsp:=World.cell?_spot h0
      obtain ⟨ab,ao,at0⟩:=a
      simp only at hsp
      subst hsp
      refine ⟨ab,ao,rfl,fun i x hx=>?_⟩
      obtain ⟨hi,rfl⟩:=List.getElem?_eq_some_iff.1 hx
      obtain ⟨w1,w2,w3,_⟩:=hp i hi
      rw [add_at] at w1 w2 w3
      rw [add_at] at w2 w3
      exact ⟨w1,w2,w3⟩
theorem threads_open3 {m:Nat} {c:Value} {y:DataW H × List MemPlace} (h:DataW.trod enc Try.prog W base spare held m 22 [c]=some y) :
    ∃ ts:List (List Op3),OpsAt (Env.zero W) W c ts∧ts.length≤Rows.uptoBulk y.1∧(∀ l ∈ ts,l.length≤Rows.uptoBulk y.1)∧∀ l ∈ ts,∀ x ∈ l,I64 x.1∧I64 x.2.1∧I64 x.2.2:=by
  rcases DataW.trod_slice Try.underlying22 h with ⟨hc,hy⟩ | ⟨a,len,cap,elems,rest,n,_,hc,hy,hb,hl,hm,hlen,hel,_,_⟩
  · obtain rfl:c=.slice none 0 0:=by simpa using hc
    exact ⟨[],⟨none,0,0,0,fun _=>none,fun _=>0,rfl,fun h=>absurd h (by simp),fun i l hi=>by simp at hi⟩,Nat.zero_le _,(fun l hl=>by cases hl),fun l hl=>by cases hl⟩
  · obtain rfl:c=.slice (some a) len cap:=by simpa using hc
    have hC:Try.prog.cellsOf 32=1:=by kernel_rfl
    rw [hC] at hel
    have key:∀ i,i < len→∃ z:Option Addr × Nat × List Op3,W.cell? (a.add (i * 1))=some (.slice z.1 z.2.2.length z.2.1)∧z.2.2.length≤Rows.uptoBulk y.1∧(∀ (j:Nat) (x:Op3),z.2.2[j]?=some x→I64 x.1∧I64 x.2.1∧I64 x.2.2)∧(z.2.2≠[]→∃ la lo,z.1=some ⟨la,lo,none⟩∧∀ j op,z.2.2[j]?=some op →
        W.cell? ⟨la,lo+j * 3,none⟩=some (.int .i64 op.1)∧W.cell? ⟨la,lo+j * 3+1,none⟩=some (.int .i64 op.2.1)∧W.cell? ⟨la,lo+j * 3+2,none⟩=some (.int .i64 op.2.2)):=by
      intro i hi
      have he:=hel i hi
      rw [List.getElem?_eq_getElem (by omega)] at he
      simp only [Option.bind_eq_some_iff] at he
      obtain ⟨cs,hcs,ht⟩:=he
      have hcc:=World.cells?_some hcs
      have hl1:cs.length=1:=hcc.2.1
      match cs,hl1 with
      | [c0],_ =>
        obtain ⟨A,cap',l,rfl,hb',hrg,hops⟩:=ops_open3 ht
        refine ⟨(A,cap',l),?_,?_,hrg,hops⟩
        · have:=hcc.2.2 0 (by omega)
          simpa [Addr.add] using this
        · have h1:=bulk_mem (l:=elems.map (·.1)) (x:=elems[i].1) (List.mem_map.2 ⟨elems[i],List.getElem_mem _,rfl⟩)
          rw [hy]
          simp only [Rows.uptoBulk]
          omega
    obtain ⟨zs,hzl,hp⟩:=pick_list len key
    have hlen2:(zs.map (·.2.2)).length=len:=by rw [List.length_map,hzl]
    refine ⟨zs.map (·.2.2),⟨some a,a.block,a.off,cap,fun i=>(zs.getD i (none,0,[])).1,fun i=>(zs.getD i (none,0,[])).2.1,by rw [hlen2],fun hn=>?_,fun i l hi=>?_⟩,?_,fun l hl'=>?_,fun l hl' x hx=>?_⟩
    · rw [hlen2] at hn
      have h0:=(hp 0 (by omega)).1
      have ha:a.add (0 * 1)=a:=by simp [Addr.add]
      rw [ha] at h0
      have hsp:=World.cell?_spot h0
      obtain ⟨ab,ao,at0⟩:=a
      simp only at hsp
      subst hsp
      rfl
    · have hi':i < zs.length:=by have:=(List.getElem?_eq_some_iff.1 hi).1; simpa using this
      have h0:=(hp 0 (by omega)).1
      have ha:a.add (0 * 1)=a:=by simp [Addr.add]
      rw [ha] at h0
      have hsp:=World.cell?_spot h0
      obtain ⟨ab,ao,at0⟩:=a
      simp only at hsp
      subst hsp
      obtain ⟨w1,w2,_,w3⟩:=hp i hi'
      rw [add_at,Nat.mul_one] at w1
      have hz:zs.getD i (none,0,[])=zs[i]:=by simp [List.getD,List.getElem?_eq_getElem hi']
      have hl:l=zs[i].2.2:=by
        rw [List.getElem?_map,List.getElem?_eq_getElem hi'] at hi
        exact (Option.some.inj hi).symm
      dsimp only
      rw [hz,hl]
      have hv:=vis_cell w1
      refine ⟨⟨w1,hv⟩,fun hne=>?_⟩
      obtain ⟨la,lo,e1,e2⟩:=w3 hne
      refine ⟨la,lo,e1,?_,e2⟩
      cases hzz:zs[i].2.2 with
      | nil=>exact absurd hzz hne
      | cons op r=>exact vis_cell (e2 0 op (by rw [hzz]; rfl)).1
    · rw [hlen2]
      have h1:=bulk_many (elems.map (·.1))
      rw [hy]
      simp only [Rows.uptoBulk]
      rw [List.length_map] at h1
      omega
    · obtain ⟨z,hz,rfl⟩:=List.mem_map.1 hl'
      obtain ⟨i,hi,rfl⟩:=List.mem_iff_getElem.1 hz
      exact (hp i hi).2.1
    · obtain ⟨z,hz,rfl⟩:=List.mem_map.1 hl'
      obtain ⟨i,hi,rfl⟩:=List.mem_iff_getElem.1 hz
      obtain ⟨j,hj⟩:=List.mem_iff_getElem?.1 hx
      exact (hp i hi).2.2.1 j x hj
end
end Go.Proofs.Ytimlbbleblijnaa.Co

namespace Go.Proofs.Ytimlbbleblijnaa.Co
open Go Go.Conc Go.RowKit Go.ChangeShapes
section
variable {H:Type} {enc:TypeId × Value→H}
theorem leaving_of_cond {a:Assume} {C:Checked} {os:Os} {f:FuncId} {fn:Func} {s:OpenSpec} {k:(H:Type)→List (DataW H)→Bool} (hk:s.cond=some k) {F:Stop.Interp} {conds:List PathCond} {apart fresh handsOn again:Bool}
    (own:ownKnob C.prog.godebug=none) (started:os.Started) (hfn:C.prog.funcs[f]?=some fn)
    (witness:∃ (w:World) (tape:Tape) (i:Input),w.os=os∧(w.forCall tape i).Shaped C.prog∧i.vars=[]∧Input.okWide C.prog (w.forCall tape i) .any w.heap.size f i ∧
      s.pre6 enc C.prog fn conds apart (w.forCall tape i).memory i.args∧a.holds C.prog (lone (Frame.enter C.prog f i.args .normal) [] (w.forCall tape i)))
    (runs:∀ (W:World) (base:Nat) (args:Array Value) (ds gs:List (DataW H)) (before:List MemPlace),
      (∀ (j:Nat) t v,fn.params[j]?=some t→args[j]?=some v→Value.okWide C.prog W .any base t v) →
      DataW.Whole enc C.prog fn.params.toList s.vars apart W args.toList ds gs before→k H (ds ++ gs)=true →
      (DataW.weightsEach C.prog (fn.params.toList ++ s.bare.plain.varTypes C.prog) (ds ++ gs)).all (·≤reachBytes)=true →
      ∃ M last o w' t',runNT C.prog (M+1) (solo (G (Frame.enter C.prog f args .normal) []) W) #[]=(.ended o w',t')∧runN C.prog M (solo (G (Frame.enter C.prog f args .normal) []) W)=.next last ∧
        step C.prog last=.ended o w'∧Go.Conc.Good C.prog (fun v W'=>(s.at F).post enc C.prog fn apart fresh handsOn again W args v W') last o w' t') :
    ReturnsInLeavingWide a C os f .any (s.pre6 enc C.prog fn conds apart) ((s.at F).post enc C.prog fn apart fresh handsOn again):=by
  refine returnsInLeavingWide_of_good own started witness ?_
  intro w tape i _ _ _ hok hpre hholds
  obtain ⟨_,_,_,fn',hfn',_,_,_,_,hval⟩:=hok
  obtain rfl:fn'=fn:=Option.some.inj (hfn'.symm.trans hfn)
  obtain ⟨ds,gs,before,hw,_,hkk⟩:=(OpenSpec.pre_some hk conds apart _ _).1 hpre.1
  obtain ⟨M,last,o,w',t',h1,h2,h3,h4⟩:=runs (w.forCall tape i) w.heap.size i.args ds gs before hval (DataW.Whole.of_heap (w':=w.forCall tape i) (by rfl) hw) hkk (hpre.2.weights hw)
  exact ⟨M,last,o,w',t',h1,h2,h3,h4.mono fun v hp=>ChangeSpec.post_blind hp⟩
end
theorem holds_leaving {p:Pinned} {s:OpenSpec} {c:OpenClaim} (f:FuncId) (fn:Func)
    (hn:c.program=p.name) (hs:c.sum=p.sum) (hsp:c.spec=s.name)
    (hstart:c.start=.entering) (hout:c.outside=[]) (hin:c.inits=[]) (hun:c.under=none) (hi4:c.initsInPlace=[]∧c.initsUnfollowed=false∧c.initsRecurse=false∧c.initsNamed=[]∧c.initsPassed=[]) (hnb:c.noBlocks=false) (hlv:c.leaving=true) (hfo:c.followed=none) (hnar:c.narrowed=s.cond.isSome) (hstill:c.still=false)
    (hfn:p.checked.prog.funcNamed c.func=some f) (hf:p.checked.prog.funcs[f]?=some fn)
    (closed:joinedFacts p.checked.prog f fn s.bare c=true)
    (hinst:fn.isInstance p.checked.prog c.origin c.targs) (hwrap:fn.isWrapper p.checked.prog c.wrapper c.mainSum)
    (h:∀ os:Os,os.Started→∀ (H:Type) (enc:TypeId × Value→H),(∀ a b,enc a=enc b→a=b)→∀ F:Stop.Interp,
      ReturnsInLeavingWide c.assume p.checked os f .any (c.pre enc p.checked.prog fn s) ((s.at F).post enc p.checked.prog fn c.apart c.fresh c.handsOn c.again)):c.holds p s:=by
  simp only [joinedFacts,Bool.and_eq_true,beq_iff_eq,Array.all_eq_true_iff_forall_mem,List.all_eq_true,decide_eq_true_eq] at closed
  obtain ⟨⟨⟨⟨⟨⟨⟨⟨⟨⟨⟨⟨⟨⟨⟨⟨⟨⟨⟨⟨⟨⟨⟨⟨⟨⟨⟨⟨⟨⟨⟨k1,k2⟩,k3⟩,k4⟩,k5⟩,k6⟩,k7⟩,k8⟩,k9⟩,k10⟩,k11⟩,k12⟩,k13⟩,k14⟩,k15⟩,k16⟩,k17⟩,k17b⟩,k18⟩,k19⟩,k20⟩,k21⟩,k22⟩,k23⟩,k23b⟩,k24⟩,k24b⟩,k24c⟩,k25⟩,k26⟩,k27⟩,k28⟩:=closed
  have hq:∀ os:Os,Stop.quiet p.checked.prog os:=fun os k hk=>by rw [k9] at hk; cases hk
  refine ⟨k1,hn,hs,hsp,k2,k3,by unfold OpenClaim.startFits; rw [hstart]; exact k24,by unfold OpenClaim.startTold; rw [hstart]; exact ⟨hin,hun,hi4⟩,f,fn,hfn,hf,⟨k4,k19⟩,(fun hb=>by rw [hnb] at hb; cases hb),by unfold OpenClaim.namedList; rw [hfo]; exact k5,hinst,hwrap,
    k6.trans k7.symm,⟨k8.trans k9.symm,by unfold Program.envWorded; rw [k9]; rfl,k23b⟩,k10,k11,k12,k13,k14,⟨k15,k27,k28⟩,⟨k16,k20⟩,⟨k17,k21,k25,k26⟩,⟨k22,k24b,k24c,k17b⟩,(by rw [hout,hnar]; cases hsh:c.shortTexts with | none=>simp | some _=>rw [hsh] at k23; cases k23),fun n hn'=>varReadable_some (k18 n hn'),
    ⟨_,by unfold OpenClaim.world; rw [hout,hstart]; exact WideRow.started_initial,hq _⟩,[],by unfold OpenClaim.lists; rw [hfo],fun os st _ H enc inj=>?_⟩
  have st':os.Started:=by unfold OpenClaim.world at st; rw [hout,hstart] at st; exact st
  rw [OpenClaim.post_not_still hstill]
  unfold OpenClaim.form
  rw [hstart,k6]
  intro F
  have e1:c.okInput=Input.okWide:=by unfold OpenClaim.okInput; rw [hnb]
  have e2:c.atReturn p.checked.prog=leavingAtReturn p.checked.prog:=by unfold OpenClaim.atReturn; rw [hlv]
  have e3:c.always p.checked.prog []=nothingAlways:=by unfold OpenClaim.always; rw [hfo]
  have e4:s.post enc p.checked.prog fn F c.outside c.apart c.fresh c.handsOn c.again=(s.at F).post enc p.checked.prog fn c.apart c.fresh c.handsOn c.again:=by rw [hout]; rfl
  rw [e1,e2,e3]
  show ReturnsInOpen _ _ _ _ _ _ _ _ (s.post enc p.checked.prog fn F c.outside c.apart c.fresh c.handsOn c.again) _ _
  rw [e4]
  exact h os st' H enc inj F k24
end Go.Proofs.Ytimlbbleblijnaa.Co
