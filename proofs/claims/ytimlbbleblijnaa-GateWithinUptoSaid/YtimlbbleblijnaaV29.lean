/- Lemmas for the laws of this seat, laid together of PWh, PWi, PWj, PWk, PGdg. -/
import Derived.Test.YtimlbbleblijnaaV26
import Derived.Test.YtimlbbleblijnaaV28
import Derived.Deep.CondSized

open Go.ConcR.Gen (base_kind baseD_kind)
set_option linter.unusedVariables false
set_option linter.unusedSimpArgs false
set_option maxRecDepth 100000
set_option maxHeartbeats 4000000
namespace Go.Proofs.Ytimlbbleblijnaa.Co
open Go Go.Conc Go.RowKit
open Go.ConcN (sumTo upd sumTo_upd upd_ne upd_same sumTo_congr le_sumTo)
structure StW (E0:Env) (w0:World) (E:Env) (w:World) (T:Array Value) (ts its:List (List Int)) (drain:Bool) (z1 z2:RA × Int) (tv1 tv2 pv wv ov1 ov2 lv:Value) (C TB:Nat→Nat) (bb B:Nat):Prop where
  sz:T.size=74
  t2:T[2]?=some pv
  t9:T[9]?=some (.pointer (some ⟨C 7,0,none⟩))
  t11:T[11]?=some (.bool true)
  t12:T[12]?=some ov1
  t13:T[13]?=some (.int .i64 (rK ts z1))
  t16:T[16]?=some (.pointer (some ⟨C 3,0,none⟩))
  t17:T[17]?=some (.pointer (some ⟨C 9,0,none⟩))
  t19:T[19]?=some lv
  kept:Kept 0 none E0 w0 E w
  st:Stands E0 w0 E w
  c1:w.cell? ⟨C 1,0,none⟩=some tv1∧E.H (C 1)=none
  c3:w.cell? ⟨C 3,0,none⟩=some (.pointer (some ⟨bb,0,none⟩))∧E.H (C 3)=none
  c4:E.H (C 4)=none∧w.heap[C 4]?=some (.cells #[.int .i64 0] 3)
  c5:w.cell? ⟨C 5,0,none⟩=some tv2∧E.H (C 5)=none
  c6:w.cell? ⟨C 6,0,none⟩=some wv∧E.H (C 6)=none
  c7:w.cell? ⟨C 7,0,none⟩=some (.bool drain)∧E.H (C 7)=none
  c8:w.cell? ⟨C 8,0,none⟩=some ov2∧E.H (C 8)=none
  c9:E.H (C 9)=none∧w.heap[C 9]?=some (.cells #[.bool true] 4)
  c10:w.cell? ⟨C 10,0,none⟩=some (.int .i64 (rK its z2))∧E.H (C 10)=none
  cb:E.H bb=none∧w.heap[bb]?=some (.cells #[.slice none 0 0] 63)
  o1:TldV E w ov1 (rTl ts z1)
  o2:TldV E w ov2 (rTl its z2)
  row:w.ownsRow B 52 1 lv ts.length ((List.range ts.length).map (bvW C TB))
  rowH:∀ g,lv.ownBlock=some g→E.H g=none
  box:∀ i,i < ts.length→w.cell? ⟨TB i,0,none⟩=some (.int .i64 (i:Int))∧E.H (TB i)=none∧B≤TB i
  l:w0.heap.size≤C 1∧C 1 < bb∧C 5 < bb∧C 6 < bb∧C 7 < bb∧C 8 < bb∧C 10 < bb∧bb < C 3∧C 3 < C 9∧C 9 < C 4∧C 4 < B
  lo1:∀ g,ov1.ownBlock=some g→g < bb
  lo2:∀ g,ov2.ownBlock=some g→g < bb
section
variable {F:Machine→Trace→Prop} {E:Env} {w:World} {k:List Item}
theorem newb {fr:Frame} {cs:List Frame} {c:Code} {T:Array Value} (hq:quietCode Try.prog (fun _=>false) c=true) (hk:fr.kind=.normal) (hs:T.size=74) (d:Nat) (o:Obj) (val:Nat→Value)
    (hwp:∀ (f:Nat→Value) (x:World) (Q:Exit→Act→World→Prop),(∀ T' x',T'.size=74→(∀ j,j < 23→j≠d→T'[j]?=some (f j))→T'[d]?=some (val x.heap.size)→x'=x.alloc o→Q .normal ⟨T',[]⟩ x')→c.wp Try.prog Q ⟨(List.map f (List.range 74)).toArray,[]⟩ x)
    (hc:∀ E1 w1 T',Kept 0 none E w E1 w1→Stands E w E1 w1→T'.size=74→(∀ j,j < 23→j≠d→T'[j]?=T[j]?)→T'[d]?=some (val w.heap.size)→w1.heap[w.heap.size]?=some o→(∀ b,w.heap.size≤b→E1.H b=none)→HG Try.prog 0 F E1 (G (fr.at ⟨T',[]⟩ k) cs) w1) :
    HG Try.prog 0 F E (G (fr.at ⟨T,[]⟩ (.code c :: k)) cs) w:=by
  obtain ⟨f,hf,fz⟩:=arrfv T hs
  refine HG.fstep (closed_none _) hq hk (R:=fun T' x x'=>T'.size=74∧(∀ j,j < 23→j≠d→T'[j]?=T[j]?)∧T'[d]?=some (val x.heap.size)∧x'=x.alloc o) (fun x hxs hx=>?_) (fun E1 w1 T1 x x' hK1 hH1 hxs hx hx' hB1 hS1 hR=>?_)
  · rw [hf]
    refine hwp f x _ (fun T' x' a1 a2 a3 a4=>⟨rfl,rfl,fun b hb=>by rw [a4]; exact alloc_old hb,a1,fun j hj hj2=>?_,a3,a4⟩)
    rw [a2 j hj hj2,arrf_get f (by omega)]
  · obtain ⟨h1,h2,h3,rfl⟩:=hR
    rw [hxs] at h3
    refine hc E1 w1 T1 hK1 hS1 h1 h2 h3 ?_ (fun b hb=>by rw [hH1]; exact hB1 b hb)
    rw [← hxs,hx' _ (hB1 _ (by omega))]
    exact alloc_new
noncomputable def xyS1:Code:=yS1
theorem yp1 {T:Array Value} (hs:T.size=74) (hrole:E.role 0=.gone) (hmode:∀ b,E.mode b=0)
    (hc:∀ E1 w1 T',Kept 0 none E w E1 w1→Stands E w E1 w1→T'.size=74→(∀ j,j < 11→T'[j]?=T[j]?)→T'[11]?=some (.bool true)→HG Try.prog 0 F E1 (G ((base 8).at ⟨T',[]⟩ k) []) w1) :
    HG Try.prog 0 F E (G ((base 8).at ⟨T,[]⟩ (.code yS1 :: k)) []) w:=by
  obtain ⟨f,hf,fz⟩:=arrfv T hs
  rw [hf]
  change HGn Try.prog 0 F E w 100 _
  rw [show yS1=xyS1 from rfl]
  simp only [xyS1,yS1,yT1,yT0,Try.f8,Option.getD_some,List.range,List.range.loop,List.map_cons,List.map_nil]
  replace hf:=Lib.hid hf
  replace hc:=Lib.hid hc
  clear fz hs
  refine Idl.rg (idl_hg Try.prog 0 F E w) [0,1] rfl ?_
  refine Idl.callE (fn:=Try.f17) (vs:=#[]) (idl_hg Try.prog 0 F E w) rfl rfl (by k_ne) rfl Try.func17 rfl rfl (by simp [Act.eval]) ?_
  refine fixed06_holds hrole hmode (fun E1 w1 hK1 hS1=>?_)
  change HGn Try.prog 0 F E1 w1 200 _
  walk_nrm
  apply Idl.value (idl_hg Try.prog 0 F E1 w1) rfl rfl (by first | decide | exact base_kind _ | exact baseD_kind _ | assumption)
  focus (intro w; go_simp; (try w_num); first | done | rfl)
  focus (intro w; simp [go_sem, *])
  walk_nrm
  refine Idl.re (idl_hg Try.prog 0 F E1 w1) ?_
  refine hc.out E1 w1 _ hK1 hS1 (by simp) (fun j hj=>?_) (by simp)
  rw [hf.out,arrf_get f (by omega)]
  match j,hj with
  | 0,_ | 1,_ | 2,_ | 3,_ | 4,_ | 5,_ | 6,_ | 7,_ | 8,_ | 9,_ | 10,_=>simp
  | j+11,h=>exact absurd h (by omega)
theorem within_a {T:Array Value} {ts its:List (List Int)} {picks within:List Int} {drain:Bool} {z1 z2:RA × Int} {pv wv:Value} {ta1 ta2 A3:Option Addr} {b1 o1 cap1 b2 o2 cap2 l3 cap3:Nat} {LA1 LA2:Nat→Option Addr} {LC1 LC2:Nat→Nat} (hs:T.size=74) (t0:T[0]?=some (.slice ta1 ts.length cap1)) (t1:T[1]?=some (.slice ta2 its.length cap2)) (t2:T[2]?=some pv) (t3:T[3]?=some (.slice A3 l3 cap3)) (t4:T[4]?=some (.bool drain)) (hwv:wv=.slice A3 l3 cap3)
    (hT1:IntssL E w ta1 b1 o1 LA1 LC1 ts) (hT2:IntssL E w ta2 b2 o2 LA2 LC2 its) (hI1:IntsAt E w pv picks) (hI2:IntsAt E w wv within) (hz1:(runG ts).Run picks drain (ra0 ts ts.length) z1) (hz2:(runG its).Run within drain (ra0 its its.length) z2)
    (hn1:ts.length≤1000000000000) (hn2:its.length≤1000000000000) (hl1:∀ l ∈ ts,l.length≤10000000000) (hl2:∀ l ∈ its,l.length≤10000000000) (hp1:picks.length≤10000000000) (hp2:within.length≤10000000000) (h641:∀ p ∈ picks,-9223372036854775808≤p∧p≤9223372036854775807) (h642:∀ p ∈ within,-9223372036854775808≤p∧p≤9223372036854775807) (hrole:E.role 0=.gone) (hmode:∀ b,E.mode b=0)
    (hc:∀ E' w' T' ov1 ov2 lv C TB bb B,StW E w E' w' T' ts its drain z1 z2 (.slice ta1 ts.length cap1) (.slice ta2 its.length cap2) pv wv ov1 ov2 lv C TB bb B→HG Try.prog 0 F E' (G ((base 8).at ⟨T',[]⟩ [.code yT9]) []) w') :
    HG Try.prog 0 F E (G ((base 8).at ⟨T,[]⟩ [.code yT0]) []) w:=by
  have hl1':∀ l ∈ ts,l.length≤100000000000:=fun l h=>Nat.le_trans (hl1 l h) (by decide)
  have hl2':∀ l ∈ its,l.length≤100000000000:=fun l h=>Nat.le_trans (hl2 l h) (by decide)
  subst hwv
  obtain ⟨f,hf,fz⟩:=arrfv T hs
  rw [yT0_parts]
  change HGn Try.prog 0 F E w 100 _
  refine Idl.step (idl_hg Try.prog 0 F E w) _ _ _ rfl (fun _=>stepG_seq) ?_
  refine HG.fstep (closed_none _) (by kernel_rfl) (by rfl) (R:=fun T' x x'=>T'.size=74∧(∀ j,j < 5→T'[j]?=T[j]?)∧T'[5]?=some (.pointer (some ⟨x.heap.size,0,none⟩))∧T'[6]?=some (.pointer (some ⟨x.heap.size+1,0,none⟩))∧T'[8]?=some (.pointer (some ⟨x.heap.size+2,0,none⟩))∧T'[9]?=some (.pointer (some ⟨x.heap.size+3,0,none⟩))∧x'=(((x.alloc (.cells #[.slice ta1 ts.length cap1] 57)).alloc (.cells #[.slice ta2 its.length cap2] 57)).alloc (.cells #[.slice A3 l3 cap3] 23)).alloc (.cells #[.bool drain] 4)) (fun x hxs hx=>?_) (fun E1 w1 T1 x x' hK1 hH1 hxs hx hx' hB1 hS1 hR=>?_)
  · rw [hf]
    refine yS0_wp (fz 0 _ t0) (fz 1 _ t1) (fz 3 _ t3) (fz 4 _ t4) (fun T' x' a1 a2 a3 a4 a5 a6 a7=>⟨rfl,rfl,fun b hb=>?_,a1,fun j hj=>?_,a3,a4,a5,a6,a7⟩)
    · rw [a7,alloc_old (b:=b) (by rw [alloc_size,alloc_size,alloc_size]; omega),alloc_old (b:=b) (by rw [alloc_size,alloc_size]; omega),alloc_old (b:=b) (by rw [alloc_size]; omega),alloc_old hb]
    · rw [a2 j (by omega) (by omega) (by omega) (by omega) (by omega) (by omega),arrf_get f (by omega)]
  obtain ⟨s1,p1,q5,q6,q8,q9,hx4⟩:=hR
  obtain ⟨N,hN⟩:∃ N,N=w.heap.size:=⟨_,rfl⟩
  rw [hxs,← hN] at q5 q6 q8 q9
  have hxN:x.heap.size=N:=by rw [hxs,hN]
  have n0:x'.heap[N]?=some (.cells #[.slice ta1 ts.length cap1] 57)∧x'.heap[N+1]?=some (.cells #[.slice ta2 its.length cap2] 57)∧x'.heap[N+2]?=some (.cells #[.slice A3 l3 cap3] 23)∧x'.heap[N+3]?=some (.cells #[.bool drain] 4):=by
    have e1:(x.alloc (.cells #[.slice ta1 ts.length cap1] 57)).heap.size=N+1:=by rw [alloc_size,hxN]
    have e2:((x.alloc (.cells #[.slice ta1 ts.length cap1] 57)).alloc (.cells #[.slice ta2 its.length cap2] 57)).heap.size=N+2:=by rw [alloc_size,e1]
    have e3:(((x.alloc (.cells #[.slice ta1 ts.length cap1] 57)).alloc (.cells #[.slice ta2 its.length cap2] 57)).alloc (.cells #[.slice A3 l3 cap3] 23)).heap.size=N+3:=by rw [alloc_size,e2]
    have g0:=@alloc_new x (.cells #[.slice ta1 ts.length cap1] 57)
    have g1:=@alloc_new (x.alloc (.cells #[.slice ta1 ts.length cap1] 57)) (.cells #[.slice ta2 its.length cap2] 57)
    have g2:=@alloc_new ((x.alloc (.cells #[.slice ta1 ts.length cap1] 57)).alloc (.cells #[.slice ta2 its.length cap2] 57)) (.cells #[.slice A3 l3 cap3] 23)
    have g3:=@alloc_new (((x.alloc (.cells #[.slice ta1 ts.length cap1] 57)).alloc (.cells #[.slice ta2 its.length cap2] 57)).alloc (.cells #[.slice A3 l3 cap3] 23)) (.cells #[.bool drain] 4)
    rw [hxN] at g0
    rw [e1] at g1
    rw [e2] at g2
    rw [e3] at g3
    rw [hx4]
    exact ⟨by rw [alloc_old (b:=N) (by omega),alloc_old (b:=N) (by omega),alloc_old (b:=N) (by omega)]; exact g0,by rw [alloc_old (b:=N+1) (by omega),alloc_old (b:=N+1) (by omega)]; exact g1,by rw [alloc_old (b:=N+2) (by omega)]; exact g2,g3⟩
  obtain ⟨n0,n1,n2,n3⟩:=n0
  have hv:∀ m o,N≤m→x'.heap[m]?=some o→E1.H m=none∧w1.heap[m]?=some o:=fun m o hm h=>by
    have hb:=hB1 m (by omega)
    exact ⟨by rw [hH1]; exact hb,(hx' m hb).trans h⟩
  obtain ⟨H0,m0⟩:=hv N _ (Nat.le_refl _) n0
  obtain ⟨Hi1,m1⟩:=hv _ _ (by omega) n1
  obtain ⟨Hi2,m2⟩:=hv _ _ (by omega) n2
  obtain ⟨Hi3,m3⟩:=hv _ _ (by omega) n3
  have l3':=(Array.getElem?_eq_some_iff.1 m3).1
  clear hv n0 n1 n2 n3 hx4 hB1 hx' hx
  rw [yT1_parts]
  change HGn Try.prog 0 F E1 w1 100 _
  refine Idl.step (idl_hg Try.prog 0 F E1 w1) _ _ _ rfl (fun _=>stepG_seq) ?_
  refine yp1 s1 (hK1.le.roleH.trans hrole) (fun b=>hK1.le.mode b (hmode b)) (fun E2 w2 T2 hK2 hS2 s2 p2 r11=>?_)
  have kp2:=hK1.trans hK2
  have st2:=hS1.trans hS2
  obtain ⟨H0,m0⟩:=hS2 _ _ H0 m0
  obtain ⟨Hi1,m1⟩:=hS2 _ _ Hi1 m1
  obtain ⟨Hi2,m2⟩:=hS2 _ _ Hi2 m2
  obtain ⟨Hi3,m3⟩:=hS2 _ _ Hi3 m3
  have hw12:=hK2.size
  rw [yT2_parts]
  change HGn Try.prog 0 F E2 w2 100 _
  refine Idl.step (idl_hg Try.prog 0 F E2 w2) _ _ _ rfl (fun _=>stepG_seq) ?_
  obtain ⟨f2,hf2,fz2⟩:=arrfv T2 s2
  refine HG.fstep closed_rn (by kernel_rfl) (by rfl) (R:=fun T' x x'=>T'.size=74∧(∀ j,j < 12→T'[j]?=T2[j]?)∧∃ ov,T'[12]?=some ov∧T'[13]?=some (.int .i64 (rK ts z1))∧x'.ownsRow x.heap.size 117 5 ov (rTl ts z1).length (tldsV (rTl ts z1))) (fun x hxs hx=>?_) (fun E3 w3 T3 x x' hK3 hH3 hxs hx hx' hB3 hS3 hR=>?_)
  · have hX:=(hT1.stands st2).toX hx
    obtain ⟨pa,pb,po,pcap,hpv,hpa,hps⟩:=(hI1.stands st2).toX hx
    rw [hf2]
    refine yS2_wp (fz2 5 _ ((p2 5 (by decide)).trans q5)) (fz2 2 _ ((p2 2 (by decide)).trans ((p1 2 (by decide)).trans t2))) (fz2 9 _ ((p2 9 (by decide)).trans q9)) (obj_cell ((hx _ H0).trans m0) rfl) (obj_cell ((hx _ Hi3).trans m3) rfl) (by rw [hpv]; exact rbodies_any hz1 hX hpa hps (by omega) hl1' (fun h8=>Nat.le_trans (ops_sum hl1 h8) (by decide)) h641 (fun h8=>by have a1:=run_k2 hz1; have a2:=ops_sum hl1 h8; omega)) (fun e x' h=>?_) (fun T' x' a1 a2 a3=>?_)
    · obtain ⟨mv,h,_,ho⟩:=h
      obtain ⟨A,c,rfl⟩:=owns_slice ho
      exact ⟨_,_,_,_,h⟩
    · obtain ⟨A,n,c,kk,⟨mv,e,h6,h7⟩,a4,a5⟩:=a3
      simp only [Ending.returned.injEq,Value.tuple.injEq] at e
      have e3:Value.slice A n c=mv∧Value.int .i64 kk=.int .i64 (rK ts z1):=by simpa using e
      obtain ⟨rfl,e4⟩:=e3
      rw [e4] at a5
      refine ⟨rfl,rfl,h6,a1,fun j hj=>?_,_,a4,a5,h7⟩
      rw [a2 j (by omega) (by omega) (by omega),arrf_get f2 (by omega)]
  obtain ⟨s3,p3,ov1,r12,r13,ho1⟩:=hR
  have hO1:=TldV.of_new (E:=E2) (E1:=E3) (w':=w3) (by rw [hxs] at ho1; exact ho1) hB3 hx' hH3
  have lo1:∀ g,ov1.ownBlock=some g→g < w3.heap.size:=fun g hg=>(hO1.row.lt g hg).2
  clear ho1 hx hx' hB3 hf2 fz2 f2
  have kp3:=kp2.trans hK3
  have st3:=st2.trans hS3
  obtain ⟨H0,m0⟩:=hS3 _ _ H0 m0
  obtain ⟨Hi1,m1⟩:=hS3 _ _ Hi1 m1
  obtain ⟨Hi2,m2⟩:=hS3 _ _ Hi2 m2
  obtain ⟨Hi3,m3⟩:=hS3 _ _ Hi3 m3
  have hw23:=hK3.size
  have p3':∀ j,j < 10→T3[j]?=T1[j]?:=fun j hj=>(p3 j (by omega)).trans (p2 j (by omega))
  rw [yT3_parts]
  change HGn Try.prog 0 F E3 w3 100 _
  refine Idl.step (idl_hg Try.prog 0 F E3 w3) _ _ _ rfl (fun _=>stepG_seq) ?_
  obtain ⟨f3,hf3,fz3⟩:=arrfv T3 s3
  refine HG.fstep closed_rn (by kernel_rfl) (by rfl) (R:=fun T' x x'=>T'.size=74∧(∀ j,j < 14→T'[j]?=T3[j]?)∧∃ (Y:Nat) (ov:Value),x.heap.size≤Y∧T'[14]?=some (.pointer (some ⟨Y,0,none⟩))∧T'[15]?=some (.pointer (some ⟨Y+1,0,none⟩))∧x'.heap[Y]?=some (.cells #[ov] 58)∧x'.heap[Y+1]?=some (.cells #[.int .i64 (rK its z2)] 3)∧x'.ownsRow x.heap.size 117 5 ov (rTl its z2).length (tldsV (rTl its z2))∧∀ g,ov.ownBlock=some g→g < Y) (fun x hxs hx=>?_) (fun E4 w4 T4 x x' hK4 hH4 hxs hx hx' hB4 hS4 hR=>?_)
  · have hX:=(hT2.stands st3).toX hx
    obtain ⟨pa,pb,po,pcap,hpv,hpa,hps⟩:=(hI2.stands st3).toX hx
    rw [hf3]
    refine yS3_wp (fz3 6 _ ((p3' 6 (by decide)).trans q6)) (fz3 8 _ ((p3' 8 (by decide)).trans q8)) (fz3 9 _ ((p3' 9 (by decide)).trans q9)) (obj_cell ((hx _ Hi1).trans m1) rfl) (obj_cell ((hx _ Hi2).trans m2) rfl) (obj_cell ((hx _ Hi3).trans m3) rfl) (by rw [hpv]; exact rbodies_any hz2 hX hpa hps (by omega) hl2' (fun h8=>Nat.le_trans (ops_sum hl2 h8) (by decide)) h642 (fun h8=>by have a1:=run_k2 hz2; have a2:=ops_sum hl2 h8; omega)) (fun e x' h=>?_) (fun T' x' a1 a2 a3=>?_)
    · obtain ⟨mv,h,_,ho⟩:=h
      obtain ⟨A,c,rfl⟩:=owns_slice ho
      exact ⟨_,_,_,_,h⟩
    · obtain ⟨y,A,n,c,kk,⟨mv,e,h6,h7⟩,a4,a5,a6,a7,a8⟩:=a3
      simp only [Ending.returned.injEq,Value.tuple.injEq] at e
      have e3:Value.slice A n c=mv∧Value.int .i64 kk=.int .i64 (rK its z2):=by simpa using e
      obtain ⟨rfl,e4⟩:=e3
      rw [e4] at a8
      have hys:x.heap.size≤y.heap.size:=by
        rcases Nat.lt_or_ge y.heap.size x.heap.size with z | z
        · have h1:=h6 y.heap.size z
          rw [Array.getElem?_eq_none (Nat.le_refl _),Array.getElem?_eq_getElem z] at h1
          cases h1
        · exact z
      refine ⟨rfl,rfl,fun b hb=>(a6 b (by omega)).trans (h6 b hb),a1,fun j hj=>?_,y.heap.size,_,hys,a4,a5,a7,a8,ownsRow_same h7 (fun g hg=>a6 g (h7.lt g hg).2),fun g hg=>(h7.lt g hg).2⟩
      rw [a2 j (by omega) (by omega) (by omega),arrf_get f3 (by omega)]
  obtain ⟨s4,p4,Y,ov2,hY,r14,r15,b14,b15,ho2,lo2⟩:=hR
  have hO2:=TldV.of_new (E:=E3) (E1:=E4) (w':=w4) (by rw [hxs] at ho2; exact ho2) hB4 hx' hH4
  have H14:E4.H Y=none∧w4.heap[Y]?=some (.cells #[ov2] 58):=⟨by rw [hH4]; exact hB4 _ (by omega),(hx' _ (hB4 _ (by omega))).trans b14⟩
  have H15:E4.H (Y+1)=none∧w4.heap[Y+1]?=some (.cells #[.int .i64 (rK its z2)] 3):=⟨by rw [hH4]; exact hB4 _ (by omega),(hx' _ (hB4 _ (by omega))).trans b15⟩
  have hYs:w3.heap.size≤Y:=by omega
  clear ho2 hx hx' hB4 hf3 fz3 f3 b14 b15
  have kp4:=kp3.trans hK4
  have st4:=st3.trans hS4
  obtain ⟨H0,m0⟩:=hS4 _ _ H0 m0
  obtain ⟨Hi1,m1⟩:=hS4 _ _ Hi1 m1
  obtain ⟨Hi2,m2⟩:=hS4 _ _ Hi2 m2
  obtain ⟨Hi3,m3⟩:=hS4 _ _ Hi3 m3
  have hO1:=hO1.stands hS4
  have lY:=(Array.getElem?_eq_some_iff.1 H15.2).1
  have p4':∀ j,j < 10→T4[j]?=T1[j]?:=fun j hj=>(p4 j (by omega)).trans (p3' j hj)
  have r11':=(p4 11 (by decide)).trans ((p3 11 (by decide)).trans r11)
  have r12':=(p4 12 (by decide)).trans r12
  have r13':=(p4 13 (by decide)).trans r13
  clear p2 p3 p3' p4 r11 r12 r13 hS1 hS2 hS3 hS4 st2 st3 kp2 kp3
  rw [yT4_parts]
  change HGn Try.prog 0 F E4 w4 100 _
  refine Idl.step (idl_hg Try.prog 0 F E4 w4) _ _ _ rfl (fun _=>stepG_seq) ?_
  obtain ⟨f4,hf4,fz4⟩:=arrfv T4 s4
  refine HG.fstep (closed_none _) (by kernel_rfl) (by rfl) (R:=fun T' x x'=>T'.size=74∧(∀ j,j < 16→T'[j]?=T4[j]?)∧T'[16]?=some (.pointer (some ⟨x.heap.size+1,0,none⟩))∧x'=(x.alloc (.cells #[.slice none 0 0] 63)).alloc (.cells #[.pointer (some ⟨x.heap.size,0,none⟩)] 61)) (fun x hxs hx=>?_) (fun E5 w5 T5 x x' hK5 hH5 hxs hx hx' hB5 hS5 hR=>?_)
  · rw [hf4]
    refine yS4_wp (fun T' x' a1 a2 a3 a4=>⟨rfl,rfl,fun b hb=>?_,a1,fun j hj=>?_,a3,a4⟩)
    · rw [a4,alloc_old (b:=b) (by rw [alloc_size]; omega),alloc_old hb]
    · rw [a2 j (by omega) (by omega),arrf_get f4 (by omega)]
  obtain ⟨s5,p5,r16,rfl⟩:=hR
  obtain ⟨bb,hbb⟩:∃ bb,bb=w4.heap.size:=⟨_,rfl⟩
  rw [hxs,← hbb] at r16
  have hxb:x.heap.size=bb:=by rw [hxs,hbb]
  have hcb:E5.H bb=none∧w5.heap[bb]?=some (.cells #[.slice none 0 0] 63):=by
    have hb:=hB5 bb (by omega)
    refine ⟨by rw [hH5]; exact hb,(hx' _ hb).trans ?_⟩
    rw [alloc_old (b:=bb) (by rw [alloc_size]; omega),← hxb]
    exact alloc_new
  have hc3:E5.H (bb+1)=none∧w5.heap[bb+1]?=some (.cells #[.pointer (some ⟨bb,0,none⟩)] 61):=by
    have hb:=hB5 (bb+1) (by omega)
    refine ⟨by rw [hH5]; exact hb,(hx' _ hb).trans ?_⟩
    have:=@alloc_new (x.alloc (.cells #[.slice none 0 0] 63)) (.cells #[.pointer (some ⟨x.heap.size,0,none⟩)] 61)
    rw [alloc_size,hxb] at this
    rw [hxb]
    exact this
  have l5:=(Array.getElem?_eq_some_iff.1 hc3.2).1
  clear hx hx' hB5 hf4 fz4 f4
  rw [yT5_parts]
  change HGn Try.prog 0 F E5 w5 100 _
  refine Idl.step (idl_hg Try.prog 0 F E5 w5) _ _ _ rfl (fun _=>stepG_seq) ?_
  refine newb (by kernel_rfl) (by rfl) s5 17 (.cells #[.bool true] 4) (fun s=>.pointer (some ⟨s,0,none⟩)) (fun f x Q h=>yS5_wp h) (fun E6 w6 T6 hK6 hS6 s6 p6 r17 n6 H6=>?_)
  have h9:E6.H w5.heap.size=none∧w6.heap[w5.heap.size]?=some (.cells #[.bool true] 4):=⟨H6 _ (Nat.le_refl _),n6⟩
  have l6:=(Array.getElem?_eq_some_iff.1 n6).1
  rw [yT6_parts]
  change HGn Try.prog 0 F E6 w6 100 _
  refine Idl.step (idl_hg Try.prog 0 F E6 w6) _ _ _ rfl (fun _=>stepG_seq) ?_
  refine newb (by kernel_rfl) (by rfl) s6 18 (.cells #[.int .i64 0] 3) (fun s=>.pointer (some ⟨s,0,none⟩)) (fun f x Q h=>yS6_wp h) (fun E7 w7 T7 hK7 hS7 s7 p7 r18 n7 H7=>?_)
  have h4:E7.H w6.heap.size=none∧w7.heap[w6.heap.size]?=some (.cells #[.int .i64 0] 3):=⟨H7 _ (Nat.le_refl _),n7⟩
  have l7:=(Array.getElem?_eq_some_iff.1 n7).1
  rw [yT7_parts]
  change HGn Try.prog 0 F E7 w7 100 _
  refine Idl.step (idl_hg Try.prog 0 F E7 w7) _ _ _ rfl (fun _=>stepG_seq) ?_
  refine newb (by kernel_rfl) (by rfl) s7 19 (.cells #[] 52) (fun s=>.slice (some ⟨s,0,none⟩) 0 0) (fun f x Q h=>yS7_wp h) (fun E8 w8 T8 hK8 hS8 s8 p8 r19 n8 H8=>?_)
  have l8:=(Array.getElem?_eq_some_iff.1 n8).1
  have S48:Stands E4 w4 E8 w8:=((hS5.trans hS6).trans hS7).trans hS8
  have S58:Stands E5 w5 E8 w8:=(hS6.trans hS7).trans hS8
  have k8:Kept 0 none E w E8 w8:=(((kp4.trans hK5).trans hK6).trans hK7).trans hK8
  have g0:=S48 _ _ H0 m0
  have g1:=S48 _ _ Hi1 m1
  have g2:=S48 _ _ Hi2 m2
  have g3:=S48 _ _ Hi3 m3
  have g14:=S48 _ _ H14.1 H14.2
  have g15:=S48 _ _ H15.1 H15.2
  have gb:=S58 _ _ hcb.1 hcb.2
  have gc3:=S58 _ _ hc3.1 hc3.2
  have g9:=(hS7.trans hS8) _ _ h9.1 h9.2
  have g4:=hS8 _ _ h4.1 h4.2
  have P:∀ j,j < 16→T8[j]?=T4[j]?:=fun j hj=>(p8 j (by omega) (by omega)).trans ((p7 j (by omega) (by omega)).trans ((p6 j (by omega) (by omega)).trans (p5 j hj)))
  have t16:T8[16]?=some (.pointer (some ⟨bb+1,0,none⟩)):=(p8 16 (by decide) (by decide)).trans ((p7 16 (by decide) (by decide)).trans ((p6 16 (by decide) (by decide)).trans r16))
  have t17:T8[17]?=some (.pointer (some ⟨w5.heap.size,0,none⟩)):=(p8 17 (by decide) (by decide)).trans ((p7 17 (by decide) (by decide)).trans r17)
  have t18:T8[18]?=some (.pointer (some ⟨w6.heap.size,0,none⟩)):=(p8 18 (by decide) (by decide)).trans r18
  obtain ⟨C,hC⟩:∃ C:Nat→Nat,C=fun m=>match m with | 1=>N | 3=>bb+1 | 4=>w6.heap.size | 5=>N+1 | 6=>N+2 | 7=>N+3 | 8=>Y | 9=>w5.heap.size | 10=>Y+1 | _=>0:=⟨_,rfl⟩
  have C1:C 1=N:=congrFun hC 1
  have C3:C 3=bb+1:=congrFun hC 3
  have C4:C 4=w6.heap.size:=congrFun hC 4
  have C5:C 5=N+1:=congrFun hC 5
  have C6:C 6=N+2:=congrFun hC 6
  have C7:C 7=N+3:=congrFun hC 7
  have C8:C 8=Y:=congrFun hC 8
  have C9:C 9=w5.heap.size:=congrFun hC 9
  have C10:C 10=Y+1:=congrFun hC 10
  have u5:T8[5]?=some (.pointer (some ⟨C 1,0,none⟩)):=by rw [C1]; exact (P 5 (by decide)).trans ((p4' 5 (by decide)).trans q5)
  have u6:T8[6]?=some (.pointer (some ⟨C 5,0,none⟩)):=by rw [C5]; exact (P 6 (by decide)).trans ((p4' 6 (by decide)).trans q6)
  have u8:T8[8]?=some (.pointer (some ⟨C 6,0,none⟩)):=by rw [C6]; exact (P 8 (by decide)).trans ((p4' 8 (by decide)).trans q8)
  have u9:T8[9]?=some (.pointer (some ⟨C 7,0,none⟩)):=by rw [C7]; exact (P 9 (by decide)).trans ((p4' 9 (by decide)).trans q9)
  have u14:T8[14]?=some (.pointer (some ⟨C 8,0,none⟩)):=by rw [C8]; exact (P 14 (by decide)).trans r14
  have u15:T8[15]?=some (.pointer (some ⟨C 10,0,none⟩)):=by rw [C10]; exact (P 15 (by decide)).trans r15
  rw [← C3] at t16 gc3
  rw [← C9] at t17 g9
  rw [← C4] at t18 g4
  rw [← C1] at g0
  rw [← C5] at g1
  rw [← C6] at g2
  rw [← C7] at g3
  rw [← C8] at g14
  rw [← C10] at g15
  have o1':=hO1.stands S48
  have o2':=hO2.stands S48
  have lo2':∀ g,ov2.ownBlock=some g→g < bb:=fun g hg=>by have:=lo2 g hg; omega
  have lo1':∀ g,ov1.ownBlock=some g→g < bb:=fun g hg=>by have:=lo1 g hg; have:=hK4.size; omega
  have st8:=st4.trans S48
  have ll:w.heap.size≤C 1∧C 1 < bb∧C 5 < bb∧C 6 < bb∧C 7 < bb∧C 8 < bb∧C 10 < bb∧bb < C 3∧C 3 < C 9∧C 9 < C 4∧C 4 < w7.heap.size:=by
    have z1:=hK4.size
    have z2:=hK3.size
    have z3:=hK2.size
    rw [C1,C3,C4,C5,C6,C7,C8,C9,C10]
    refine ⟨by omega,by omega,by omega,by omega,by omega,by omega,by omega,by omega,by omega,by omega,by omega⟩
  obtain ⟨f8,hf8,fz8⟩:=arrfv T8 s8
  rw [yT8_parts]
  change HGn Try.prog 0 F E8 w8 100 _
  refine Idl.step (idl_hg Try.prog 0 F E8 w8) _ _ _ rfl (fun _=>stepG_seq) ?_
  refine HG.sstep (fun b=>w7.heap.size≤b) H8 (closed_none _) (by kernel_rfl) (by rfl) (R:=fun T' x x'=>T'.size=74∧(∀ j,j < 19→T'[j]?=T8[j]?)∧∃ v TB,T'[19]?=some v∧Bx2 w7.heap.size (bvW C) TB v ts.length x') (fun x hxs hx=>?_) (fun E9 w9 T9 x x' hK9 hH9 hxs hx hx' hS9 hR=>?_)
  · rw [hf8]
    refine yS8_wp (B:=w7.heap.size) (fz8 5 _ u5) (fz8 16 _ t16) (fz8 18 _ t18) (fz8 6 _ u6) (fz8 8 _ u8) (fz8 9 _ u9) (fz8 14 _ u14) (fz8 17 _ t17) (fz8 15 _ u15) (fz8 19 _ r19) ⟨by simp,.inr ⟨w7.heap.size,0,#[],rfl,Nat.le_refl _,(hx _ (H8 _ (Nat.le_refl _))).trans n8,Nat.le_refl _,by decide,rfl,rfl⟩⟩ (obj_cell ((hx _ g0.1).trans g0.2) rfl) hn1 (by omega) (by omega) (fun T' x' v TB a1 a2 a3 a4 a5=>⟨rfl,rfl,fun b hb hb2=>a5.block b (by omega),a1,fun j hj=>?_,v,TB,a3,a4⟩)
    rw [a2 j (by omega) (by omega) (by omega),arrf_get f8 (by omega)]
  obtain ⟨s9,p9,v,TB,r19',X⟩:=hR
  have H9:∀ b,w7.heap.size≤b→E9.H b=none:=fun b hb=>by rw [hH9]; exact H8 b hb
  have hw9:∀ b,w7.heap.size≤b→w9.heap[b]?=x'.heap[b]?:=fun b hb=>hx' b (H8 b hb)
  have lo:∀ b o,b < w7.heap.size→(E8.H b=none∧w8.heap[b]?=some o)→E9.H b=none∧w9.heap[b]?=some o:=fun b o hb h=>hS9 b o (by omega) h.1 h.2
  have q0:=lo _ _ (by omega) g0
  have q1:=lo _ _ (by omega) g1
  have q2:=lo _ _ (by omega) g2
  have q3:=lo _ _ (by omega) g3
  have q14:=lo _ _ (by omega) g14
  have q15:=lo _ _ (by omega) g15
  have qb:=lo _ _ (by omega) gb
  have qc3:=lo _ _ (by omega) gc3
  have q9':=lo _ _ (by omega) g9
  have q4':=lo _ _ (by omega) g4
  have P9:∀ j,j < 16→T9[j]?=T4[j]?:=fun j hj=>(p9 j (by omega)).trans (P j hj)
  refine hc E9 w9 T9 ov1 ov2 v C TB bb w7.heap.size ⟨s9,(P9 2 (by decide)).trans ((p4' 2 (by decide)).trans ((p1 2 (by decide)).trans t2)),(p9 9 (by decide)).trans u9,(P9 11 (by decide)).trans r11',(P9 12 (by decide)).trans r12',(P9 13 (by decide)).trans r13',(p9 16 (by decide)).trans t16,(p9 17 (by decide)).trans t17,r19',k8.trans hK9,st8.but hS9 (fun b hb e=>by omega),⟨obj_cell q0.2 rfl,q0.1⟩,⟨obj_cell qc3.2 rfl,qc3.1⟩,q4',⟨obj_cell q1.2 rfl,q1.1⟩,⟨obj_cell q2.2 rfl,q2.1⟩,⟨obj_cell q3.2 rfl,q3.1⟩,⟨obj_cell q14.2 rfl,q14.1⟩,q9',⟨obj_cell q15.2 rfl,q15.1⟩,qb,o1'.but hS9 (fun g hg e=>by have:=lo1' g hg; omega),o2'.but hS9 (fun g hg e=>by have:=lo2' g hg; omega),?_,fun g hg=>H9 g (X.row.lt g hg).1,fun i hi=>?_,ll,lo1',lo2'⟩
  · exact ownsRow_same X.row fun g hg=>hw9 g (X.row.lt g hg).1
  · obtain ⟨b1,b2,b3⟩:=X.box i hi
    exact ⟨(World.cell?_of_block (a:=⟨TB i,0,none⟩) (hw9 _ b2)).trans b1,H9 _ b2,b2⟩
end
theorem with_sim {bb nb okb:Nat} {K:Nat→Obj→Prop} {L:List RT} {ts:List (List Int)} (hL:∀ t,opsR L t=opsOf ts t):Sim (withD bb nb okb K L) (runG ts) (RPR ts) :=
  have S:=run_sim (bb:=bb) (K:=K) hL
  ⟨S.len,S.alive,fun x a x' t h1 h2 h3 h4=>S.pick x a x' t h1 h2 h3 h4,S.idle⟩
theorem with_startOk {bb nb okb:Nat} {K:Nat→Obj→Prop} {L:List RT} (t:Nat):StartOk (withD bb nb okb K L) t (AdvR (opsR L t) t 0 0 (0,0,0)) :=
  have S:=run_startOk (bb:=bb) (K:=K) (L:=L) t
  ⟨S.mono,S.fresh,S.init⟩
def cOf (C TB:Nat→Nat) (i m:Nat):Nat:=if m=2 then TB i else C m
section
variable {F:Machine→Trace→Prop} {E:Env} {w:World} {k:List Item} {b₀:Frame} {a₀:Act} {ops₀:Array Oper} {i₀:Nat} {rest₀:List Nat} {k₀:List Item} {cl:List Frame}
theorem within_run {E0:Env} {w0:World} {T:Array Value} {ts its:List (List Int)} {picks within:List Int} {drain:Bool} {z1 z2:RA × Int} {tv1 tv2 wv ov1 ov2 lv:Value} {C TB:Nat→Nat} {bb B pcap:Nat} {ta1 pa:Option Addr} {b1 o1 cap1 pb po:Nat} {LA1:Nat→Option Addr} {LC1:Nat→Nat} (S:StW E0 w0 E w T ts its drain z1 z2 tv1 tv2 (.slice pa picks.length pcap) wv ov1 ov2 lv C TB bb B) (htv:tv1=.slice ta1 ts.length cap1) (I:InnF E0 w0 its within drain z2 tv2 wv) (hT1:IntssL E0 w0 ta1 b1 o1 LA1 LC1 ts)
    (hpa:picks≠[]→pa=some ⟨pb,po,none⟩) (hps:∀ i p,picks[i]?=some p→w0.cell? ⟨pb,po+i,none⟩=some (.int .i64 p)∧E0.H pb=none) (hz1:(runG ts).Run picks drain (ra0 ts ts.length) z1) (hl:∀ l ∈ ts,l.length≤100000000000) (hnp:picks.length≤1000000000000000) (hp64:∀ p ∈ picks,-9223372036854775808≤p∧p≤9223372036854775807) (hrole:E.role 0=.gone) (hmode:∀ b,E.mode b=0)
    (hc:∀ E' w' mv,Kept 0 none E w E' w'→Stands E0 w0 E' w'→w'.cell? ⟨C 3,0,none⟩=some (.pointer (some ⟨bb,0,none⟩))∧E'.H (C 3)=none→w'.heap[bb]?=some (.cells #[mv] 63)→E'.H bb=none→TldV E' w' mv (rTl ts z1)→TldV E' w' ov1 (rTl ts z1)→E'.H (C 9)=none∧w'.heap[C 9]?=some (.cells #[.bool true] 4)→HG Try.prog 0 F E' (G (b₀.at (a₀.put ((ops₀[i₀]?).bind (·.dst)) (.int .i64 (rK ts z1))) (.inRegion ops₀ rest₀ :: k₀)) cl) w') :
    HG Try.prog 0 F E (entry 29 Try.f29 #[lv,.slice pa picks.length pcap,.bool drain] (b₀.at a₀ (.inRegion ops₀ (i₀ :: rest₀) :: k₀) :: cl)) w:=by
  obtain ⟨l0,l1,l5,l6,l7,l8,l10,l3,l39,l94,l4⟩:=S.l
  obtain ⟨aa,bcap,rfl,hvf⟩:=owns_form S.row
  by_cases h8:8 < ts.length
  · refine run_many h8 ?_
    have e1:rK ts z1=0:=by unfold rK; rw [if_pos h8]
    have e2:rTl ts z1=[]:=by unfold rTl; rw [if_pos h8]
    rw [e1] at hc
    exact hc E w _ (Kept.refl _ _ _ _) S.st S.c3 S.cb.2 S.cb.1 ⟨by rw [e2]; exact ⟨by simp [tldsV],.inl ⟨rfl,rfl⟩⟩,(fun g e=>by cases e)⟩ S.o1 S.c9
  · have hN8:ts.length≤8:=by omega
    have e1:rK ts z1=z1.2:=by unfold rK; rw [if_neg h8]
    have e2:rTl ts z1=z1.1.told:=by unfold rTl; rw [if_neg h8]
    have hT:=hT1.stands S.st
    obtain ⟨L,hL⟩:∃ L,L=rtOf LA1 LC1 ts:=⟨_,rfl⟩
    obtain ⟨K,hKe⟩:∃ K:Nat→Obj→Prop,K=fun b o=>w.heap[b]?=some o∧E.H b=none∧b≠bb∧b≠C 4∧b≠C 9:=⟨_,rfl⟩
    have kc:∀ {a:Addr} {v:Value},w.cell? a=some v→E.H a.block=none→a.block≠bb→a.block≠C 4→a.block≠C 9→KC K a v:=fun {a v} h1 h2 h3 h4 h5=>by
      have hl:=World.block_lt_of_cell? w _ h1
      rw [hKe]
      refine ⟨w.heap[a.block],⟨Array.getElem?_eq_getElem hl,h2,h3,h4,h5⟩,fun w' hw'=>?_⟩
      rw [← h1]
      exact World.cell?_of_block (by rw [hw',Array.getElem?_eq_getElem hl])
    have hops:∀ t,opsR L t=opsOf ts t:=fun t=>by rw [hL]; exact rtOf_ops _ _ _ _
    have hget:∀ i,i < ts.length→ts[i]?=some (ts.getD i []):=fun i hi=>by simp [List.getD,List.getElem?_eq_getElem hi]
    have hbound:sumTo L.length (fun t=>(opsR L t).length)≤1000000000000:=by
      rw [hL,rtOf_len]
      have e:(fun t=>(opsR (rtOf LA1 LC1 ts) t).length)=fun t=>(opsOf ts t).length:=funext fun t=>by rw [rtOf_ops]
      rw [e]
      have:=ops_sum hl hN8
      omega
    have hRT:∀ i,i < ts.length→RTok K L bb (C 1) (TB i) (C 3) b1 o1 ts.length cap1 i ⟨((LA1 i).map (·.block)).getD 0,((LA1 i).map (·.off)).getD 0,LA1 i,LC1 i,ts.getD i []⟩:=fun i hi=>by
      obtain ⟨q1,q2⟩:=hT.row i _ (hget i hi)
      have hlt:=hT1.lt (hget i hi)
      have hta:=hT1.ta (by omega)
      subst hta
      obtain ⟨x1,x2,x3⟩:=S.box i hi
      have hc1:=S.c1
      rw [htv] at hc1
      refine ⟨by rw [hL]; exact rtOf_get hi,kc hc1.1 hc1.2 (by dsimp only; omega) (by dsimp only; omega) (by dsimp only; omega),kc x1 x2 (by dsimp only; omega) (by dsimp only; omega) (by dsimp only; omega),kc S.c3.1 S.c3.2 (by dsimp only; omega) (by dsimp only; omega) (by dsimp only; omega),kc q1 q2 (by dsimp only; omega) (by dsimp only; omega) (by dsimp only; omega),fun j c hj=>?_,?_,hi⟩
      · have hj':(ts.getD i [])[j]?=some c:=hj
        have hne:ts.getD i []≠[]:=fun e=>by rw [e] at hj'; cases hj'
        obtain ⟨la,lo,r1,r2,r3⟩:=hT1.ops i _ (hget i hi) hne
        have hlb:=World.block_lt_of_cell? w0 _ (r3 j c hj')
        obtain ⟨g1,g2⟩:=S.st.cell (r3 j c hj') r2
        dsimp only at hlb ⊢
        rw [r1]
        exact ⟨rfl,kc (a:=⟨la,lo+j,none⟩) g1 g2 (by dsimp only; omega) (by dsimp only; omega) (by dsimp only; omega)⟩
      · have:=hl _ (List.mem_of_getElem? (hget i hi))
        dsimp only
        omega
    have hbut:∀ s E' w',WM bb (C 4) (C 9) K L s E' w'→StandsBut (fun b=>b=bb∨b=C 4∨b=C 9) E w E' w':=fun s E' w' m b o h0 h1 h2=>by
      obtain ⟨k1,k2,_⟩:=m.run.kobj b o (by rw [hKe]; exact ⟨h2,h1,fun e=>h0 (.inl e),fun e=>h0 (.inr (.inl e)),fun e=>h0 (.inr (.inr e))⟩)
      exact ⟨k2,k1⟩
    have hlow:∀ b,b < w0.heap.size→¬ (b=bb∨b=C 4∨b=C 9):=fun b hb e=>by omega
    have hInn:∀ i s E' w',WM bb (cOf C TB i 4) (cOf C TB i 9) K L s E' w'→InnC E0 w0 E' w' (cOf C TB i) its drain z2 tv2 wv ov2:=fun i s E' w' m=>by
      have J:InnC E0 w0 E w (cOf C TB i) its drain z2 tv2 wv ov2:=⟨S.st,S.c5,S.c6,S.c7,S.c8,S.c10,S.o2⟩
      refine J.but (hbut s E' w' m) hlow (fun m hm e=>?_) (fun g hg e=>by have:=S.lo2 g hg; omega)
      rcases hm with rfl | rfl | rfl | rfl | rfl <;> (simp only [cOf] at e; simp at e; omega)
    have hAp:∀ i,ApartW w0 (cOf C TB i) ov2:=fun i=>by
      refine ⟨?_,?_,fun m hm=>?_,fun g hg=>?_⟩
      · show C 4≠C 9; omega
      · show w0.heap.size≤C 4∧w0.heap.size≤C 9; omega
      · rcases hm with rfl | rfl | rfl | rfl | rfl
        · show C 5≠C 4∧C 5≠C 9; omega
        · show C 6≠C 4∧C 6≠C 9; omega
        · show C 7≠C 4∧C 7≠C 9; omega
        · show C 8≠C 4∧C 8≠C 9; omega
        · show C 10≠C 4∧C 10≠C 9; omega
      · have:=S.lo2 g hg
        show g≠C 4∧g≠C 9; omega
    obtain ⟨V,hV⟩:∃ V,V=bvW C TB:=⟨_,rfl⟩
    obtain ⟨bs,hbs⟩:∃ bs,bs=runBs L V (List.range ts.length):=⟨_,rfl⟩
    have hbl:bs.length=ts.length:=by rw [hbs]; simp [runBs]
    have hbg:∀ i b,bs[i]?=some b→i < ts.length∧b=⟨V i,(opsR L i).length,AdvR (opsR L i) i 0 0 (0,0,0)⟩:=fun i b e=>by
      have hi:i < ts.length:=by rw [← hbl]; exact (List.getElem?_eq_some_iff.1 e).1
      refine ⟨hi,?_⟩
      rw [hbs] at e
      unfold runBs at e
      rw [List.getElem?_map,List.getElem?_range hi] at e
      exact (Option.some.inj e).symm
    have hM:WM bb (C 4) (C 9) K L ⟨[],fun _=>0⟩ E w:=by
      refine ⟨⟨S.cb.1,fun b o hk=>by rw [hKe] at hk; exact ⟨hk.1,hk.2.1,hk.2.2.1⟩,⟨.slice none 0 0,S.cb.2,⟨by simp [tldsV],.inl ⟨rfl,rfl⟩⟩,fun g e=>(by cases e)⟩,Nat.zero_le _,fun t=>Nat.zero_le _⟩,⟨0,by decide,by decide,S.c4.2⟩,S.c4.1,S.c9.2,S.c9.1,⟨by omega,by omega,by omega⟩,fun b o hk=>by rw [hKe] at hk; exact hk.2.2.2,fun mv h=>?_⟩
      rw [S.cb.2] at h
      simp only [Option.some.injEq,Obj.cells.injEq] at h
      have e:Value.slice none 0 0=mv:=by simpa using h
      subst e
      exact ⟨(fun e=>by cases e),(fun e=>by cases e)⟩
    rw [← hbl]
    refine run_holds (D:=withD bb (C 4) (C 9) K L) (s:=⟨[],fun _=>0⟩) (bs:=bs) (picks:=picks) (drain:=drain) (ba:=(aa.map (·.block)).getD 0) (bo:=0) (pb:=pb) (po:=po) (by rw [hbl]; exact hN8) hnp (fun b hb=>?_) (fun hne=>?_) hpa hp64 (fun s E' w' m i b hi=>?_) (fun s E' w' m i p hi=>?_) (fun i b hi=>?_) (fun i b hi=>?_) (fun _ _=>rfl) hrole hmode hM (fun z' E' w' hz' kk m=>?_)
    · obtain ⟨i,hi⟩:=List.mem_iff_getElem?.1 hb
      obtain ⟨hi',rfl⟩:=hbg i b hi
      have:=ops_lens hl i
      dsimp only
      rw [hops]
      omega
    · have:0 < ts.length:=by rw [← hbl]; exact List.length_pos_iff.2 hne
      obtain ⟨g,rfl,_⟩:=hvf this
      rfl
    · obtain ⟨hi',rfl⟩:=hbg i b hi
      obtain ⟨g,rfl,hg1,hg2⟩:=hvf (by omega)
      have h1:=hg2 i (V i) (by rw [List.getElem?_map,List.getElem?_range hi',hV]; rfl)
      have m':WM bb (C 4) (C 9) K L s E' w':=m
      obtain ⟨k1,k2,_⟩:=m'.run.konst _ _ (kc h1 (S.rowH g rfl) (by dsimp only; omega) (by dsimp only; omega) (by dsimp only; omega))
      exact ⟨k1,k2⟩
    · have m':WM bb (C 4) (C 9) K L s E' w':=m
      obtain ⟨q1,q2⟩:=hps i p hi
      have hlb:=World.block_lt_of_cell? w0 _ q1
      obtain ⟨g1,g2⟩:=S.st.cell q1 q2
      dsimp only at hlb
      obtain ⟨k1,k2,_⟩:=m'.run.konst _ _ (kc g1 g2 (by dsimp only; omega) (by dsimp only; omega) (by dsimp only; omega))
      exact ⟨k1,k2⟩
    · obtain ⟨hi',rfl⟩:=hbg i b hi
      have P:=hRT i hi'
      have eV:V i=.func (.func 41) #[] #[.pointer (some ⟨cOf C TB i 1,0,none⟩),.pointer (some ⟨cOf C TB i 2,0,none⟩),.pointer (some ⟨cOf C TB i 3,0,none⟩),.pointer (some ⟨cOf C TB i 4,0,none⟩),.pointer (some ⟨cOf C TB i 5,0,none⟩),.pointer (some ⟨cOf C TB i 6,0,none⟩),.pointer (some ⟨cOf C TB i 7,0,none⟩),.pointer (some ⟨cOf C TB i 8,0,none⟩),.pointer (some ⟨cOf C TB i 9,0,none⟩),.pointer (some ⟨cOf C TB i 10,0,none⟩)]:=by rw [hV]; rfl
      dsimp only
      rw [eV]
      have P':RTok K L bb (cOf C TB i 1) (cOf C TB i 2) (cOf C TB i 3) b1 o1 ts.length cap1 i ⟨((LA1 i).map (·.block)).getD 0,((LA1 i).map (·.off)).getD 0,LA1 i,LC1 i,ts.getD i []⟩:=P
      have:=wn_born P' I (hAp i) (hInn i) hbound
      rw [← P'.o] at this
      exact bornV_clo (fb:=41) (fn:=Try.f41) Try.func41 rfl rfl this
    · obtain ⟨hi',rfl⟩:=hbg i b hi
      exact with_startOk i
    · have m':WM bb (C 4) (C 9) K L z'.1 E' w':=m
      obtain ⟨mv,r1,r2,r3⟩:=m'.run.row
      rw [hbs] at hz'
      obtain ⟨a',hg,ht⟩:=run_game (with_sim hops) hops hz'
      have hdet:=Game.Run.det hg hz1
      subst hdet
      dsimp only at e1 e2
      rw [e1] at hc
      have hb:=hbut _ _ _ m'
      refine hc E' w' mv kk (S.st.but hb hlow) (hb.cell S.c3.1 S.c3.2 (fun e=>by dsimp only at e; omega)) r1 m'.run.bbH ?_ (S.o1.but hb (fun g hg e=>by have:=S.lo1 g hg; omega)) ⟨m'.okH,m'.ok⟩
      rw [e2,← ht]
      exact ⟨ownsRow_dn r2 (Nat.zero_le _),fun g hg=>(r3 g hg).1⟩
end
noncomputable def xyS9:Code:=yS9
section
variable {F:Machine→Trace→Prop} {E:Env} {w:World}
theorem within_b {E0:Env} {w0:World} {T:Array Value} {ts its:List (List Int)} {picks within:List Int} {drain:Bool} {z1 z2:RA × Int} {tv1 tv2 wv ov1 ov2 lv:Value} {C TB:Nat→Nat} {bb B pcap:Nat} {ta1 pa:Option Addr} {b1 o1 cap1 pb po:Nat} {LA1:Nat→Option Addr} {LC1:Nat→Nat} (S:StW E0 w0 E w T ts its drain z1 z2 tv1 tv2 (.slice pa picks.length pcap) wv ov1 ov2 lv C TB bb B) (htv:tv1=.slice ta1 ts.length cap1) (I:InnF E0 w0 its within drain z2 tv2 wv) (hT1:IntssL E0 w0 ta1 b1 o1 LA1 LC1 ts)
    (hpa:picks≠[]→pa=some ⟨pb,po,none⟩) (hps:∀ i p,picks[i]?=some p→w0.cell? ⟨pb,po+i,none⟩=some (.int .i64 p)∧E0.H pb=none) (hz1:(runG ts).Run picks drain (ra0 ts ts.length) z1) (hl:∀ l ∈ ts,l.length≤100000000000) (hnp:picks.length≤1000000000000000) (hp64:∀ p ∈ picks,-9223372036854775808≤p∧p≤9223372036854775807) (hml:(rTl ts z1).length≤1000000000000) (hrole:E0.role 0=.gone) (hmode:∀ b,E0.mode b=0)
    (hc:∀ E' w' T todo,Kept 0 none E0 w0 E' w'→Stands E0 w0 E' w'→T[10]?=some (.bool true)→HG Try.prog 0 F E' (G { (base 8).at ⟨T,[]⟩ todo with mode:=.returning } []) w') :
    HG Try.prog 0 F E (G ((base 8).at ⟨T,[]⟩ [.code yT9]) []) w:=by
  obtain ⟨f,hf,fz⟩:=arrfv T S.sz
  have e2:=fz 2 _ S.t2
  have e9:=fz 9 _ S.t9
  have e19:=fz 19 _ S.t19
  refine HG.withH fun hWH _=>?_
  have W7:E.W (C 7)=false:=by
    cases e:E.W (C 7) with
    | false=>rfl
    | true=>have:=hWH _ e; rw [S.c7.2] at this; cases this
  have c7:=S.c7.1
  have r0:=S.kept.le.roleH.trans hrole
  have m0:=fun b=>S.kept.le.mode b (hmode b)
  have hrun:=fun {b₀ a₀ ops₀ i₀ rest₀ k₀ cl} hh=>within_run (F:=F) (b₀:=b₀) (a₀:=a₀) (ops₀:=ops₀) (i₀:=i₀) (rest₀:=rest₀) (k₀:=k₀) (cl:=cl) S htv I hT1 hpa hps hz1 hl hnp hp64 r0 m0 hh
  have hfin:∀ E1 w1 mv (T1:Array Value),Kept 0 none E w E1 w1→Stands E0 w0 E1 w1→w1.cell? ⟨C 3,0,none⟩=some (.pointer (some ⟨bb,0,none⟩))∧E1.H (C 3)=none→w1.heap[bb]?=some (.cells #[mv] 63)→E1.H bb=none→TldV E1 w1 mv (rTl ts z1)→TldV E1 w1 ov1 (rTl ts z1)→E1.H (C 9)=none∧w1.heap[C 9]?=some (.cells #[.bool true] 4)→T1.size=74→(∀ j,j < 20→T1[j]?=T[j]?)→T1[21]?=some (.int .i64 (rK ts z1))→HG Try.prog 0 F E1 (G ((base 8).at ⟨T1,[]⟩ [.code yT10]) []) w1:=fun E1 w1 mv T1 hK1 hS1 d3 dbb dbH hM hO d9 s1 p1 r21=>by
    have kp1:=S.kept.trans hK1
    obtain ⟨f1,hf1,fz1⟩:=arrfv T1 s1
    rw [yT10_parts]
    change HGn Try.prog 0 F E1 w1 100 _
    refine Idl.step (idl_hg Try.prog 0 F E1 w1) _ _ _ rfl (fun _=>stepG_seq) ?_
    refine HG.fstep closed_rn (by kernel_rfl) (by rfl) (R:=fun T' x x'=>T'.size=74∧(∀ j,j < 22→T'[j]?=T1[j]?)∧T'[22]?=some (.bool true)) (fun x hxs hx=>?_) (fun E2 w2 T2 x x' hK2 hH2 hxs hx hx' hB2 hS2 hR=>?_)
    · rw [hf1]
      have x3:x.cell? ⟨C 3,0,none⟩=some (.pointer (some ⟨bb,0,none⟩)):=(World.cell?_of_block (a:=⟨C 3,0,none⟩) (hx _ d3.2)).trans d3.1
      refine yS10_wp (fz1 16 _ ((p1 16 (by decide)).trans S.t16)) (fz1 12 _ ((p1 12 (by decide)).trans S.t12)) x3 (obj_cell ((hx _ dbH).trans dbb) rfl) (told_same (TldAt.of_owns (hM.toX hx)) (TldAt.of_owns (hO.toX hx)) hml) (fun e x' h=>⟨_,h.1⟩) (fun T' x' a1 a2 a3=>?_)
      obtain ⟨rv,⟨e,n,rfl⟩,a4⟩:=a3
      cases e
      refine ⟨rfl,rfl,fun b hb=>rfl,a1,fun j hj=>?_,a4⟩
      rw [a2 j (by omega) (by omega),arrf_get f1 (by omega)]
    obtain ⟨s2,p2,r22⟩:=hR
    obtain ⟨f2,hf2,fz2⟩:=arrfv T2 s2
    obtain ⟨g9H,g9⟩:=hS2 _ _ d9.1 d9.2
    rw [yT11_parts]
    change HGn Try.prog 0 F E2 w2 100 _
    refine Idl.step (idl_hg Try.prog 0 F E2 w2) _ _ _ rfl (fun _=>stepG_seq) ?_
    refine HG.fstep (closed_none _) (by kernel_rfl) (by rfl) (R:=fun T' x x'=>T'.size=74∧T'[10]?=some (.bool true)) (fun x hxs hx=>?_) (fun E3 w3 T3 x x' hK3 hH3 hxs hx hx' hB3 hS3 hR=>?_)
    · rw [hf2]
      refine yS11_wp (okb:=C 9) (fz2 11 _ ((p2 11 (by decide)).trans ((p1 11 (by decide)).trans S.t11))) (fz2 21 _ ((p2 21 (by decide)).trans r21)) (fz2 13 _ ((p2 13 (by decide)).trans ((p1 13 (by decide)).trans S.t13))) (fz2 22 _ r22) (fz2 17 _ ((p2 17 (by decide)).trans ((p1 17 (by decide)).trans S.t17))) (obj_cell ((hx _ g9H).trans g9) rfl) (fun T' x' a1 a2 a3 a4=>⟨rfl,rfl,fun b hb=>by rw [a4],a1,a3⟩)
    obtain ⟨s3,r10⟩:=hR
    rw [yT12_ret]
    change HGn Try.prog 0 F E3 w3 100 _
    refine Idl.step (idl_hg Try.prog 0 F E3 w3) _ _ _ rfl (fun _=>stepG_ret') ?_
    exact hc E3 w3 T3 _ ((kp1.trans hK2).trans hK3) ((hS1.trans hS2).trans hS3) r10
  rw [yT9_parts]
  rw [hf]
  change HGn Try.prog 0 F E w 100 _
  refine Idl.step (idl_hg Try.prog 0 F E w) _ _ _ rfl (fun _=>stepG_seq) ?_
  generalize hG:yT10=L at hfin ⊢
  rw [show yS9=xyS9 from rfl]
  simp only [xyS9,yS9,yT9,yT8,yT7,yT6,yT5,yT4,yT3,yT2,yT1,yT0,Try.f8,Option.getD_some,List.range,List.range.loop,List.map_cons,List.map_nil,e2,e9,e19]
  replace hf:=Lib.hid hf
  replace hfin:=Lib.hid hfin
  replace hrun:=@hrun
  clear fz hc hml hp64 hnp hl hz1 hps hpa hT1 I htv S hrole hmode r0 m0 hWH
  refine Idl.rg (idl_hg Try.prog 0 F E w) [0,1,2,3,4] rfl ?_
  iterate 2 (apply Idl.value (idl_hg Try.prog 0 F E w) rfl rfl (by first | decide | exact base_kind _ | exact baseD_kind _ | assumption); (focus (intro w; go_simp; (try w_num); first | done | rfl)); (focus (intro w; simp [go_sem, *])); walk_nrm)
  trace_state
  refine HGn.ld c7 (fun z=>by rw [W7] at z; cases z) rfl rfl (by first | decide | exact base_kind _ | exact baseD_kind _ | assumption) (fun w₁ hc₁=>⟨by go_simp,fun e he=>by (have he':=he; simp [go_sem,hc₁] at he'; exact he')⟩) ?_
  walk_nrm
  skip
  refine Idl.callE (fn:=Try.f29) (vs:=#[lv,.slice pa picks.length pcap,.bool drain]) (idl_hg Try.prog 0 F E w) rfl rfl (by k_ne) rfl Try.func29 rfl rfl (by simp [Act.eval]) ?_
  refine hrun (fun E1 w1 mv q1 q2 q3 q4 q5 q6 q7 q8=>?_)
  clear hrun
  have hk:=fun T1=>hfin.out E1 w1 mv T1 q1 q2 q3 q4 q5 q6 q7 q8
  replace hk:=Lib.hid hk
  clear q1 q2 q3 q4 q5 q6 q7 q8 c7 W7
  change HGn Try.prog 0 F E1 w1 200 _
  walk_nrm
  apply Idl.value (idl_hg Try.prog 0 F E1 w1) rfl rfl (by first | decide | exact base_kind _ | exact baseD_kind _ | assumption)
  focus (intro w; go_simp; (try w_num); first | done | rfl)
  focus (intro w; simp [go_sem, *])
  walk_nrm
  refine Idl.re (idl_hg Try.prog 0 F E1 w1) ?_
  refine hk.out _ (by simp) (fun j hj=>?_) (by simp)
  rw [hf.out,arrf_get f (by omega)]
  match j,hj with
  | 0,_ | 1,_ | 2,_ | 3,_ | 4,_ | 5,_ | 6,_ | 7,_ | 8,_ | 9,_ | 10,_ | 11,_ | 12,_ | 13,_ | 14,_ | 15,_ | 16,_ | 17,_ | 18,_ | 19,_=>simp [e2,e9,e19]
  | j+20,h=>exact absurd h (by omega)
end
section
variable {F:Machine→Trace→Prop} {E:Env} {w:World}
theorem gateWithin_walk {ts its:List (List Int)} {picks within:List Int} {drain:Bool} {tv1 tv2 pv:Value} {ta1 ta2 A3:Option Addr} {b1 o1 cap1 b2 o2 cap2 l3 cap3:Nat} {LA1 LA2:Nat→Option Addr} {LC1 LC2:Nat→Nat} (ht1:tv1=.slice ta1 ts.length cap1) (ht2:tv2=.slice ta2 its.length cap2)
    (hT1:IntssL E w ta1 b1 o1 LA1 LC1 ts) (hT2:IntssL E w ta2 b2 o2 LA2 LC2 its) (hI1:IntsAt E w pv picks) (hI2:IntsAt E w (.slice A3 l3 cap3) within) (hn1:ts.length≤1000000000000) (hn2:its.length≤1000000000000) (hl1:∀ l ∈ ts,l.length≤10000000000) (hl2:∀ l ∈ its,l.length≤10000000000) (hp1:picks.length≤10000000000) (hp2:within.length≤10000000000)
    (h641:∀ p ∈ picks,-9223372036854775808≤p∧p≤9223372036854775807) (h642:∀ p ∈ within,-9223372036854775808≤p∧p≤9223372036854775807) (hrole:E.role 0=.gone) (hmode:∀ b,E.mode b=0)
    (hc:∀ E' w' T todo,Kept 0 none E w E' w'→Stands E w E' w'→T[10]?=some (.bool true)→HG Try.prog 0 F E' (G { (base 8).at ⟨T,[]⟩ todo with mode:=.returning } []) w') :
    HG Try.prog 0 F E (entry 8 Try.f8 #[tv1,tv2,pv,.slice A3 l3 cap3,.bool drain] []) w:=by
  obtain ⟨z1,hz1⟩:=run_ex ts picks drain (ra0 ts ts.length)
  obtain ⟨z2,hz2⟩:=run_ex its within drain (ra0 its its.length)
  have hm1:=told_len hz1 hl1
  have hm2:=told_len hz2 hl2
  have hl1':∀ l ∈ ts,l.length≤100000000000:=fun l h=>Nat.le_trans (hl1 l h) (by decide)
  have hl2':∀ l ∈ its,l.length≤100000000000:=fun l h=>Nat.le_trans (hl2 l h) (by decide)
  subst ht1 ht2
  unfold entry
  rw [show Try.f8.body.getD .skip=yT0 from rfl,show Try.f8.ntmps=74 from rfl]
  refine within_a (z1:=z1) (z2:=z2) (pv:=pv) (ta1:=ta1) (ta2:=ta2) (A3:=A3) (cap1:=cap1) (cap2:=cap2) (l3:=l3) (cap3:=cap3) (drain:=drain) (by simp) (by simp) (by simp) (by simp) (by simp) (by simp) rfl hT1 hT2 hI1 hI2 hz1 hz2 hn1 hn2 hl1 hl2 hp1 hp2 h641 h642 hrole hmode (fun E' w' T' ov1 ov2 lv C TB bb B S=>?_)
  obtain ⟨pa,pb,po,pcap,rfl,hpa,hps⟩:=hI1.at_
  exact within_b S rfl ⟨⟨_,_,_,_,_,_,rfl,hT2⟩,hI2,hn2,hl2',by omega,h642,hz2,by omega⟩ hT1 hpa hps hz1 hl1' (by omega) h641 (by omega) hrole hmode hc
end
end Go.Proofs.Ytimlbbleblijnaa.Co

namespace Go.Proofs.Ytimlbbleblijnaa.Co
open Go Go.Conc Go.RowKit Go.ChangeShapes
section
variable {H:Type} {enc:TypeId × Value→H}
theorem leaving_of_cond {a:Assume} {C:Checked} {os:Os} {f:FuncId} {fn:Func} {s:OpenSpec} {k:(H:Type)→List (DataW H)→Bool} (hk:s.cond=some k) {F:Stop.Interp} {conds:List PathCond} {apart fresh handsOn again:Bool}
    (own:ownKnob C.prog.godebug=none) (started:os.Started) (hfn:C.prog.funcs[f]?=some fn)
    (witness:∃ (w:World) (tape:Tape) (i:Input),w.os=os∧(w.forCall tape i).Shaped C.prog∧i.vars=[]∧Input.okWide C.prog (w.forCall tape i) .any w.heap.size f i ∧
      s.pre6 enc C.prog fn conds apart (w.forCall tape i).memory i.args∧a.holds C.prog (lone (Frame.enter C.prog f i.args .normal) [] (w.forCall tape i)))
    (runs:∀ (W:World) (base:Nat) (args:Array Value) (ds gs:List (DataW H)) (before:List MemPlace),
      (∀ (j:Nat) t v,fn.params[j]?=some t→args[j]?=some v→Value.okWide C.prog W .any base t v) →
      DataW.Whole enc C.prog fn.params.toList s.vars apart W args.toList ds gs before→k H (ds ++ gs)=true →
      (DataW.weightsEach C.prog (fn.params.toList ++ s.bare.plain.varTypes C.prog) (ds ++ gs)).all (·≤reachBytes)=true →
      ∃ M last o w' t',runNT C.prog (M+1) (solo (G (Frame.enter C.prog f args .normal) []) W) #[]=(.ended o w',t')∧runN C.prog M (solo (G (Frame.enter C.prog f args .normal) []) W)=.next last ∧
        step C.prog last=.ended o w'∧Go.Conc.Good C.prog (fun v W'=>(s.at F).post enc C.prog fn apart fresh handsOn again W args v W') last o w' t') :
    ReturnsInLeavingWide a C os f .any (s.pre6 enc C.prog fn conds apart) ((s.at F).post enc C.prog fn apart fresh handsOn again):=by
  refine returnsInLeavingWide_of_good own started witness ?_
  intro w tape i _ _ _ hok hpre hholds
  obtain ⟨_,_,_,fn',hfn',_,_,_,_,hval⟩:=hok
  obtain rfl:fn'=fn:=Option.some.inj (hfn'.symm.trans hfn)
  obtain ⟨ds,gs,before,hw,_,hkk⟩:=(OpenSpec.pre_some hk conds apart _ _).1 hpre.1
  obtain ⟨M,last,o,w',t',h1,h2,h3,h4⟩:=runs (w.forCall tape i) w.heap.size i.args ds gs before hval (DataW.Whole.of_heap (w':=w.forCall tape i) (by rfl) hw) hkk (hpre.2.weights hw)
  exact ⟨M,last,o,w',t',h1,h2,h3,h4.mono fun v hp=>ChangeSpec.post_blind hp⟩
end
theorem holds_leaving {p:Pinned} {s:OpenSpec} {c:OpenClaim} (f:FuncId) (fn:Func)
    (hn:c.program=p.name) (hs:c.sum=p.sum) (hsp:c.spec=s.name)
    (hstart:c.start=.entering) (hout:c.outside=[]) (hin:c.inits=[]) (hun:c.under=none) (hi4:c.initsInPlace=[]∧c.initsUnfollowed=false∧c.initsRecurse=false∧c.initsNamed=[]∧c.initsPassed=[]) (hnb:c.noBlocks=false) (hlv:c.leaving=true) (hfo:c.followed=none) (hnar:c.narrowed=s.cond.isSome) (hstill:c.still=false)
    (hfn:p.checked.prog.funcNamed c.func=some f) (hf:p.checked.prog.funcs[f]?=some fn)
    (closed:joinedFacts p.checked.prog f fn s.bare c=true)
    (hinst:fn.isInstance p.checked.prog c.origin c.targs) (hwrap:fn.isWrapper p.checked.prog c.wrapper c.mainSum)
    (h:∀ os:Os,os.Started→∀ (H:Type) (enc:TypeId × Value→H),(∀ a b,enc a=enc b→a=b)→∀ F:Stop.Interp,
      ReturnsInLeavingWide c.assume p.checked os f .any (c.pre enc p.checked.prog fn s) ((s.at F).post enc p.checked.prog fn c.apart c.fresh c.handsOn c.again)):c.holds p s:=by
  simp only [joinedFacts,Bool.and_eq_true,beq_iff_eq,Array.all_eq_true_iff_forall_mem,List.all_eq_true,decide_eq_true_eq] at closed
  obtain ⟨⟨⟨⟨⟨⟨⟨⟨⟨⟨⟨⟨⟨⟨⟨⟨⟨⟨⟨⟨⟨⟨⟨⟨⟨⟨⟨⟨⟨⟨⟨k1,k2⟩,k3⟩,k4⟩,k5⟩,k6⟩,k7⟩,k8⟩,k9⟩,k10⟩,k11⟩,k12⟩,k13⟩,k14⟩,k15⟩,k16⟩,k17⟩,k17b⟩,k18⟩,k19⟩,k20⟩,k21⟩,k22⟩,k23⟩,k23b⟩,k24⟩,k24b⟩,k24c⟩,k25⟩,k26⟩,k27⟩,k28⟩:=closed
  have hq:∀ os:Os,Stop.quiet p.checked.prog os:=fun os k hk=>by rw [k9] at hk; cases hk
  refine ⟨k1,hn,hs,hsp,k2,k3,by unfold OpenClaim.startFits; rw [hstart]; exact k24,by unfold OpenClaim.startTold; rw [hstart]; exact ⟨hin,hun,hi4⟩,f,fn,hfn,hf,⟨k4,k19⟩,(fun hb=>by rw [hnb] at hb; cases hb),by unfold OpenClaim.namedList; rw [hfo]; exact k5,hinst,hwrap,
    k6.trans k7.symm,⟨k8.trans k9.symm,by unfold Program.envWorded; rw [k9]; rfl,k23b⟩,k10,k11,k12,k13,k14,⟨k15,k27,k28⟩,⟨k16,k20⟩,⟨k17,k21,k25,k26⟩,⟨k22,k24b,k24c,k17b⟩,(by rw [hout,hnar]; cases hsh:c.shortTexts with | none=>simp | some _=>rw [hsh] at k23; cases k23),fun n hn'=>varReadable_some (k18 n hn'),
    ⟨_,by unfold OpenClaim.world; rw [hout,hstart]; exact WideRow.started_initial,hq _⟩,[],by unfold OpenClaim.lists; rw [hfo],fun os st _ H enc inj=>?_⟩
  have st':os.Started:=by unfold OpenClaim.world at st; rw [hout,hstart] at st; exact st
  rw [OpenClaim.post_not_still hstill]
  unfold OpenClaim.form
  rw [hstart,k6]
  intro F
  have e1:c.okInput=Input.okWide:=by unfold OpenClaim.okInput; rw [hnb]
  have e2:c.atReturn p.checked.prog=leavingAtReturn p.checked.prog:=by unfold OpenClaim.atReturn; rw [hlv]
  have e3:c.always p.checked.prog []=nothingAlways:=by unfold OpenClaim.always; rw [hfo]
  have e4:s.post enc p.checked.prog fn F c.outside c.apart c.fresh c.handsOn c.again=(s.at F).post enc p.checked.prog fn c.apart c.fresh c.handsOn c.again:=by rw [hout]; rfl
  rw [e1,e2,e3]
  show ReturnsInOpen _ _ _ _ _ _ _ _ (s.post enc p.checked.prog fn F c.outside c.apart c.fresh c.handsOn c.again) _ _
  rw [e4]
  exact h os st' H enc inj F k24
end Go.Proofs.Ytimlbbleblijnaa.Co
