/- Lemmas for the laws of this seat, laid together of POm, PHj, PGdf, PNd, PGdg. -/
import Derived.Test.YtimlbbleblijnaaX17
import Derived.Test.YtimlbbleblijnaaX18
import Derived.Test.YtimlbbleblijnaaX19
import Derived.Test.YtimlbbleblijnaaX25
import Derived.Test.YtimlbbleblijnaaX30
import Derived.Test.YtimlbbleblijnaaRows
import Derived.ProofKit
import Derived.SizedLaws
import Derived.ChangeArms
import Derived.ChangeSame
import Derived.Lib.SmallJoins
import Derived.OpenShut
import Derived.Deep.Strs
import Derived.Deep.CondSized

set_option linter.unusedVariables false
set_option linter.unusedSimpArgs false
set_option maxRecDepth 100000
set_option maxHeartbeats 4000000
namespace Go.Proofs.Ytimlbbleblijnaa.Co
open Go Go.Conc Go.RowKit
open Go.ConcN (sumTo upd sumTo_upd upd_ne upd_same sumTo_congr le_sumTo)
structure Pw7 (E0:Env) (w0:World) (E:Env) (w:World) (T:Array Value) (n:Int) (ts:List (List Op3)) (picks:List Int) (drain:Bool) (z:WA × Int) (ov pv' mv hv xv uv yv vv:Value) (LB:Nat→Nat) (B:Nat):Prop where
 sz:T.size=182
 t0:T[0]?=some (.int .i64 n)
 t3:T[3]?=some (.bool drain)
 t9:T[9]?=some (.bool true)
 t10:T[10]?=some ov
 t11:T[11]?=some pv'
 t12:T[12]?=some mv
 t13:T[13]?=some hv
 t14:T[14]?=some xv
 t15:T[15]?=some uv
 t16:T[16]?=some yv
 t17:T[17]?=some vv
 kept:Kept 0 none E0 w0 E w
 st:Stands E0 w0 E w
 hO:OwnV E w ov LB ts
 hP:NumV E w 3 pv' picks
 hM:MarkV E w mv (rWm n ts z)
 hH:NumV E w 2 hv (rWh n ts z)
 hX:MarkV E w xv (rWm n ts z)
 hU:NumV E w 2 uv (rWh n ts z)
 hY:MarkV E w yv (rWm n ts z)
 hV:NumV E w 2 vv (rWh n ts z)
 d1:∀ g,ov.ownBlock=some g→g < B
 d2:∀ i,i < ts.length→LB i < B
 dP:∀ g,pv'.ownBlock=some g→B≤g
 dM:∀ g,mv.ownBlock=some g→B≤g
 dH:∀ g,hv.ownBlock=some g→B≤g
 dX:∀ g,xv.ownBlock=some g→B≤g
 dU:∀ g,uv.ownBlock=some g→B≤g
 dY:∀ g,yv.ownBlock=some g→B≤g
 dV:∀ g,vv.ownBlock=some g→B≤g
 xy:∀ g,xv.ownBlock=some g→yv.ownBlock≠some g
 xu:∀ g,xv.ownBlock=some g→uv.ownBlock≠some g
 xv':∀ g,xv.ownBlock=some g→vv.ownBlock≠some g
 yu:∀ g,yv.ownBlock=some g→uv.ownBlock≠some g
 yv':∀ g,yv.ownBlock=some g→vv.ownBlock≠some g
 uv':∀ g,uv.ownBlock=some g→vv.ownBlock≠some g
 n1:w0.heap.size≤B
 n2:∀ i,i < ts.length→w0.heap.size≤LB i
section
variable {F:Machine→Trace→Prop} {E:Env} {w:World}
theorem wplays_c {E0:Env} {w0:World} {T:Array Value} {n:Int} {ts:List (List Op3)} {picks:List Int} {drain:Bool} {z:WA × Int} {tv pv ov pv' mv hv xv uv yv vv:Value} {LB:Nat→Nat} {B:Nat} (S:Pw7 E0 w0 E w T n ts picks drain z ov pv' mv hv xv uv yv vv LB B) (t1:T[1]?=some tv) (t2:T[2]?=some pv) (hT:OpsAt E w tv ts) (hI:IntsAt E w pv picks)
  (hz:(wordG n.toNat ts).Run picks drain (wa0 ts) z) (hn:ts.length≤1000000000000) (hpl:picks.length≤10000000000) (hll:∀ l ∈ ts,l.length≤10000000000) (hp64:∀ p ∈ picks,-9223372036854775808≤p∧p≤9223372036854775807) (ho64:∀ l ∈ ts,∀ op ∈ l,I64 op.1∧I64 op.2.1∧I64 op.2.2) (hrole:E0.role 0=.gone) (hmode:∀ b,E0.mode b=0)
  (hc:∀ E' w' T todo,Kept 0 none E0 w0 E' w'→Stands E0 w0 E' w'→T[8]?=some (.bool true)→HG Try.prog 0 F E' (G { (base 9).at ⟨T,[]⟩ todo with mode:=.returning } []) w') :
  HG Try.prog 0 F E (G ((base 9).at ⟨T,[]⟩ [.code pwT7]) []) w:=by
 have hll':∀ l ∈ ts,l.length≤100000000000:=fun l hl=>Nat.le_trans (hll l hl) (by decide)
 have hml:=rWm_len hz hll
 have hhl:=rWh_len (n:=n) (ts:=ts) (z:=z)
 obtain ⟨z2,hz2⟩:=word_ex n.toNat (gT xorV ts) picks drain
 have hlli:∀ l ∈ gT xorV ts,l.length≤10000000000:=gT_lens hll
 have hml2:=rWm_len hz2 hlli
 have hhl2:=rWh_len (n:=n) (ts:=gT xorV ts) (z:=z2)
 have hnl:=gT_len xorV ts
 have ho642:=gT_64 ho64
 obtain ⟨p0,p1,p2,p3,p4,p5,p6,p7,p8,p9,p10,p14,p16,p23,p24,p25,p26,p27,p28⟩:=pw_parts
 obtain ⟨sz,t0,t3,t9,t10,t11,t12,t13,t14,t15,t16,t17,kp,st,hO,hP,hM,hH,hX,hU,hY,hV,d1,d2,dP,dM,dH,dX,dU,dY,dV,xy,xu,xv',yu,yv',uv',n1,n2⟩:=S
 change HGn Try.prog 0 F E w 100 _
 rw [p7,p8,p9,p10,p14,p16]
 clear p0 p1 p2 p3 p4 p5 p6 p7 p8 p9 p10 p14 p16
 refine Idl.step (idl_hg Try.prog 0 F E w) _ _ _ rfl (fun _=>stepG_seq) ?_
 refine pw7 (by rfl) sz t14 t12 t15 t13 hX hM hU hH (by omega) (by omega) (fun E1 w1 T1 hK1 hS1 s1 o1 r1=>?_)
 change HGn Try.prog 0 F E1 w1 100 _
 refine Idl.step (idl_hg Try.prog 0 F E1 w1) _ _ _ rfl (fun _=>stepG_seq) ?_
 have q1:∀ j,j < 18→T1[j]?=T[j]?:=fun j hj=>o1 j (by omega) (by omega)
 refine pw8 (by rfl) s1 ((q1 16 (by decide)).trans t16) ((q1 12 (by decide)).trans t12) ((q1 17 (by decide)).trans t17) ((q1 13 (by decide)).trans t13) (hY.stands hS1) (hM.stands hS1) (hV.stands hS1) (hH.stands hS1) (by omega) (by omega) (fun E2 w2 T2 hK2 hS2' s2 o2 r2=>?_)
 have hS2:=hS1.trans hS2'
 have q2:∀ j,j < 18→T2[j]?=T[j]?:=fun j hj=>(o2 j (by omega) (by omega)).trans (q1 j hj)
 change HGn Try.prog 0 F E2 w2 100 _
 refine Idl.step (idl_hg Try.prog 0 F E2 w2) _ _ _ rfl (fun _=>stepG_seq) ?_
 refine pw9 (by rfl) s2 ((q2 10 (by decide)).trans t10) ((q2 1 (by decide)).trans t1) (hO.stands hS2) (hT.stands hS2) hn hll' (fun E3 w3 T3 hK3 hS3' s3 o3 r3=>?_)
 have hS3:=hS2.trans hS3'
 have q3:∀ j,j < 18→T3[j]?=T[j]?:=fun j hj=>(o3 j (by omega) (by omega)).trans (q2 j hj)
 change HGn Try.prog 0 F E3 w3 100 _
 refine Idl.step (idl_hg Try.prog 0 F E3 w3) _ _ _ rfl (fun _=>stepG_seq) ?_
 refine pw10 (by rfl) s3 ((q3 11 (by decide)).trans t11) ((q3 2 (by decide)).trans t2) r3 (hP.stands hS3) (hI.stands hS3) (by omega) (fun E4 w4 T4 hK4 hS4' s4 o4=>?_)
 have hS4:=hS3.trans hS4'
 have q4:∀ j,j < 18→T4[j]?=T[j]?:=fun j hj=>(o4 j (by omega) (by omega)).trans (q3 j hj)
 change HGn Try.prog 0 F E4 w4 100 _
 refine Idl.step (idl_hg Try.prog 0 F E4 w4) _ _ _ rfl (fun _=>stepG_seq) ?_
 refine pw14 (by rfl) s4 ((q4 9 (by decide)).trans t9) ((o4 18 (by decide) (by decide)).trans ((o3 18 (by decide) (by decide)).trans ((o2 18 (by decide) (by decide)).trans r1))) ((o4 19 (by decide) (by decide)).trans ((o3 19 (by decide) (by decide)).trans r2)) ((o4 20 (by decide) (by decide)).trans r3) (fun E5 w5 T5 hK5 hS5' s5 o5=>?_)
 have hS5:=hS4.trans hS5'
 have q5:∀ j,j < 18→T5[j]?=T[j]?:=fun j hj=>(o5 j (by omega)).trans (q4 j hj)
 have kp5:Kept 0 none E0 w0 E5 w5:=((((kp.trans hK1).trans hK2).trans hK3).trans hK4).trans hK5
 have st5:Stands E0 w0 E5 w5:=st.trans hS5
 have hO5:=hO.stands hS5
 have hP5:=hP.stands hS5
 have hM5:=hM.stands hS5
 have hH5:=hH.stands hS5
 have hX5:=hX.stands hS5
 have hU5:=hU.stands hS5
 have hY5:=hY.stands hS5
 have hV5:=hV.stands hS5
 clear hK1 hK2 hK3 hK4 hK5 hS1 hS2 hS2' hS3 hS3' hS4 hS4' hS5 hS5' hO hP hM hH hX hU hY hV hT hI kp st o1 o2 o3 o4 o5 q1 q2 q3 q4 r1 r2 r3
 change HGn Try.prog 0 F E5 w5 100 _
 refine Idl.step (idl_hg Try.prog 0 F E5 w5) _ _ _ rfl (fun _=>stepG_seq) ?_
 refine pw16 (by rfl) s5 ((q5 10 (by decide)).trans t10) hO5 hn hll' (fun E6 w6 T6 hK6 hS6 s6 o6 hO6=>?_)
 have e6:∀ g,B≤g→¬ ∃ i,i < ts.length∧g=LB i:=fun g hg ⟨i,hi,e⟩=>by have:=d2 i hi; omega
 have hP6:=hP5.but hS6 (fun g hg=>e6 g (dP g hg))
 have hM6:=hM5.but hS6 (fun g hg=>e6 g (dM g hg))
 have hH6:=hH5.but hS6 (fun g hg=>e6 g (dH g hg))
 have hX6:=hX5.but hS6 (fun g hg=>e6 g (dX g hg))
 have hU6:=hU5.but hS6 (fun g hg=>e6 g (dU g hg))
 have hY6:=hY5.but hS6 (fun g hg=>e6 g (dY g hg))
 have hV6:=hV5.but hS6 (fun g hg=>e6 g (dV g hg))
 have st6:=st5.but hS6 (fun c hc ⟨i,hi,e⟩=>by have:=n2 i hi; omega)
 have q6:∀ j,j < 18→T6[j]?=T[j]?:=fun j hj=>(o6 j (by omega) (by omega) (by omega)).trans (q5 j hj)
 have kp6:Kept 0 none E0 w0 E6 w6:=kp5.trans hK6
 clear hO5 hP5 hM5 hH5 hX5 hU5 hY5 hV5 st5 q5 kp5
 rw [p23]
 change HGn Try.prog 0 F E6 w6 100 _
 refine Idl.step (idl_hg Try.prog 0 F E6 w6) _ _ _ rfl (fun _=>stepG_seq) ?_
 refine pw23 (by rfl) s6 ((q6 0 (by decide)).trans t0) ((q6 10 (by decide)).trans t10) ((q6 11 (by decide)).trans t11) ((q6 3 (by decide)).trans t3) hz2 hO6.at hP6.at hpl hlli hp64 ho642 (fun E7 w7 T7 nv kv hK7 hS7 s7 o7 r7 r7' hN7 hL7 hb7 hb7'=>?_)
 have q7:∀ j,j < 18→T7[j]?=T[j]?:=fun j hj=>(o7 j (by omega) (by omega) (by omega)).trans (q6 j hj)
 have kp7:Kept 0 none E0 w0 E7 w7:=kp6.trans hK7
 rw [p24]
 change HGn Try.prog 0 F E7 w7 100 _
 refine Idl.step (idl_hg Try.prog 0 F E7 w7) _ _ _ rfl (fun _=>stepG_seq) ?_
 refine pw24 s7 ((q7 0 (by decide)).trans t0) ((q7 10 (by decide)).trans t10) ((q7 11 (by decide)).trans t11) ((q7 3 (by decide)).trans t3) hz2 (hO6.stands hS7).at (hP6.stands hS7).at hpl hlli hp64 ho642 (kp7.le.roleH.trans hrole) (fun b=>kp7.le.mode b (hmode b)) (fun E8 w8 T8 zv jv hK8 hS8' s8 o8 r8 r8' hZ8 hJ8 hb8 hb8' _=>?_)
 have hS8:=hS7.trans hS8'
 have q8:∀ j,j < 18→T8[j]?=T[j]?:=fun j hj=>(o8 j (by omega) (by omega) (by omega)).trans (q7 j hj)
 have kp8:Kept 0 none E0 w0 E8 w8:=kp7.trans hK8
 have st8:=st6.trans hS8
 have hM8:=hM6.stands hS8
 have hH8:=hH6.stands hS8
 have hX8:=hX6.stands hS8
 have hU8:=hU6.stands hS8
 have hY8:=hY6.stands hS8
 have hV8:=hV6.stands hS8
 rw [p25]
 change HGn Try.prog 0 F E8 w8 100 _
 refine Idl.step (idl_hg Try.prog 0 F E8 w8) _ _ _ rfl (fun _=>stepG_seq) ?_
 refine pw25 (by rfl) s8 r8 ((o8 24 (by decide) (by decide) (by decide)).trans r7) r8' ((o8 25 (by decide) (by decide) (by decide)).trans r7') hZ8 (hN7.stands hS8') hJ8 (hL7.stands hS8') (by omega) (by omega) (fun Ea wa Ta hKa hSa sa oa ra=>?_)
 have qa:∀ j,j < 18→Ta[j]?=T[j]?:=fun j hj=>(oa j (by omega) (by omega)).trans (q8 j hj)
 rw [p26]
 change HGn Try.prog 0 F Ea wa 100 _
 refine Idl.step (idl_hg Try.prog 0 F Ea wa) _ _ _ rfl (fun _=>stepG_seq) ?_
 refine pw26 (by rfl) sa ((qa 14 (by decide)).trans t14) ((qa 12 (by decide)).trans t12) ((qa 15 (by decide)).trans t15) ((qa 13 (by decide)).trans t13) (hX8.stands hSa) (hM8.stands hSa) (hU8.stands hSa) (hH8.stands hSa) (by omega) (by omega) (fun Eb wb Tb hKb hSb' sb ob rb=>?_)
 have hSb:=hSa.trans hSb'
 have qb:∀ j,j < 18→Tb[j]?=T[j]?:=fun j hj=>(ob j (by omega) (by omega)).trans (qa j hj)
 rw [p27]
 change HGn Try.prog 0 F Eb wb 100 _
 refine Idl.step (idl_hg Try.prog 0 F Eb wb) _ _ _ rfl (fun _=>stepG_seq) ?_
 refine pw27 (by rfl) sb ((qb 14 (by decide)).trans t14) ((qb 16 (by decide)).trans t16) ((qb 15 (by decide)).trans t15) ((qb 17 (by decide)).trans t17) (hX8.stands hSb) (hY8.stands hSb) (hU8.stands hSb) (hV8.stands hSb) xy xu xv' yu yv' uv' (by omega) (by omega) (by omega) (by omega) (fun Ec wc Tc hKc hSc sc oc rc=>?_)
 have stc:=(st8.trans hSb).but hSc (fun c hc e=>by
  rcases e with e | e | e | e
  ·have:=dX c e; omega
  ·have:=dY c e; omega
  ·have:=dU c e; omega
  ·have:=dV c e; omega)
 rw [p28]
 change HGn Try.prog 0 F Ec wc 100 _
 refine Idl.step (idl_hg Try.prog 0 F Ec wc) _ _ _ rfl (fun _=>stepG_seq) ?_
 refine pw28 (by rfl) sc ((oc 28 (by decide) (by decide)).trans ((ob 28 (by decide) (by decide)).trans ra)) ((oc 29 (by decide) (by decide)).trans rb) rc (fun Ed wd Td hKd hSd sd rd=>?_)
 change HGn Try.prog 0 F Ed wd 100 _
 refine Idl.step (idl_hg Try.prog 0 F Ed wd) _ _ _ rfl (fun _=>stepG_ret') ?_
 exact hc Ed wd Td _ ((((kp8.trans hKa).trans hKb).trans hKc).trans hKd) (stc.trans hSd) rd
theorem wordPlays_tail {n:Int} {ts:List (List Op3)} {picks:List Int} {drain:Bool} {tv pv:Value} {T:Array Value} (hs:T.size=182) (t0:T[0]?=some (.int .i64 n)) (t1:T[1]?=some tv) (t2:T[2]?=some pv) (t3:T[3]?=some (.bool drain)) (t9:T[9]?=some (.bool true))
  (hT:OpsAt E w tv ts) (hP:IntsAt E w pv picks) (hn:ts.length≤1000000000000) (hpl:picks.length≤10000000000) (hll:∀ l ∈ ts,l.length≤10000000000) (hp64:∀ p ∈ picks,-9223372036854775808≤p∧p≤9223372036854775807) (ho64:∀ l ∈ ts,∀ op ∈ l,I64 op.1∧I64 op.2.1∧I64 op.2.2) (hrole:E.role 0=.gone) (hmode:∀ b,E.mode b=0)
  (hc:∀ E' w' T todo,Kept 0 none E w E' w'→Stands E w E' w'→T[8]?=some (.bool true)→HG Try.prog 0 F E' (G { (base 9).at ⟨T,[]⟩ todo with mode:=.returning } []) w') :
  HG Try.prog 0 F E (G ((base 9).at ⟨T,[]⟩ [.code pwT2]) []) w:=by
 obtain ⟨z,hz⟩:=word_ex n.toNat ts picks drain
 have hll':∀ l ∈ ts,l.length≤100000000000:=fun l hl=>Nat.le_trans (hll l hl) (by decide)
 obtain ⟨-,-,p2,p3,p4,p5,p6,-⟩:=pw_parts
 rw [p2,p3,p4,p5,p6]
 change HGn Try.prog 0 F E w 100 _
 refine Idl.step (idl_hg Try.prog 0 F E w) _ _ _ rfl (fun _=>stepG_seq) ?_
 refine pw2 (by rfl) hs t1 hT hn hll' (fun E1 w1 T1 ov LB hK1 hS1 s1 o1 r1 hO1 hLB=>?_)
 change HGn Try.prog 0 F E1 w1 100 _
 refine Idl.step (idl_hg Try.prog 0 F E1 w1) _ _ _ rfl (fun _=>stepG_seq) ?_
 have q1:∀ j,j < 10→T1[j]?=T[j]?:=fun j hj=>o1 j (by omega) (by omega)
 refine pw3 (by rfl) s1 ((q1 2 (by decide)).trans t2) (hP.stands hS1) (Nat.le_trans hpl (by decide)) (fun E2 w2 T2 pv' hK2 hS2 s2 o2 r2 hP2 hb2=>?_)
 have q2:∀ j,j < 10→T2[j]?=T[j]?:=fun j hj=>(o2 j (by omega) (by omega)).trans (q1 j hj)
 have hS12:=hS1.trans hS2
 change HGn Try.prog 0 F E2 w2 100 _
 refine Idl.step (idl_hg Try.prog 0 F E2 w2) _ _ _ rfl (fun _=>stepG_seq) ?_
 refine pw4 (by rfl) s2 ((q2 0 (by decide)).trans t0) ((q2 1 (by decide)).trans t1) ((q2 2 (by decide)).trans t2) ((q2 3 (by decide)).trans t3) hz (hT.stands hS12) (hP.stands hS12) hpl hll hp64 ho64 (fun E3 w3 T3 mv hv hK3 hS3 s3 o3 r3 r3' hM3 hH3 hb3 hb3'=>?_)
 have q3:∀ j,j < 10→T3[j]?=T[j]?:=fun j hj=>(o3 j (by omega) (by omega) (by omega)).trans (q2 j hj)
 have u10:T3[10]?=some ov:=(o3 10 (by decide) (by decide) (by decide)).trans ((o2 10 (by decide) (by decide)).trans r1)
 have u11:T3[11]?=some pv':=(o3 11 (by decide) (by decide) (by decide)).trans r2
 have kp3:=(hK1.trans hK2).trans hK3
 have hS23:=hS2.trans hS3
 have hO3:=hO1.stands hS23
 have hP3:=hP2.stands hS3
 change HGn Try.prog 0 F E3 w3 100 _
 refine Idl.step (idl_hg Try.prog 0 F E3 w3) _ _ _ rfl (fun _=>stepG_seq) ?_
 refine pw5 s3 ((q3 0 (by decide)).trans t0) u10 u11 ((q3 3 (by decide)).trans t3) hz hO3.at hP3.at hpl hll hp64 ho64 (kp3.le.roleH.trans hrole) (fun b=>kp3.le.mode b (hmode b)) (fun E4 w4 T4 xv uv hK4 hS4 s4 o4 r4 r4' hX hU hb4 hb4' xu=>?_)
 have kp4:=kp3.trans hK4
 have q4:∀ j,j < 14→T4[j]?=T3[j]?:=fun j hj=>o4 j (by omega) (by omega) (by omega)
 change HGn Try.prog 0 F E4 w4 100 _
 refine Idl.step (idl_hg Try.prog 0 F E4 w4) _ _ _ rfl (fun _=>stepG_seq) ?_
 refine pw6 s4 ((q4 0 (by decide)).trans ((q3 0 (by decide)).trans t0)) ((q4 10 (by decide)).trans u10) ((q4 11 (by decide)).trans u11) ((q4 3 (by decide)).trans ((q3 3 (by decide)).trans t3)) hz (hO3.stands hS4).at (hP3.stands hS4).at hpl hll hp64 ho64 (kp4.le.roleH.trans hrole) (fun b=>kp4.le.mode b (hmode b)) (fun E5 w5 T5 yv vv hK5 hS5 s5 o5 r5 r5' hY hV hb5 hb5' yv'=>?_)
 have hS45:=hS4.trans hS5
 have q5:∀ j,j < 14→T5[j]?=T3[j]?:=fun j hj=>(o5 j (by omega) (by omega) (by omega)).trans (q4 j hj)
 have g12:w1.heap.size≤w2.heap.size:=hK2.size
 have g23:w2.heap.size≤w3.heap.size:=hK3.size
 have g34:w3.heap.size≤w4.heap.size:=hK4.size
 have hX4:=hX.lt
 have hU4:=hU.lt
 refine wplays_c (E0:=E) (w0:=w) (T:=T5) (n:=n) (ts:=ts) (picks:=picks) (drain:=drain) (z:=z) (tv:=tv) (pv:=pv) (ov:=ov) (pv':=pv') (mv:=mv) (hv:=hv) (xv:=xv) (uv:=uv) (yv:=yv) (vv:=vv) (LB:=LB) (B:=w1.heap.size)
  { sz:=s5,t0:=(q5 0 (by decide)).trans ((q3 0 (by decide)).trans t0),t3:=(q5 3 (by decide)).trans ((q3 3 (by decide)).trans t3),t9:=(q5 9 (by decide)).trans ((q3 9 (by decide)).trans t9),t10:=(q5 10 (by decide)).trans u10,t11:=(q5 11 (by decide)).trans u11,t12:=(q5 12 (by decide)).trans r3,t13:=(q5 13 (by decide)).trans r3',t14:=(o5 14 (by decide) (by decide) (by decide)).trans r4,t15:=(o5 15 (by decide) (by decide) (by decide)).trans r4',t16:=r5,t17:=r5',
    kept:=kp4.trans hK5,st:=(hS12.trans hS3).trans hS45,hO:=hO3.stands hS45,hP:=hP3.stands hS45,hM:=hM3.stands hS45,hH:=hH3.stands hS45,hX:=hX.stands hS5,hU:=hU.stands hS5,hY:=hY,hV:=hV,
    d1:=fun g hg=>(hO1.own.row.lt g hg).2,d2:=fun i hi=>(Array.getElem?_eq_some_iff.1 (hO1.own.ops i _ hi (List.getElem?_eq_getElem hi))).1,
    dP:=hb2,dM:=fun g hg=>Nat.le_trans g12 (hb3 g hg),dH:=fun g hg=>Nat.le_trans g12 (hb3' g hg),dX:=fun g hg=>by have:=hb4 g hg; omega,dU:=fun g hg=>by have:=hb4' g hg; omega,dY:=fun g hg=>by have:=hb5 g hg; omega,dV:=fun g hg=>by have:=hb5' g hg; omega,
    xy:=fun g hg e=>by have h1:=hX4 g hg; have h2:=hb5 g e; omega
    xu:=xu
    xv':=fun g hg e=>by have h1:=hX4 g hg; have h2:=hb5' g e; omega
    yu:=fun g hg e=>by have h1:=hU4 g e; have h2:=hb5 g hg; omega
    yv':=yv'
    uv':=fun g hg e=>by have h1:=hU4 g hg; have h2:=hb5' g e; omega
    n1:=hK1.size,n2:=hLB }
  ((q5 1 (by decide)).trans ((q3 1 (by decide)).trans t1)) ((q5 2 (by decide)).trans ((q3 2 (by decide)).trans t2)) (((hT.stands hS12).stands hS3).stands hS45) (((hP.stands hS12).stands hS3).stands hS45) hz hn hpl hll hp64 ho64 hrole hmode hc
noncomputable def xpS0:Code:=pwS0
noncomputable def xpS1:Code:=pwS1
theorem wordPlays_walk {n:Int} {ts:List (List Op3)} {picks:List Int} {drain:Bool} {tv pv:Value} (hT:OpsAt E w tv ts) (hP:IntsAt E w pv picks) (hn:ts.length≤1000000000000)
  (hpl:picks.length≤10000000000) (hll:∀ l ∈ ts,l.length≤10000000000) (hp64:∀ p ∈ picks,-9223372036854775808≤p∧p≤9223372036854775807) (ho64:∀ l ∈ ts,∀ op ∈ l,I64 op.1∧I64 op.2.1∧I64 op.2.2) (hrole:E.role 0=.gone) (hmode:∀ b,E.mode b=0)
  (hc:∀ E' w' T todo,Kept 0 none E w E' w'→Stands E w E' w'→T[8]?=some (.bool true)→HG Try.prog 0 F E' (G { (base 9).at ⟨T,[]⟩ todo with mode:=.returning } []) w') :
  HGn Try.prog 0 F E w 100 (entry 9 Try.f9 #[.int .i64 n,tv,pv,.bool drain] []):=by
 unfold entry
 rw [show Try.f9.body.getD .skip=.seq xpS0 (.seq xpS1 pwT2) from pw_parts.1.trans (congrArg (fun z=>Code.seq pwS0 z) pw_parts.2.1),show Try.f9.ntmps=182 from rfl]
 generalize hG2:pwT2=G2
 simp only [xpS0,xpS1,pwS0,pwS1,pwT1,pwT0,Try.f9,Option.getD_some]
 walk_nrm
 refine Idl.q (idl_hg Try.prog 0 F E w) (Idl.rg (idl_hg Try.prog 0 F E w) [0] rfl ?_)
 refine Idl.v (idl_hg Try.prog 0 F E w) ?_
 walk_nrm
 refine Idl.re (idl_hg Try.prog 0 F E w) (Idl.q (idl_hg Try.prog 0 F E w) (Idl.rg (idl_hg Try.prog 0 F E w) [0,1] rfl ?_))
 refine Idl.callE (fn:=Try.f27) (vs:=#[]) (idl_hg Try.prog 0 F E w) rfl rfl (by k_ne) rfl Try.func27 rfl rfl (by simp [Act.eval]) ?_
 refine fixed07_holds (fun E1 w1 hK1 hS1=>?_)
 have hT1:=hT.stands hS1
 have hP1:=hP.stands hS1
 have hrole1:E1.role 0=.gone:=hK1.le.roleH.trans hrole
 have hmode1:∀ b,E1.mode b=0:=fun b=>hK1.le.mode b (hmode b)
 change HGn Try.prog 0 F E1 w1 200 _
 walk_nrm
 refine Idl.v (idl_hg Try.prog 0 F E1 w1) ?_
 walk_nrm
 refine Idl.re (idl_hg Try.prog 0 F E1 w1) ?_
 rw [← hG2]
 exact wordPlays_tail (n:=n) (ts:=ts) (picks:=picks) (drain:=drain) (tv:=tv) (pv:=pv) (by simp) (by simp) (by simp) (by simp) (by simp) (by simp) hT1 hP1 hn hpl hll hp64 ho64 hrole1 hmode1 (fun E' w' T todo k s=>hc E' w' T todo (hK1.trans k) (hS1.trans s))
end
end Go.Proofs.Ytimlbbleblijnaa.Co

namespace Go.Proofs.Ytimlbbleblijnaa.Co
open Go Go.Conc Go.RowKit
def StandsB (B:Nat) (E:Env) (w:World) (E':Env) (w':World):Prop:=∀ b o,b < B→E.H b=none→w.heap[b]?=some o→E'.H b=none∧w'.heap[b]?=some o
theorem StandsB.trans {B:Nat} {E E1 E2:Env} {w w1 w2:World} (a:StandsB B E w E1 w1) (b:StandsB B E1 w1 E2 w2):StandsB B E w E2 w2:=fun c o hb h1 h2=>by
 obtain ⟨x,y⟩:=a c o hb h1 h2
 exact b c o hb x y
structure LV (ops:List Op3) (A:Option Addr) (la lo cap lbb:Nat) (E:Env) (w:World):Prop where
 box:w.heap[lbb]?=some (.cells #[.slice A ops.length cap] 32)
 boxH:E.H lbb=none
 arr:0 < ops.length→A=some ⟨la,lo,none⟩
 ops:∀ (i:Nat) (op:Op3),ops[i]?=some op→w.cell? ⟨la,lo+i * 3,none⟩=some (.int .i64 op.1)∧w.cell? ⟨la,lo+i * 3+2,none⟩=some (.int .i64 op.2.2)∧E.H la=none
theorem LV.stands {ops:List Op3} {A:Option Addr} {la lo cap lbb:Nat} {E E':Env} {w w':World} (h:LV ops A la lo cap lbb E w) (S:Stands E w E' w'):LV ops A la lo cap lbb E' w':=by
 obtain ⟨b1,b2⟩:=S lbb _ h.boxH h.box
 refine ⟨b2,b1,h.arr,fun i op hi=>?_⟩
 obtain ⟨c1,c2,c3⟩:=h.ops i op hi
 have d1:=S.cell c1 c3
 have d2:=S.cell c2 c3
 exact ⟨d1.1,d2.1,d1.2⟩
section
variable {F:Machine→Trace→Prop} {E:Env} {w:World} {ops:List Op3} {A:Option Addr} {la lo cap lbb B:Nat}
end
end Go.Proofs.Ytimlbbleblijnaa.Co

namespace Go.Proofs.Ytimlbbleblijnaa.Co
open Go Go.Conc Go.RowKit Go.ChangeShapes Go.WideShapes Go.Deep
set_option maxRecDepth 100000
theorem bulk_one {H:Type} (d:DataW H):1≤Rows.uptoBulk d:=by
 cases d with
 | lit l=>cases l <;> simp [Rows.uptoBulk]
 | nil=>simp [Rows.uptoBulk]
 | ptr d=>simp [Rows.uptoBulk]
 | slice elems spare=>simp [Rows.uptoBulk]
 | agg parts=>simp [Rows.uptoBulk]
 | iface t d=>simp [Rows.uptoBulk]
 | map entries=>simp [Rows.uptoBulk]
 | held h=>simp [Rows.uptoBulk]
theorem bulk_many {H:Type}:∀ l:List (DataW H),l.length≤Rows.uptoBulkAll l
 | []=>by simp [Rows.uptoBulkAll]
 | x :: r=>by
   have h1:=bulk_one x
   have h2:=bulk_many r
   simp only [Rows.uptoBulkAll,List.length_cons]; omega
theorem bulk_mem {H:Type}:∀ {l:List (DataW H)} {x:DataW H},x ∈ l→Rows.uptoBulk x≤Rows.uptoBulkAll l
 | y :: r,x,h=>by
   simp only [Rows.uptoBulkAll]
   rcases List.mem_cons.1 h with rfl | h
   ·omega
   ·have:=bulk_mem h
    omega
theorem pick_list {α:Type} {p:Nat→α→Prop}:∀ n,(∀ i,i < n→∃ x,p i x)→∃ l:List α,l.length=n∧∀ i (h:i < l.length),p i l[i]
 | 0,_=>⟨[],rfl,fun i h=>absurd h (by simp)⟩
 | n+1,hp=>by
   obtain ⟨l,hl,h⟩:=pick_list n (fun i hi=>hp i (by omega))
   obtain ⟨x,hx⟩:=hp n (by omega)
   refine ⟨l ++ [x],by simp [hl],fun i hi=>?_⟩
   by_cases hi':i < l.length
   ·rw [List.getElem_append_left hi']; exact h i hi'
   ·have hi2:i=l.length:=by simp at hi; omega
    subst hi2
    simp [hl,hx]
theorem add_at (b o k:Nat):(⟨b,o,none⟩:Addr).add k=⟨b,o+k,none⟩:=by
 unfold Addr.add
 by_cases h:k=0
 ·simp [h]
 ·simp [h]
theorem vis_cell {W:World} {a:Addr} {v:Value} (h:W.cell? a=some v):(Env.zero W).H a.block=none:=by
 show H0 W a.block=none
 unfold H0
 unfold World.cell? at h
 cases e:W.heap[a.block]? with
 | none=>rfl
 | some o =>
   rw [e] at h
   cases o <;> first | rfl | (exfalso; simp at h)
section
variable {H:Type} {enc:TypeId × Value→H} {W:World} {base:Nat} {spare:Nat→Bool} {held:Bool}
theorem ints_open {m:Nat} {c:Value} {y:DataW H × List MemPlace} (h:DataW.trod enc Try.prog W base spare held m 23 [c]=some y) :
  ∃ ps:List Int,IntsAt (Env.zero W) W c ps∧ps.length≤Rows.uptoBulk y.1∧∀ p ∈ ps,-9223372036854775808≤p∧p≤9223372036854775807:=by
 rcases DataW.trod_slice Try.underlying23 h with ⟨hc,hy⟩ | ⟨a,len,cap,elems,rest,n,_,hc,hy,hb,hl,hm,hlen,hel,_,_⟩
 ·obtain rfl:c=.slice none 0 0:=by simpa using hc
  exact ⟨[],⟨none,0,0,0,rfl,fun h=>absurd rfl h,fun i l hi=>by simp at hi⟩,Nat.zero_le _,fun l hl=>by cases hl⟩
 ·obtain rfl:c=.slice (some a) len cap:=by simpa using hc
  have hC:Try.prog.cellsOf 3=1:=by kernel_rfl
  rw [hC] at hel
  have key:∀ i,i < len→∃ z:Int,W.cell? (a.add (i * 1))=some (.int .i64 z)∧-9223372036854775808≤z∧z≤9223372036854775807:=by
   intro i hi
   have he:=hel i hi
   rw [List.getElem?_eq_getElem (by omega)] at he
   simp only [Option.bind_eq_some_iff] at he
   obtain ⟨cs,hcs,ht⟩:=he
   have hcc:=World.cells?_some hcs
   have hl1:cs.length=1:=hcc.2.1
   match cs,hl1 with
   | [c0],_ =>
     obtain ⟨z,e0,z0,b0⟩:=DataW.trod_int (k:=.i64) (by kernel_rfl) ht
     obtain rfl:c0=.int .i64 z:=by simpa using e0
     have hbb:=bounds_i64 b0
     refine ⟨z,?_,by omega,by omega⟩
     have:=hcc.2.2 0 (by omega)
     simpa [Addr.add] using this
  obtain ⟨zs,hzl,hp⟩:=pick_list len key
  refine ⟨zs,⟨some a,a.block,a.off,cap,by rw [hzl],fun hn=>?_,fun i p hi=>?_⟩,?_,fun p hp'=>?_⟩
  ·have h0:=(hp 0 (List.length_pos_iff.2 hn)).1
   have ha:a.add (0 * 1)=a:=by simp [Addr.add]
   rw [ha] at h0
   have hsp:=World.cell?_spot h0
   obtain ⟨ab,ao,at0⟩:=a
   simp only at hsp
   subst hsp
   rfl
  ·have hi':i < zs.length:=(List.getElem?_eq_some_iff.1 hi).1
   have h0:=(hp 0 (by omega)).1
   have ha:a.add (0 * 1)=a:=by simp [Addr.add]
   rw [ha] at h0
   have hsp:=World.cell?_spot h0
   obtain ⟨ab,ao,at0⟩:=a
   simp only at hsp
   subst hsp
   obtain ⟨w1,_⟩:=hp i hi'
   rw [add_at,Nat.mul_one] at w1
   obtain ⟨_,rfl⟩:=List.getElem?_eq_some_iff.1 hi
   have hv:=vis_cell w1
   exact ⟨w1,hv⟩
  ·rw [hzl]
   have h1:=bulk_many (elems.map (·.1))
   rw [hy]
   simp only [Rows.uptoBulk]
   rw [List.length_map] at h1
   omega
  ·obtain ⟨i,hi,rfl⟩:=List.mem_iff_getElem.1 hp'
   exact (hp i hi).2
end
end Go.Proofs.Ytimlbbleblijnaa.Co

namespace Go.Proofs.Ytimlbbleblijnaa.Co
open Go Go.Conc Go.RowKit Go.ChangeShapes Go.WideShapes Go.Deep
set_option maxRecDepth 100000
section
variable {H:Type} {enc:TypeId × Value→H} {W:World} {base:Nat} {spare:Nat→Bool} {held:Bool}
theorem one_op3 {m:Nat} {cs:List Value} {y:DataW H × List MemPlace} (h:DataW.trod enc Try.prog W base spare held m 34 cs=some y):∃ x:Op3,cs=[.int .i64 x.1,.int .i64 x.2.1,.int .i64 x.2.2]∧I64 x.1∧I64 x.2.1∧I64 x.2.2:=by
 obtain ⟨y0,y1,y2,n,hy,hl,h0,h1,h2⟩:=trod_struct3 Try.underlying34 h
 have hl2:cs.length=3:=hl.trans (by kernel_rfl)
 match cs,hl2 with
 | [c0,c1,c2],_ =>
   obtain ⟨a,e0,z0,b0⟩:=DataW.trod_int (k:=.i64) (by kernel_rfl) (show DataW.trod enc Try.prog W base spare held n _ [c0]=some y0 from h0)
   obtain ⟨b,e1,z1,b1⟩:=DataW.trod_int (k:=.i64) (by kernel_rfl) (show DataW.trod enc Try.prog W base spare held n _ [c1]=some y1 from h1)
   obtain ⟨c,e2,z2,b2⟩:=DataW.trod_int (k:=.i64) (by kernel_rfl) (show DataW.trod enc Try.prog W base spare held n _ [c2]=some y2 from h2)
   obtain rfl:c0=.int .i64 a:=by simpa using e0
   obtain rfl:c1=.int .i64 b:=by simpa using e1
   obtain rfl:c2=.int .i64 c:=by simpa using e2
   have q0:=bounds_i64 b0
   have q1:=bounds_i64 b1
   have q2:=bounds_i64 b2
   exact ⟨(a,b,c),rfl,⟨by dsimp only; omega,by dsimp only; omega⟩,⟨by dsimp only; omega,by dsimp only; omega⟩,⟨by dsimp only; omega,by dsimp only; omega⟩⟩
theorem ops_open3 {m:Nat} {c:Value} {y:DataW H × List MemPlace} (h:DataW.trod enc Try.prog W base spare held m 32 [c]=some y) :
  ∃ (A:Option Addr) (cap:Nat) (l:List Op3),c=.slice A l.length cap∧l.length≤Rows.uptoBulk y.1∧(∀ (j:Nat) (x:Op3),l[j]?=some x→I64 x.1∧I64 x.2.1∧I64 x.2.2)∧(l≠[]→∃ la lo,A=some ⟨la,lo,none⟩∧∀ j op,l[j]?=some op →
   W.cell? ⟨la,lo+j * 3,none⟩=some (.int .i64 op.1)∧W.cell? ⟨la,lo+j * 3+1,none⟩=some (.int .i64 op.2.1)∧W.cell? ⟨la,lo+j * 3+2,none⟩=some (.int .i64 op.2.2)):=by
 rcases DataW.trod_slice Try.underlying32 h with ⟨hc,hy⟩ | ⟨a,len,cap,elems,rest,n,_,hc,hy,hb,hl,hm,hlen,hel,_,_⟩
 ·obtain rfl:c=.slice none 0 0:=by simpa using hc
  exact ⟨none,0,[],rfl,Nat.zero_le _,fun j x h=>by simp at h,fun h=>absurd rfl h⟩
 ·obtain rfl:c=.slice (some a) len cap:=by simpa using hc
  have hC:Try.prog.cellsOf 34=3:=by kernel_rfl
  rw [hC] at hel
  have key:∀ i,i < len→∃ x:Op3,W.cell? (a.add (i * 3))=some (.int .i64 x.1)∧W.cell? ((a.add (i * 3)).add 1)=some (.int .i64 x.2.1)∧W.cell? ((a.add (i * 3)).add 2)=some (.int .i64 x.2.2)∧I64 x.1∧I64 x.2.1∧I64 x.2.2:=by
   intro i hi
   have he:=hel i hi
   rw [List.getElem?_eq_getElem (by omega)] at he
   simp only [Option.bind_eq_some_iff] at he
   obtain ⟨cs,hcs,ht⟩:=he
   obtain ⟨x,rfl,hxr⟩:=one_op3 ht
   have hcc:=(World.cells?_some hcs).2.2
   refine ⟨x,?_,hcc 1 (by omega),hcc 2 (by omega),hxr⟩
   have:=hcc 0 (by omega)
   simpa [Addr.add] using this
  obtain ⟨l,hll,hp⟩:=pick_list len key
  refine ⟨some a,cap,l,by rw [hll],?_,fun j x hx=>(by
   obtain ⟨hi,rfl⟩:=List.getElem?_eq_some_iff.1 hx
   exact (hp j hi).2.2.2),fun hne=>?_⟩
  ·have h1:=bulk_many (elems.map (·.1))
   rw [hy]
   simp only [Rows.uptoBulk]
   rw [List.length_map] at h1
   omega
  ·have hn:0 < l.length:=List.length_pos_iff.2 hne
   have h0:=(hp 0 hn).1
   have ha:a.add (0 * 3)=a:=by simp [Addr.add]
   rw [ha] at h0
   have hsp:=World.cell?_spot h0
   obtain ⟨ab,ao,at0⟩:=a
   simp only at hsp
   subst hsp
   refine ⟨ab,ao,rfl,fun i x hx=>?_⟩
   obtain ⟨hi,rfl⟩:=List.getElem?_eq_some_iff.1 hx
   obtain ⟨w1,w2,w3,_⟩:=hp i hi
   rw [add_at] at w1 w2 w3
   rw [add_at] at w2 w3
   exact ⟨w1,w2,w3⟩
theorem threads_open3 {m:Nat} {c:Value} {y:DataW H × List MemPlace} (h:DataW.trod enc Try.prog W base spare held m 22 [c]=some y) :
  ∃ ts:List (List Op3),OpsAt (Env.zero W) W c ts∧ts.length≤Rows.uptoBulk y.1∧(∀ l ∈ ts,l.length≤Rows.uptoBulk y.1)∧∀ l ∈ ts,∀ x ∈ l,I64 x.1∧I64 x.2.1∧I64 x.2.2:=by
 rcases DataW.trod_slice Try.underlying22 h with ⟨hc,hy⟩ | ⟨a,len,cap,elems,rest,n,_,hc,hy,hb,hl,hm,hlen,hel,_,_⟩
 ·obtain rfl:c=.slice none 0 0:=by simpa using hc
  exact ⟨[],⟨none,0,0,0,fun _=>none,fun _=>0,rfl,fun h=>absurd h (by simp),fun i l hi=>by simp at hi⟩,Nat.zero_le _,(fun l hl=>by cases hl),fun l hl=>by cases hl⟩
 ·obtain rfl:c=.slice (some a) len cap:=by simpa using hc
  have hC:Try.prog.cellsOf 32=1:=by kernel_rfl
  rw [hC] at hel
  have key:∀ i,i < len→∃ z:Option Addr × Nat × List Op3,W.cell? (a.add (i * 1))=some (.slice z.1 z.2.2.length z.2.1)∧z.2.2.length≤Rows.uptoBulk y.1∧(∀ (j:Nat) (x:Op3),z.2.2[j]?=some x→I64 x.1∧I64 x.2.1∧I64 x.2.2)∧(z.2.2≠[]→∃ la lo,z.1=some ⟨la,lo,none⟩∧∀ j op,z.2.2[j]?=some op →
    W.cell? ⟨la,lo+j * 3,none⟩=some (.int .i64 op.1)∧W.cell? ⟨la,lo+j * 3+1,none⟩=some (.int .i64 op.2.1)∧W.cell? ⟨la,lo+j * 3+2,none⟩=some (.int .i64 op.2.2)):=by
   intro i hi
   have he:=hel i hi
   rw [List.getElem?_eq_getElem (by omega)] at he
   simp only [Option.bind_eq_some_iff] at he
   obtain ⟨cs,hcs,ht⟩:=he
   have hcc:=World.cells?_some hcs
   have hl1:cs.length=1:=hcc.2.1
   match cs,hl1 with
   | [c0],_ =>
     obtain ⟨A,cap',l,rfl,hb',hrg,hops⟩:=ops_open3 ht
     refine ⟨(A,cap',l),?_,?_,hrg,hops⟩
     ·have:=hcc.2.2 0 (by omega)
      simpa [Addr.add] using this
     ·have h1:=bulk_mem (l:=elems.map (·.1)) (x:=elems[i].1) (List.mem_map.2 ⟨elems[i],List.getElem_mem _,rfl⟩)
      rw [hy]
      simp only [Rows.uptoBulk]
      omega
  obtain ⟨zs,hzl,hp⟩:=pick_list len key
  have hlen2:(zs.map (·.2.2)).length=len:=by rw [List.length_map,hzl]
  refine ⟨zs.map (·.2.2),⟨some a,a.block,a.off,cap,fun i=>(zs.getD i (none,0,[])).1,fun i=>(zs.getD i (none,0,[])).2.1,by rw [hlen2],fun hn=>?_,fun i l hi=>?_⟩,?_,fun l hl'=>?_,fun l hl' x hx=>?_⟩
  ·rw [hlen2] at hn
   have h0:=(hp 0 (by omega)).1
   have ha:a.add (0 * 1)=a:=by simp [Addr.add]
   rw [ha] at h0
   have hsp:=World.cell?_spot h0
   obtain ⟨ab,ao,at0⟩:=a
   simp only at hsp
   subst hsp
   rfl
  ·have hi':i < zs.length:=by have:=(List.getElem?_eq_some_iff.1 hi).1; simpa using this
   have h0:=(hp 0 (by omega)).1
   have ha:a.add (0 * 1)=a:=by simp [Addr.add]
   rw [ha] at h0
   have hsp:=World.cell?_spot h0
   obtain ⟨ab,ao,at0⟩:=a
   simp only at hsp
   subst hsp
   obtain ⟨w1,w2,_,w3⟩:=hp i hi'
   rw [add_at,Nat.mul_one] at w1
   have hz:zs.getD i (none,0,[])=zs[i]:=by simp [List.getD,List.getElem?_eq_getElem hi']
   have hl:l=zs[i].2.2:=by
    rw [List.getElem?_map,List.getElem?_eq_getElem hi'] at hi
    exact (Option.some.inj hi).symm
   dsimp only
   rw [hz,hl]
   have hv:=vis_cell w1
   refine ⟨⟨w1,hv⟩,fun hne=>?_⟩
   obtain ⟨la,lo,e1,e2⟩:=w3 hne
   refine ⟨la,lo,e1,?_,e2⟩
   cases hzz:zs[i].2.2 with
   | nil=>exact absurd hzz hne
   | cons op r=>exact vis_cell (e2 0 op (by rw [hzz]; rfl)).1
  ·rw [hlen2]
   have h1:=bulk_many (elems.map (·.1))
   rw [hy]
   simp only [Rows.uptoBulk]
   rw [List.length_map] at h1
   omega
  ·obtain ⟨z,hz,rfl⟩:=List.mem_map.1 hl'
   obtain ⟨i,hi,rfl⟩:=List.mem_iff_getElem.1 hz
   exact (hp i hi).2.1
  ·obtain ⟨z,hz,rfl⟩:=List.mem_map.1 hl'
   obtain ⟨i,hi,rfl⟩:=List.mem_iff_getElem.1 hz
   obtain ⟨j,hj⟩:=List.mem_iff_getElem?.1 hx
   exact (hp i hi).2.2.1 j x hj
end
end Go.Proofs.Ytimlbbleblijnaa.Co

namespace Go.Proofs.Ytimlbbleblijnaa.Co
open Go Go.Conc Go.RowKit Go.ChangeShapes
section
variable {H:Type} {enc:TypeId × Value→H}
theorem leaving_of_cond {a:Assume} {C:Checked} {os:Os} {f:FuncId} {fn:Func} {s:OpenSpec} {k:(H:Type)→List (DataW H)→Bool} (hk:s.cond=some k) {F:Stop.Interp} {conds:List PathCond} {apart fresh handsOn again:Bool}
  (own:ownKnob C.prog.godebug=none) (started:os.Started) (hfn:C.prog.funcs[f]?=some fn)
  (witness:∃ (w:World) (tape:Tape) (i:Input),w.os=os∧(w.forCall tape i).Shaped C.prog∧i.vars=[]∧Input.okWide C.prog (w.forCall tape i) .any w.heap.size f i ∧
   s.pre6 enc C.prog fn conds apart (w.forCall tape i).memory i.args∧a.holds C.prog (lone (Frame.enter C.prog f i.args .normal) [] (w.forCall tape i)))
  (runs:∀ (W:World) (base:Nat) (args:Array Value) (ds gs:List (DataW H)) (before:List MemPlace),
   (∀ (j:Nat) t v,fn.params[j]?=some t→args[j]?=some v→Value.okWide C.prog W .any base t v) →
   DataW.Whole enc C.prog fn.params.toList s.vars apart W args.toList ds gs before→k H (ds ++ gs)=true →
   (DataW.weightsEach C.prog (fn.params.toList ++ s.bare.plain.varTypes C.prog) (ds ++ gs)).all (·≤reachBytes)=true →
   ∃ M last o w' t',runNT C.prog (M+1) (solo (G (Frame.enter C.prog f args .normal) []) W) #[]=(.ended o w',t')∧runN C.prog M (solo (G (Frame.enter C.prog f args .normal) []) W)=.next last ∧
    step C.prog last=.ended o w'∧Go.Conc.Good C.prog (fun v W'=>(s.at F).post enc C.prog fn apart fresh handsOn again W args v W') last o w' t') :
  ReturnsInLeavingWide a C os f .any (s.pre6 enc C.prog fn conds apart) ((s.at F).post enc C.prog fn apart fresh handsOn again):=by
 refine returnsInLeavingWide_of_good own started witness ?_
 intro w tape i _ _ _ hok hpre hholds
 obtain ⟨_,_,_,fn',hfn',_,_,_,_,hval⟩:=hok
 obtain rfl:fn'=fn:=Option.some.inj (hfn'.symm.trans hfn)
 obtain ⟨ds,gs,before,hw,_,hkk⟩:=(OpenSpec.pre_some hk conds apart _ _).1 hpre.1
 obtain ⟨M,last,o,w',t',h1,h2,h3,h4⟩:=runs (w.forCall tape i) w.heap.size i.args ds gs before hval (DataW.Whole.of_heap (w':=w.forCall tape i) (by rfl) hw) hkk (hpre.2.weights hw)
 exact ⟨M,last,o,w',t',h1,h2,h3,h4.mono fun v hp=>ChangeSpec.post_blind hp⟩
end
theorem holds_leaving {p:Pinned} {s:OpenSpec} {c:OpenClaim} (f:FuncId) (fn:Func)
  (hn:c.program=p.name) (hs:c.sum=p.sum) (hsp:c.spec=s.name)
  (hstart:c.start=.entering) (hout:c.outside=[]) (hin:c.inits=[]) (hun:c.under=none) (hi4:c.initsInPlace=[]∧c.initsUnfollowed=false∧c.initsRecurse=false∧c.initsNamed=[]∧c.initsPassed=[]) (hnb:c.noBlocks=false) (hlv:c.leaving=true) (hfo:c.followed=none) (hnar:c.narrowed=s.cond.isSome) (hstill:c.still=false)
  (hfn:p.checked.prog.funcNamed c.func=some f) (hf:p.checked.prog.funcs[f]?=some fn)
  (closed:joinedFacts p.checked.prog f fn s.bare c=true)
  (hinst:fn.isInstance p.checked.prog c.origin c.targs) (hwrap:fn.isWrapper p.checked.prog c.wrapper c.mainSum)
  (h:∀ os:Os,os.Started→∀ (H:Type) (enc:TypeId × Value→H),(∀ a b,enc a=enc b→a=b)→∀ F:Stop.Interp,
   ReturnsInLeavingWide c.assume p.checked os f .any (c.pre enc p.checked.prog fn s) ((s.at F).post enc p.checked.prog fn c.apart c.fresh c.handsOn c.again)):c.holds p s:=by
 simp only [joinedFacts,Bool.and_eq_true,beq_iff_eq,Array.all_eq_true_iff_forall_mem,List.all_eq_true,decide_eq_true_eq] at closed
 obtain ⟨⟨⟨⟨⟨⟨⟨⟨⟨⟨⟨⟨⟨⟨⟨⟨⟨⟨⟨⟨⟨⟨⟨⟨⟨⟨⟨⟨⟨⟨⟨k1,k2⟩,k3⟩,k4⟩,k5⟩,k6⟩,k7⟩,k8⟩,k9⟩,k10⟩,k11⟩,k12⟩,k13⟩,k14⟩,k15⟩,k16⟩,k17⟩,k17b⟩,k18⟩,k19⟩,k20⟩,k21⟩,k22⟩,k23⟩,k23b⟩,k24⟩,k24b⟩,k24c⟩,k25⟩,k26⟩,k27⟩,k28⟩:=closed
 have hq:∀ os:Os,Stop.quiet p.checked.prog os:=fun os k hk=>by rw [k9] at hk; cases hk
 refine ⟨k1,hn,hs,hsp,k2,k3,by unfold OpenClaim.startFits; rw [hstart]; exact k24,by unfold OpenClaim.startTold; rw [hstart]; exact ⟨hin,hun,hi4⟩,f,fn,hfn,hf,⟨k4,k19⟩,(fun hb=>by rw [hnb] at hb; cases hb),by unfold OpenClaim.namedList; rw [hfo]; exact k5,hinst,hwrap,
  k6.trans k7.symm,⟨k8.trans k9.symm,by unfold Program.envWorded; rw [k9]; rfl,k23b⟩,k10,k11,k12,k13,k14,⟨k15,k27,k28⟩,⟨k16,k20⟩,⟨k17,k21,k25,k26⟩,⟨k22,k24b,k24c,k17b⟩,(by rw [hout,hnar]; cases hsh:c.shortTexts with | none=>simp | some _=>rw [hsh] at k23; cases k23),fun n hn'=>varReadable_some (k18 n hn'),
  ⟨_,by unfold OpenClaim.world; rw [hout,hstart]; exact WideRow.started_initial,hq _⟩,[],by unfold OpenClaim.lists; rw [hfo],fun os st _ H enc inj=>?_⟩
 have st':os.Started:=by unfold OpenClaim.world at st; rw [hout,hstart] at st; exact st
 rw [OpenClaim.post_not_still hstill]
 unfold OpenClaim.form
 rw [hstart,k6]
 intro F
 have e1:c.okInput=Input.okWide:=by unfold OpenClaim.okInput; rw [hnb]
 have e2:c.atReturn p.checked.prog=leavingAtReturn p.checked.prog:=by unfold OpenClaim.atReturn; rw [hlv]
 have e3:c.always p.checked.prog []=nothingAlways:=by unfold OpenClaim.always; rw [hfo]
 have e4:s.post enc p.checked.prog fn F c.outside c.apart c.fresh c.handsOn c.again=(s.at F).post enc p.checked.prog fn c.apart c.fresh c.handsOn c.again:=by rw [hout]; rfl
 rw [e1,e2,e3]
 show ReturnsInOpen _ _ _ _ _ _ _ _ (s.post enc p.checked.prog fn F c.outside c.apart c.fresh c.handsOn c.again) _ _
 rw [e4]
 exact h os st' H enc inj F k24
end Go.Proofs.Ytimlbbleblijnaa.Co
