/- Lemmas for the laws of this seat, laid together of PIe, PIg, PJi, PJj, PJk, PHh. -/
import Derived.Test.YtimlbbleblijnaaX17
import Derived.Test.YtimlbbleblijnaaX18
import Derived.Test.YtimlbbleblijnaaX21
import Derived.Test.YtimlbbleblijnaaX22
import Derived.Lib.SliceRun

open Go.ConcR.Gen (base_kind baseD_kind)
set_option linter.unusedVariables false
set_option linter.unusedSimpArgs false
set_option maxRecDepth 100000
set_option maxHeartbeats 4000000
namespace Go.Proofs.Ytimlbbleblijnaa.Co
open Go Go.Conc Go.RowKit
open Go.ConcN (sumTo upd sumTo_upd upd_ne upd_same sumTo_congr le_sumTo)
structure RTok (K:Nat→Obj→Prop) (L:List RT) (bb tbx tb bbx ba bo nn cp t:Nat) (p:RT):Prop where
 pt:L[t]?=some p
 kx:KC K ⟨tbx,0,none⟩ (.slice (some ⟨ba,bo,none⟩) nn cp)
 kt:KC K ⟨tb,0,none⟩ (.int .i64 (t:Int))
 kb:KC K ⟨bbx,0,none⟩ (.pointer (some ⟨bb,0,none⟩))
 kr:KC K ⟨ba,bo+t,none⟩ (.slice p.A p.ops.length p.cap)
 ops:∀ (i:Nat) (c:Int),p.ops[i]?=some c→p.A=some ⟨p.la,p.lo,none⟩∧KC K ⟨p.la,p.lo+i,none⟩ (.int .i64 c)
 len:p.ops.length≤1000000000000
 lt:t < nn
theorem RTok.o {K:Nat→Obj→Prop} {L:List RT} {bb tbx tb bbx ba bo nn cp t:Nat} {p:RT} (P:RTok K L bb tbx tb bbx ba bo nn cp t p):opsR L t=p.ops:=by unfold opsR; rw [P.pt]; rfl
section
variable {rb bb tbx tb bbx ba bo nn cp t:Nat} {th:Th} {K:Nat→Obj→Prop} {L:List RT} {p:RT} {b₀:Frame} {a₀:Act} {ops₀:Array Oper} {i₀:Nat} {rest₀:List Nat} {k₀:List Item} {cl:List Frame}
end
section
variable {bb tbx tb bbx ba bo nn cp t:Nat} {K:Nat→Obj→Prop} {L:List RT} {p:RT}
end
section
variable {j hr gb rb ct cs:Nat} {en fr:Bool} {s p q:Int} {ty:TypeId} {E:Env} {w:World} {F:Machine→Trace→Prop}
end
section
variable {σ Λ:Type}
end
end Go.Proofs.Ytimlbbleblijnaa.Co

namespace Go.Proofs.Ytimlbbleblijnaa.Co
open Go Go.Conc Go.RowKit
section
variable {P:Program} {h:Nat} {F:Machine→Trace→Prop} {E:Env} {w:World} {Fs:FuncId→Bool}
theorem HG.quietX (os:List Obj) (hC:Closed P Fs) {fr:Frame} {T:Array Value} {k:List Item} {cs:List Frame} {c:Code} (R:Array Value→Nat→Prop) (hq:quietCode P Fs c=true) (hk:fr.kind=.normal)
  (hwp:∀ x:World,x.heap.size=w.heap.size→(∀ b,E.H b=none→x.heap[b]?=w.heap[b]?)→c.wp P (fun e a' x'=>e=.normal∧a'.defers=[]∧(∀ b,b < x.heap.size→x'.heap[b]?=x.heap[b]?)∧x'.heap.size=x.heap.size+os.length∧(∀ (i:Nat) o,os[i]?=some o→x'.heap[x.heap.size+i]?=some o)∧R a'.tmps x.heap.size) ⟨T,[]⟩ x)
  (hg:∀ (E1:Env) (w1:World) (T':Array Value),Still h E w E1 w1→w1.heap.size=w.heap.size+os.length→(∀ (i:Nat) o,os[i]?=some o→w1.heap[w.heap.size+i]?=some o∧E1.H (w.heap.size+i)=none)→R T' w.heap.size→HG P h F E1 (G (fr.at ⟨T',[]⟩ k) cs) w1):HG P h F E (G (fr.at ⟨T,[]⟩ (.code c :: k)) cs) w:=by
 refine HG.quietS (fun _=>False) (fun _ z=>z.elim) hC (Q:=fun a' x x'=>x'.heap.size=x.heap.size+os.length∧(∀ (i:Nat) o,os[i]?=some o→x'.heap[x.heap.size+i]?=some o)∧R a'.tmps x.heap.size) hq hk rfl (fun x hxs hx=>?_) (fun E1 w' a' x x' hE hd hxs hx hxs' hx' hK hB hSt hq=>?_)
 ·exact Code.wp_mono (fun e a' x' ⟨q1,q2,q3,q4,q5,q6⟩=>⟨q1,q2,fun b hb _=>q3 b hb,q4,q5,q6⟩) (hwp x hxs hx)
 ·obtain ⟨Ta,df⟩:=a'
  have hdf:df=[]:=hd
  subst hdf
  refine hg E1 w' Ta ⟨hK,hE.H',fun b o h1 h2=>⟨by rw [hE.H']; exact h1,?_⟩⟩ (by rw [← hxs',hq.1,hxs]) (fun i o hi=>?_) (by rw [← hxs]; exact hq.2.2)
  ·have hl:=(Array.getElem?_eq_some_iff.1 h2).1
   rw [hx' b h1,hSt b (by omega) id,hx b h1]
   exact h2
  ·have h1:=hq.2.1 i o hi
   rw [hxs] at h1
   have h2:=hB (w.heap.size+i) (by omega)
   exact ⟨(hx' _ h2).trans h1,by rw [hE.H']; exact h2⟩
end
section
variable {h:Nat} {F:Machine→Trace→Prop} {E:Env} {w:World} {b₀:Frame} {a₀:Act} {ops₀:Array Oper} {i₀:Nat} {rest₀:List Nat} {k₀:List Item} {cl:List Frame}
end
theorem info46:∃ i:TypeInfo,Try.prog.info? 46=some i∧i.zero=some (.agg #[.int .i64 0])∧i.size=1∧i.bytes=8:=by
 have h:(Try.prog.info? 46).isSome=true:=by kernel_rfl
 obtain ⟨i,hi⟩:=Option.isSome_iff_exists.1 h
 have h2:(Try.prog.info? 46).map (fun i=>(i.zero,i.size,i.bytes))=some (some (.agg #[.int .i64 0]),1,8):=by kernel_rfl
 rw [hi] at h2
 simp only [Option.map_some,Option.some.injEq,Prod.mk.injEq] at h2
 exact ⟨i,hi,h2.1,h2.2.1,h2.2.2⟩
theorem info2:∃ i:TypeInfo,Try.prog.info? 2=some i∧i.zero=some (.int .i64 0)∧i.size=1∧i.bytes=8:=by
 have h:(Try.prog.info? 2).isSome=true:=by kernel_rfl
 obtain ⟨i,hi⟩:=Option.isSome_iff_exists.1 h
 have h2:(Try.prog.info? 2).map (fun i=>(i.zero,i.size,i.bytes))=some (some (.int .i64 0),1,8):=by kernel_rfl
 rw [hi] at h2
 simp only [Option.map_some,Option.some.injEq,Prod.mk.injEq] at h2
 exact ⟨i,hi,h2.1,h2.2.1,h2.2.2⟩
theorem made_w (n:Nat):madeCells (Value.agg #[.int .i64 0]).cells n=((List.range n).map fun _=>Value.int .i64 0).toArray:=by
 apply Array.ext
 ·simp [madeCells]
 ·intro i h1 h2
  simp [madeCells,Value.cells,Nat.mod_one]
theorem make_w (n:Nat) (hn:n≤1048576) (x:World):(Instr.makeSlice 119 (.int .i64 (n:Int)) (.int .i64 (n:Int))).run Try.prog x=.ok (.slice (some ⟨x.heap.size,0,none⟩) n n) (x.alloc (wrow n fun _=>0)):=by
 obtain ⟨i0,hi,hz,hs,hb⟩:=info46
 have h:=run_makeSlice (P:=Try.prog) (w:=x) 119 46 i0 _ Try.underlying119 hi hz .i64 .i64 (n:Int) (n:Int) (by omega) (Int.le_refl _) (by rw [hs,Int.toNat_natCast]; omega) (by rw [hb]; push_cast; omega) (by omega)
 rw [Int.toNat_natCast,hs,Nat.mul_one,made_w n] at h
 exact h
theorem make_h (n:Nat) (hn:n≤1048576) (x:World):(Instr.makeSlice 69 (.int .i64 (n:Int)) (.int .i64 (n:Int))).run Try.prog x=.ok (.slice (some ⟨x.heap.size,0,none⟩) n n) (x.alloc (.cells ((List.range n).map fun _=>Value.int .i64 0).toArray 2)):=by
 obtain ⟨i0,hi,hz,hs,hb⟩:=info2
 have h:=run_makeSlice (P:=Try.prog) (w:=x) 69 2 i0 _ Try.underlying69 hi hz .i64 .i64 (n:Int) (n:Int) (by omega) (Int.le_refl _) (by rw [hs,Int.toNat_natCast]; omega) (by rw [hb]; push_cast; omega) (by omega)
 rw [Int.toNat_natCast,hs,Nat.mul_one,made_eq n] at h
 exact h
def only80:FuncId→Bool:=fun f=>f == 80
theorem closed_80:Closed Try.prog only80:=by
 refine ⟨fun f hf=>?_,fun f fn c hf hfn hb=>?_⟩
 ·have:f=80:=by simpa [only80] using hf
  subst this
  exact ⟨Try.f80,Try.func80,by kernel_rfl,.inl (by rfl)⟩
 ·have:f=80:=by simpa [only80] using hf
  subst this
  rw [Try.func80] at hfn
  obtain rfl:=Option.some.inj hfn
  have h2:Try.f80.body=some (Try.f80.body.getD .skip):=by rfl
  rw [h2] at hb
  obtain rfl:=Option.some.inj hb
  show quietCode Try.prog only80 (Try.f80.body.getD .skip)=true
  kernel_rfl
theorem uS0_wp {n:Int} {tv pv dv:Value} {x:World} {Q:Exit→Act→World→Prop}
  (hQ:∀ T' x',T'.size=65→T'[1]?=some tv→T'[2]?=some pv→T'[3]?=some dv→T'[4]?=some (.pointer (some ⟨x.heap.size,0,none⟩))→T'[8]?=some (.slice none 0 0)→T'[9]?=some (.slice none 0 0)→x'.heap=x.heap.push (.cells #[.int .i64 n] 3)→Q .normal ⟨T',[]⟩ x') :
  uS0.wp Try.prog Q ⟨#[.int .i64 n,tv,pv,dv] ++ Array.replicate 61 undef,[]⟩ x:=by
 replace hQ:=Lib.hid hQ
 simp only [uS0,uB,Try.f45,Option.getD_some]
 walk_nrm
 go_wp2_with fail
 exact hQ.out _ _ (by simp) (by simp) (by simp) (by simp) (by simp) (by simp) (by simp) rfl
theorem uS3_wp {T:Array Value} {x:World} {n nb:Nat} {Q:Exit→Act→World→Prop} (hs:T.size=65) (h4:T[4]?=some (.pointer (some ⟨nb,0,none⟩))) (hn:n≤1048576) (c1:x.cell? ⟨nb,0,none⟩=some (.int .i64 (n:Int)))
  (hQ:∀ T' x',T'.size=65→(∀ j,j < 15→j≠10→T'[j]?=T[j]?)→T'[10]?=some (.pointer (some ⟨x.heap.size+1,0,none⟩))→x'.heap=(x.heap.push (wrow n fun _=>0)).push (.cells #[.slice (some ⟨x.heap.size,0,none⟩) n n] 119)→Q .normal ⟨T',[]⟩ x') :
  uS3.wp Try.prog Q ⟨T,[]⟩ x:=by
 obtain ⟨f,hf,fz⟩:=arrfv T hs
 have e4:=fz 4 _ h4
 have hQ':∀ T' x',T'.size=65→(∀ j,j < 15→j≠10→T'[j]?=some (f j))→T'[10]?=some (.pointer (some ⟨x.heap.size+1,0,none⟩))→x'.heap=(x.heap.push (wrow n fun _=>0)).push (.cells #[.slice (some ⟨x.heap.size,0,none⟩) n n] 119)→Q .normal ⟨T',[]⟩ x':=fun T' x' a1 a2 a3 a4=>hQ T' x' a1 (fun j h1 h2=>by rw [a2 j h1 h2,hf,arrf_get f (by omega)]) a3 a4
 clear hQ fz h4 hs
 subst hf
 have hmk:=make_w n hn x
 obtain ⟨r,hr⟩:∃ r,r=wrow n fun _=>0:=⟨_,rfl⟩
 rw [← hr] at hmk hQ'
 unfold wrow at hr
 subst hr
 replace hQ':=Lib.hid hQ'
 simp only [List.range,List.range.loop,List.map_cons,List.map_nil,e4]
 simp only [uS3,uT3,uT1,uB,Try.f45,Option.getD_some]
 go_wp2
 refine hQ'.out _ _ (by simp) (fun j hj h10=>?_) (by simp) rfl
 match j,hj,h10 with
 | 10,_,h=>exact absurd rfl h
 | 0,_,_ | 1,_,_ | 2,_,_ | 3,_,_ | 4,_,_ | 5,_,_ | 6,_,_ | 7,_,_ | 8,_,_ | 9,_,_ | 11,_,_ | 12,_,_ | 13,_,_ | 14,_,_=>simp [e4]
 | q+15,hq,_=>exact absurd hq (by omega)
theorem uS4_wp {T:Array Value} {x:World} {Q:Exit→Act→World→Prop} (hs:T.size=65)
  (hQ:∀ T' x' db,T'.size=65→(∀ j,j < 15→j≠11→T'[j]?=T[j]?)→T'[11]?=some (.pointer (some ⟨db,0,none⟩))→x.heap.size < db→x'.heap[db]?=some (.cells #[.map (some x.heap.size)] 120)→x'.ownsMap Try.prog 3 RV x.heap.size 4 DW→(∀ b,b < x.heap.size→x'.heap[b]?=x.heap[b]?)→x'.heap.size=db+1→Q .normal ⟨T',[]⟩ x') :
  uS4.wp Try.prog Q ⟨T,[]⟩ x:=by
 obtain ⟨f,hf,fz⟩:=arrfv T hs
 have hQ':∀ T' x' db,T'.size=65→(∀ j,j < 15→j≠11→T'[j]?=some (f j))→T'[11]?=some (.pointer (some ⟨db,0,none⟩))→x.heap.size < db→x'.heap[db]?=some (.cells #[.map (some x.heap.size)] 120)→x'.ownsMap Try.prog 3 RV x.heap.size 4 DW→(∀ b,b < x.heap.size→x'.heap[b]?=x.heap[b]?)→x'.heap.size=db+1→Q .normal ⟨T',[]⟩ x':=fun T' x' db a1 a2=>hQ T' x' db a1 (fun j h1 h2=>by rw [a2 j h1 h2,hf,arrf_get f (by omega)])
 clear hQ fz hs
 subst hf
 have hcl:=wcalls_any x
 replace hQ':=Lib.hid hQ'
 simp only [List.range,List.range.loop,List.map_cons,List.map_nil]
 simp only [uS4,uT4,uT3,uT1,uB,Try.f45,Option.getD_some]
 go_wp2_with fail
 refine hcl.mono ?_
 rintro _ x2 ⟨rfl,hm,hold⟩
 have hlt:=hm.lt
 replace hm:=Lib.hid hm
 replace hold:=Lib.hid hold
 go_wp2_with fail
 refine hQ'.out _ _ x2.heap.size (by simp) (fun j hj h11=>?_) (by simp) hlt alloc_new (hm.out.alloc _) (fun b hb=>(alloc_old (by omega)).trans (hold.out b hb)) (by simp)
 match j,hj,h11 with
 | 11,_,h=>exact absurd rfl h
 | 0,_,_ | 1,_,_ | 2,_,_ | 3,_,_ | 4,_,_ | 5,_,_ | 6,_,_ | 7,_,_ | 8,_,_ | 9,_,_ | 10,_,_ | 12,_,_ | 13,_,_ | 14,_,_=>simp [hlt]
 | q+15,hq,_=>exact absurd hq (by omega)
theorem uS5_wp {T:Array Value} {x:World} {Q:Exit→Act→World→Prop} (hs:T.size=65)
  (hQ:∀ T' x',T'.size=65→(∀ j,j < 15→j≠12→T'[j]?=T[j]?)→T'[12]?=some (.pointer (some ⟨x.heap.size,0,none⟩))→x'.heap=x.heap.push (.cells #[.slice none 0 0] 27)→Q .normal ⟨T',[]⟩ x') :
  uS5.wp Try.prog Q ⟨T,[]⟩ x:=by
 obtain ⟨f,hf,fz⟩:=arrfv T hs
 have hQ':∀ T' x',T'.size=65→(∀ j,j < 15→j≠12→T'[j]?=some (f j))→T'[12]?=some (.pointer (some ⟨x.heap.size,0,none⟩))→x'.heap=x.heap.push (.cells #[.slice none 0 0] 27)→Q .normal ⟨T',[]⟩ x':=fun T' x' a1 a2=>hQ T' x' a1 (fun j h1 h2=>by rw [a2 j h1 h2,hf,arrf_get f (by omega)])
 clear hQ fz hs
 subst hf
 replace hQ':=Lib.hid hQ'
 simp only [List.range,List.range.loop,List.map_cons,List.map_nil]
 simp only [uS5,uT5,uT4,uT3,uT1,uB,Try.f45,Option.getD_some]
 go_wp2_with fail
 refine hQ'.out _ _ (by simp) (fun j hj h12=>?_) (by simp) rfl
 match j,hj,h12 with
 | 12,_,h=>exact absurd rfl h
 | 0,_,_ | 1,_,_ | 2,_,_ | 3,_,_ | 4,_,_ | 5,_,_ | 6,_,_ | 7,_,_ | 8,_,_ | 9,_,_ | 10,_,_ | 11,_,_ | 13,_,_ | 14,_,_=>simp [List.getElem?_cons]
 | q+15,hq,_=>exact absurd hq (by omega)
noncomputable def xuS1:Code:=uS1
noncomputable def xuS6:Code:=uS6
noncomputable def xuS12:Code:=uS12
section
variable {h:Nat} {F:Machine→Trace→Prop} {E:Env} {w:World} {cs:List Frame}
variable {b₀:Frame} {a₀:Act} {ops₀:Array Oper} {i₀:Nat} {rest₀:List Nat} {k₀:List Item} {cl:List Frame}
theorem word_pre {n:Int} {tv pv dv:Value}
  (hc:∀ E1 w1 T,Still h E w E1 w1→w1.heap[w.heap.size]?=some (.cells #[.int .i64 n] 3)→E1.H w.heap.size=none→T.size=65→T[1]?=some tv→T[2]?=some pv→T[3]?=some dv→T[4]?=some (.pointer (some ⟨w.heap.size,0,none⟩))→T[8]?=some (.slice none 0 0)→T[9]?=some (.slice none 0 0)→HG Try.prog h F E1 (G ((base 45).at ⟨T,[]⟩ [.code uT1]) cs) w1) :
  HGn Try.prog h F E w 100 (entry 45 Try.f45 #[.int .i64 n,tv,pv,dv] cs):=by
 unfold entry
 rw [show Try.f45.body.getD .skip=.seq uS0 uT1 from u_parts.1,show Try.f45.ntmps=65 from rfl]
 refine Idl.step (idl_hg Try.prog h F E w) _ _ _ rfl (fun _=>stepG_seq) ?_
 refine HG.quietM [.cells #[.int .i64 n] 3] (closed_none _) (fun T s=>T.size=65∧T[1]?=some tv∧T[2]?=some pv∧T[3]?=some dv∧T[4]?=some (.pointer (some ⟨s,0,none⟩))∧T[8]?=some (.slice none 0 0)∧T[9]?=some (.slice none 0 0)) (by kernel_rfl) (by rfl) (fun x _ hx=>?_) (fun E1 w1 T1 S1 N1 hR=>?_)
 ·refine uS0_wp (fun T' x' a1 a2 a3 a4 a5 a6 a7 a8=>⟨rfl,rfl,fun b hb=>by rw [a8,Array.getElem?_push,if_neg (by omega)],(fun i o hi=>?_),a1,a2,a3,a4,a5,a6,a7⟩)
  match i,hi with
  | 0,hi=>cases hi; rw [a8]; simp
 ·obtain ⟨s1,r1,r2,r3,r4,r8,r9⟩:=hR
  obtain ⟨n1,n1H⟩:=N1 0 _ rfl
  rw [Nat.add_zero] at n1 n1H
  exact hc E1 w1 T1 S1 n1 n1H s1 r1 r2 r3 r4 r8 r9
theorem HG.withHB {g:Goroutine} (hg:(∀ b,w.heap.size≤b→E.H b=none)→HG Try.prog h F E g w):HG Try.prog h F E g w :=
 HG.open fun E1 w1 hA ⟨gs,T,q,C,_⟩=>(hg (fun b hb=>by
  have:=C.fit.bound b (by rw [hA.2.size]; exact hb)
  rw [hA.1.H'] at this
  exact this)).at hA
theorem no_W {g:Goroutine} (hg:(∀ b,E.H b=none→E.W b=false)→HG Try.prog h F E g w):HG Try.prog h F E g w :=
 HG.withH fun hWH _=>hg fun b hb=>by
  cases e:E.W b with
  | false=>rfl
  | true=>have:=hWH b e; rw [hb] at this; cases this
theorem word_no1 {T:Array Value} {n:Int} {nb N cap:Nat} {ta:Option Addr} (hs:T.size=65) (t1:T[1]?=some (.slice ta N cap)) (t4:T[4]?=some (.pointer (some ⟨nb,0,none⟩))) (cn:w.cell? ⟨nb,0,none⟩=some (.int .i64 n)) (Wn:E.W nb=false) (hn:n < 1)
  (hc:HG Try.prog h F E (G (b₀.at (a₀.put ((ops₀[i₀]?).bind (·.dst)) (.tuple #[.slice none 0 0,.slice none 0 0])) (.inRegion ops₀ rest₀ :: k₀)) cl) w) :
  HGn Try.prog h F E w 100 (G ((base 45).at ⟨T,[]⟩ [.code uT1]) (b₀.at a₀ (.inRegion ops₀ (i₀ :: rest₀) :: k₀) :: cl)):=by
 rw [show uT1=.seq xuS1 uT3 from u_parts.2.1]
 obtain ⟨f,hf,fz⟩:=arrfv T hs
 have e1:=fz 1 _ t1
 have e4:=fz 4 _ t4
 have d1:decide (n < 1)=true:=decide_eq_true hn
 clear fz t1 t4 hs
 subst hf
 replace hc:=Lib.hid hc
 generalize hG:uT3=L3
 simp only [xuS1,uS1,uT1,uB,Try.f45,Option.getD_some,List.range,List.range.loop,List.map_cons,List.map_nil,e1,e4]
 refine Idl.q (idl_hg Try.prog h F E w) (Idl.q (idl_hg Try.prog h F E w) (Idl.rg (idl_hg Try.prog h F E w) [0,1,2,3,4,5,6,7,8,9,10] rfl ?_))
 refine HGn.ld cn (fun z=>by rw [Wn] at z; cases z) rfl rfl (by first | decide | exact base_kind _ | exact baseD_kind _ | assumption) (fun w₁ hc₁=>⟨by go_simp,fun e he=>by (have he':=he; simp [go_sem,hc₁] at he'; exact he')⟩) ?_
 walk_nrm
 iterate 2 (refine Idl.v (idl_hg Try.prog h F E w) ?_; walk_nrm)
 refine Idl.unwanted (idl_hg Try.prog h F E w) rfl rfl ?_
 walk_nrm
 refine Idl.unwanted (idl_hg Try.prog h F E w) rfl rfl ?_
 walk_nrm
 iterate 2 (refine Idl.v (idl_hg Try.prog h F E w) ?_; walk_nrm)
 refine Idl.unwanted (idl_hg Try.prog h F E w) rfl rfl ?_
 walk_nrm
 refine Idl.unwanted (idl_hg Try.prog h F E w) rfl rfl ?_
 walk_nrm
 refine Idl.unwanted (idl_hg Try.prog h F E w) rfl rfl ?_
 walk_nrm
 refine Idl.v (idl_hg Try.prog h F E w) ?_
 walk_nrm
 refine Idl.re (idl_hg Try.prog h F E w) (Idl.ct (idl_hg Try.prog h F E w) rfl (Idl.q (idl_hg Try.prog h F E w) (Idl.rg (idl_hg Try.prog h F E w) [0,1] rfl ?_)))
 iterate 2 (refine Idl.v (idl_hg Try.prog h F E w) ?_; walk_nrm)
 refine Idl.re (idl_hg Try.prog h F E w) (Idl.rt (idl_hg Try.prog h F E w) ?_)
 refine Idl.leaveV (n:=1) (v:=.tuple #[.slice none 0 0,.slice none 0 0]) (fn:=Try.f45) (idl_hg Try.prog h F E w) rfl rfl Try.func45 (fun w=>by simp [results,Try.f45,go_sem]) (fun w=>by simp [results,Try.f45,go_sem]) ?_
 exact hc.out
theorem word_no2 {T:Array Value} {n:Int} {nb N cap:Nat} {ta:Option Addr} (hs:T.size=65) (t1:T[1]?=some (.slice ta N cap)) (t4:T[4]?=some (.pointer (some ⟨nb,0,none⟩))) (cn:w.cell? ⟨nb,0,none⟩=some (.int .i64 n)) (Wn:E.W nb=false) (hn:1048576 < n)
  (hc:HG Try.prog h F E (G (b₀.at (a₀.put ((ops₀[i₀]?).bind (·.dst)) (.tuple #[.slice none 0 0,.slice none 0 0])) (.inRegion ops₀ rest₀ :: k₀)) cl) w) :
  HGn Try.prog h F E w 100 (G ((base 45).at ⟨T,[]⟩ [.code uT1]) (b₀.at a₀ (.inRegion ops₀ (i₀ :: rest₀) :: k₀) :: cl)):=by
 rw [show uT1=.seq xuS1 uT3 from u_parts.2.1]
 obtain ⟨f,hf,fz⟩:=arrfv T hs
 have e1:=fz 1 _ t1
 have e4:=fz 4 _ t4
 have d1:decide (n < 1)=false:=decide_eq_false (by omega)
 have d2:decide (1048576 < n)=true:=decide_eq_true hn
 clear fz t1 t4 hs
 subst hf
 replace hc:=Lib.hid hc
 generalize hG:uT3=L3
 simp only [xuS1,uS1,uT1,uB,Try.f45,Option.getD_some,List.range,List.range.loop,List.map_cons,List.map_nil,e1,e4]
 refine Idl.q (idl_hg Try.prog h F E w) (Idl.q (idl_hg Try.prog h F E w) (Idl.rg (idl_hg Try.prog h F E w) [0,1,2,3,4,5,6,7,8,9,10] rfl ?_))
 refine HGn.ld cn (fun z=>by rw [Wn] at z; cases z) rfl rfl (by first | decide | exact base_kind _ | exact baseD_kind _ | assumption) (fun w₁ hc₁=>⟨by go_simp,fun e he=>by (have he':=he; simp [go_sem,hc₁] at he'; exact he')⟩) ?_
 walk_nrm
 iterate 2 (refine Idl.v (idl_hg Try.prog h F E w) ?_; walk_nrm)
 refine HGn.ld cn (fun z=>by rw [Wn] at z; cases z) rfl rfl (by first | decide | exact base_kind _ | exact baseD_kind _ | assumption) (fun w₁ hc₁=>⟨by go_simp,fun e he=>by (have he':=he; simp [go_sem,hc₁] at he'; exact he')⟩) ?_
 walk_nrm
 iterate 3 (refine Idl.v (idl_hg Try.prog h F E w) ?_; walk_nrm)
 refine Idl.unwanted (idl_hg Try.prog h F E w) rfl rfl ?_
 walk_nrm
 refine Idl.unwanted (idl_hg Try.prog h F E w) rfl rfl ?_
 walk_nrm
 refine Idl.unwanted (idl_hg Try.prog h F E w) rfl rfl ?_
 walk_nrm
 refine Idl.v (idl_hg Try.prog h F E w) ?_
 walk_nrm
 refine Idl.re (idl_hg Try.prog h F E w) (Idl.ct (idl_hg Try.prog h F E w) rfl (Idl.q (idl_hg Try.prog h F E w) (Idl.rg (idl_hg Try.prog h F E w) [0,1] rfl ?_)))
 iterate 2 (refine Idl.v (idl_hg Try.prog h F E w) ?_; walk_nrm)
 refine Idl.re (idl_hg Try.prog h F E w) (Idl.rt (idl_hg Try.prog h F E w) ?_)
 refine Idl.leaveV (n:=1) (v:=.tuple #[.slice none 0 0,.slice none 0 0]) (fn:=Try.f45) (idl_hg Try.prog h F E w) rfl rfl Try.func45 (fun w=>by simp [results,Try.f45,go_sem]) (fun w=>by simp [results,Try.f45,go_sem]) ?_
 exact hc.out
theorem word_no3 {T:Array Value} {n:Int} {nb N cap:Nat} {ta:Option Addr} (hs:T.size=65) (t1:T[1]?=some (.slice ta N cap)) (t4:T[4]?=some (.pointer (some ⟨nb,0,none⟩))) (cn:w.cell? ⟨nb,0,none⟩=some (.int .i64 n)) (Wn:E.W nb=false) (hn1:1≤n) (hn2:n≤1048576) (hN:8 < N)
  (hc:HG Try.prog h F E (G (b₀.at (a₀.put ((ops₀[i₀]?).bind (·.dst)) (.tuple #[.slice none 0 0,.slice none 0 0])) (.inRegion ops₀ rest₀ :: k₀)) cl) w) :
  HGn Try.prog h F E w 100 (G ((base 45).at ⟨T,[]⟩ [.code uT1]) (b₀.at a₀ (.inRegion ops₀ (i₀ :: rest₀) :: k₀) :: cl)):=by
 rw [show uT1=.seq xuS1 uT3 from u_parts.2.1]
 obtain ⟨f,hf,fz⟩:=arrfv T hs
 have e1:=fz 1 _ t1
 have e4:=fz 4 _ t4
 have d1:decide (n < 1)=false:=decide_eq_false (by omega)
 have d2:decide (1048576 < n)=false:=decide_eq_false (by omega)
 have d3:decide ((8:Int) < (N:Int))=true:=decide_eq_true (by omega)
 clear fz t1 t4 hs
 subst hf
 replace hc:=Lib.hid hc
 generalize hG:uT3=L3
 simp only [xuS1,uS1,uT1,uB,Try.f45,Option.getD_some,List.range,List.range.loop,List.map_cons,List.map_nil,e1,e4]
 refine Idl.q (idl_hg Try.prog h F E w) (Idl.q (idl_hg Try.prog h F E w) (Idl.rg (idl_hg Try.prog h F E w) [0,1,2,3,4,5,6,7,8,9,10] rfl ?_))
 refine HGn.ld cn (fun z=>by rw [Wn] at z; cases z) rfl rfl (by first | decide | exact base_kind _ | exact baseD_kind _ | assumption) (fun w₁ hc₁=>⟨by go_simp,fun e he=>by (have he':=he; simp [go_sem,hc₁] at he'; exact he')⟩) ?_
 walk_nrm
 iterate 2 (refine Idl.v (idl_hg Try.prog h F E w) ?_; walk_nrm)
 refine HGn.ld cn (fun z=>by rw [Wn] at z; cases z) rfl rfl (by first | decide | exact base_kind _ | exact baseD_kind _ | assumption) (fun w₁ hc₁=>⟨by go_simp,fun e he=>by (have he':=he; simp [go_sem,hc₁] at he'; exact he')⟩) ?_
 walk_nrm
 iterate 7 (refine Idl.v (idl_hg Try.prog h F E w) ?_; walk_nrm)
 refine Idl.re (idl_hg Try.prog h F E w) (Idl.ct (idl_hg Try.prog h F E w) rfl (Idl.q (idl_hg Try.prog h F E w) (Idl.rg (idl_hg Try.prog h F E w) [0,1] rfl ?_)))
 iterate 2 (refine Idl.v (idl_hg Try.prog h F E w) ?_; walk_nrm)
 refine Idl.re (idl_hg Try.prog h F E w) (Idl.rt (idl_hg Try.prog h F E w) ?_)
 refine Idl.leaveV (n:=1) (v:=.tuple #[.slice none 0 0,.slice none 0 0]) (fn:=Try.f45) (idl_hg Try.prog h F E w) rfl rfl Try.func45 (fun w=>by simp [results,Try.f45,go_sem]) (fun w=>by simp [results,Try.f45,go_sem]) ?_
 exact hc.out
theorem word_yes {T:Array Value} {n:Int} {nb N cap:Nat} {ta:Option Addr} (hs:T.size=65) (t1:T[1]?=some (.slice ta N cap)) (t4:T[4]?=some (.pointer (some ⟨nb,0,none⟩))) (cn:w.cell? ⟨nb,0,none⟩=some (.int .i64 n)) (Wn:E.W nb=false) (hn1:1≤n) (hn2:n≤1048576) (hN:N≤8)
  (hc:∀ T',T'.size=65→(∀ j,j < 16→T'[j]?=T[j]?)→HG Try.prog h F E (G ((base 45).at ⟨T',[]⟩ [.code uT3]) cs) w) :
  HGn Try.prog h F E w 100 (G ((base 45).at ⟨T,[]⟩ [.code uT1]) cs):=by
 rw [show uT1=.seq xuS1 uT3 from u_parts.2.1]
 obtain ⟨f,hf,fz⟩:=arrfv T hs
 have e1:=fz 1 _ t1
 have e4:=fz 4 _ t4
 have d1:decide (n < 1)=false:=decide_eq_false (by omega)
 have d2:decide (1048576 < n)=false:=decide_eq_false (by omega)
 have d3:decide ((8:Int) < (N:Int))=false:=decide_eq_false (by omega)
 have hc':∀ T',T'.size=65→(∀ j,j < 16→T'[j]?=some (f j))→HG Try.prog h F E (G ((base 45).at ⟨T',[]⟩ [.code uT3]) cs) w:=fun T' a1 a2=>hc T' a1 (fun j hj=>by rw [a2 j hj,hf,arrf_get f (by omega)])
 clear fz t1 t4 hs
 subst hf
 clear hc
 replace hc':=Lib.hid hc'
 generalize hG:uT3=L3 at hc' ⊢
 simp only [xuS1,uS1,uT1,uB,Try.f45,Option.getD_some,List.range,List.range.loop,List.map_cons,List.map_nil,e1,e4]
 refine Idl.q (idl_hg Try.prog h F E w) (Idl.q (idl_hg Try.prog h F E w) (Idl.rg (idl_hg Try.prog h F E w) [0,1,2,3,4,5,6,7,8,9,10] rfl ?_))
 refine HGn.ld cn (fun z=>by rw [Wn] at z; cases z) rfl rfl (by first | decide | exact base_kind _ | exact baseD_kind _ | assumption) (fun w₁ hc₁=>⟨by go_simp,fun e he=>by (have he':=he; simp [go_sem,hc₁] at he'; exact he')⟩) ?_
 walk_nrm
 iterate 2 (refine Idl.v (idl_hg Try.prog h F E w) ?_; walk_nrm)
 refine HGn.ld cn (fun z=>by rw [Wn] at z; cases z) rfl rfl (by first | decide | exact base_kind _ | exact baseD_kind _ | assumption) (fun w₁ hc₁=>⟨by go_simp,fun e he=>by (have he':=he; simp [go_sem,hc₁] at he'; exact he')⟩) ?_
 walk_nrm
 iterate 7 (refine Idl.v (idl_hg Try.prog h F E w) ?_; walk_nrm)
 refine Idl.re (idl_hg Try.prog h F E w) (Idl.cf (idl_hg Try.prog h F E w) rfl (Idl.sk (idl_hg Try.prog h F E w) ?_))
 refine hc'.out _ (by simp) (fun j hj=>?_)
 match j,hj with
 | 0,_ | 1,_ | 2,_ | 3,_ | 4,_ | 5,_ | 6,_ | 7,_ | 8,_ | 9,_ | 10,_ | 11,_ | 12,_ | 13,_ | 14,_ | 15,_=>simp [e1,e4]
 | q+16,hq=>exact absurd hq (by omega)
theorem word_refused {n:Int} {pv dv:Value} {N cap:Nat} {ta:Option Addr} (hr:n < 1∨1048576 < n∨8 < N)
  (hc:∀ E' w',Still h E w E' w'→HG Try.prog h F E' (G (b₀.at (a₀.put ((ops₀[i₀]?).bind (·.dst)) (.tuple #[.slice none 0 0,.slice none 0 0])) (.inRegion ops₀ rest₀ :: k₀)) cl) w') :
  HGn Try.prog h F E w 100 (entry 45 Try.f45 #[.int .i64 n,.slice ta N cap,pv,dv] (b₀.at a₀ (.inRegion ops₀ (i₀ :: rest₀) :: k₀) :: cl)):=by
 refine word_pre (fun E1 w1 T S1 n1 n1H hs t1 t2 t3 t4 t8 t9=>?_)
 refine no_W fun hWn=>?_
 have hc1:=hc E1 w1 S1
 have cn:w1.cell? ⟨w.heap.size,0,none⟩=some (.int .i64 n):=obj_cell n1 (o:=0) rfl
 by_cases h1:n < 1
 ·exact word_no1 hs t1 t4 cn (hWn _ n1H) h1 hc1
 by_cases h2:1048576 < n
 ·exact word_no2 hs t1 t4 cn (hWn _ n1H) h2 hc1
 ·exact word_no3 hs t1 t4 cn (hWn _ n1H) (by omega) (by omega) (by omega) hc1
structure WReady (E:Env) (w:World) (S n N:Nat) (LA:Nat→Option Addr) (LN LC:Nat→Nat) (nb wb ab mpb db mb:Nat) (v:Value) (LB TB:Nat→Nat):Prop where
 cn:w.cell? ⟨nb,0,none⟩=some (.int .i64 (n:Int))
 row:w.heap[wb]?=some (wrow n fun _=>0)
 ca:w.cell? ⟨ab,0,none⟩=some (.slice (some ⟨wb,0,none⟩) n n)
 cm:w.ownsMap Try.prog 3 RV mpb 4 DW
 cd:w.cell? ⟨db,0,none⟩=some (.map (some mpb))
 cmk:w.heap[mb]?=some (.cells #[.slice none 0 0] 27)
 bx:BxG (mb+1) (wclo db ab nb mb) LA LN LC LB TB v N w
 ord:S≤nb∧nb < wb∧wb < ab∧ab < mpb∧mpb < db∧db < mb
 H:∀ b,S≤b→E.H b=none
theorem word_in {n N cap ba bo:Nat} {ta:Option Addr} {pv dv:Value} {LA:Nat→Option Addr} {LN LC:Nat→Nat} (hn1:1≤n) (hn2:n≤1048576) (hN:N≤8) (hta:0 < N→ta=some ⟨ba,bo,none⟩)
  (hcell:∀ i,i < N→w.cell? ⟨ba,bo+i,none⟩=some (.slice (LA i) (LN i) (LC i))∧E.H ba=none)
  (hc:∀ E2 w2 T nb wb ab mpb db mb v LB TB,Still h E w E2 w2→WReady E2 w2 w.heap.size n N LA LN LC nb wb ab mpb db mb v LB TB→T.size=65→T[2]?=some pv→T[3]?=some dv→T[4]?=some (.pointer (some ⟨nb,0,none⟩))→T[10]?=some (.pointer (some ⟨ab,0,none⟩))→T[12]?=some (.pointer (some ⟨mb,0,none⟩))→T[13]?=some v→HG Try.prog h F E2 (G ((base 45).at ⟨T,[]⟩ [.code uT12]) cs) w2) :
  HGn Try.prog h F E w 100 (entry 45 Try.f45 #[.int .i64 (n:Int),.slice ta N cap,pv,dv] cs):=by
 refine HG.withHB fun hB0=>?_
 refine word_pre (fun E1 w1 T S1 n1 n1H hs t1 t2 t3 t4 t8 t9=>?_)
 refine no_W fun hWn=>?_
 have cn:w1.cell? ⟨w.heap.size,0,none⟩=some (.int .i64 (n:Int)):=obj_cell n1 (o:=0) rfl
 have hz1:=(Array.getElem?_eq_some_iff.1 n1).1
 refine word_yes hs t1 t4 cn (hWn _ n1H) (by omega) (by omega) hN (fun T1 hs1 j1=>?_)
 have u:=fun j hj=>j1 j hj
 rw [show uT3=.seq uS3 uT4 from u_parts.2.2.1]
 change HGn Try.prog h F E1 w1 100 _
 refine Idl.step (idl_hg Try.prog h F E1 w1) _ _ _ rfl (fun _=>stepG_seq) ?_
 refine HG.quietX [wrow n fun _=>0,.cells #[.slice (some ⟨w1.heap.size,0,none⟩) n n] 119] (closed_none _) (fun T s=>T.size=65∧(∀ j,j < 15→j≠10→T[j]?=T1[j]?)∧T[10]?=some (.pointer (some ⟨s+1,0,none⟩))) (by kernel_rfl) (by rfl) (fun x hxs hx=>?_) (fun E2 w2 T2 S2 z2 N2 hR=>?_)
 ·refine uS3_wp hs1 ((u 4 (by decide)).trans t4) hn2 ((World.cell?_of_block (a:=⟨w.heap.size,0,none⟩) (hx _ n1H)).trans cn) (fun T' x' a1 a2 a3 a4=>⟨rfl,rfl,fun b hb=>?_,?_,(fun i o hi=>?_),a1,a2,a3⟩)
  ·rw [a4,Array.getElem?_push,if_neg (by simp; omega),Array.getElem?_push,if_neg (by omega)]
  ·rw [a4]; simp
  ·match i,hi with
   | 0,hi=>cases hi; rw [a4,Array.getElem?_push,if_neg (by simp),Array.getElem?_push,if_pos (by omega)]
   | 1,hi=>cases hi; rw [a4,Array.getElem?_push,if_pos (by simp),hxs]
   | i+2,hi=>simp at hi
 obtain ⟨s2,j2,v10⟩:=hR
 have z2:w2.heap.size=w1.heap.size+2:=z2
 obtain ⟨n2,n2H⟩:=N2 0 _ rfl
 obtain ⟨n3,n3H⟩:=N2 1 _ rfl
 rw [Nat.add_zero] at n2 n2H
 rw [show uT4=.seq uS4 uT5 from u_parts.2.2.2.1]
 change HGn Try.prog h F E2 w2 100 _
 refine Idl.step (idl_hg Try.prog h F E2 w2) _ _ _ rfl (fun _=>stepG_seq) ?_
 refine HG.quietS (fun _=>False) (fun _ z=>z.elim) closed_80 (Q:=fun a' x x'=>∃ db,a'.tmps.size=65∧(∀ j,j < 15→j≠11→a'.tmps[j]?=T2[j]?)∧a'.tmps[11]?=some (.pointer (some ⟨db,0,none⟩))∧x.heap.size < db∧x'.heap[db]?=some (.cells #[.map (some x.heap.size)] 120)∧x'.ownsMap Try.prog 3 RV x.heap.size 4 DW∧x'.heap.size=db+1) (by kernel_rfl) (by rfl) rfl (fun x hxs hx=>?_) (fun E3 w3 a3 x x' hE3 hd3 hxs3 hx3 hxs3' hx3' hK3 hB3 hSt3 hq3=>?_)
 ·refine uS4_wp s2 (fun T' x' db a1 a2 a3 a4 a5 a6 a7 a8=>⟨rfl,rfl,fun b hb _=>a7 b hb,db,a1,a2,a3,a4,a5,a6,a8⟩)
 obtain ⟨T3,df3⟩:=a3
 have hdf:df3=[]:=hd3
 subst hdf
 obtain ⟨db,s3,j3,v11,q1,q2,q3,q4⟩:=hq3
 dsimp only at s3 j3 v11
 rw [hxs3] at q1 q2 q3
 have S3:Still h E2 w2 E3 w3:=⟨hK3,hE3.H',fun b o g1 g2=>⟨by rw [hE3.H']; exact g1,by
  have hl:=(Array.getElem?_eq_some_iff.1 g2).1
  rw [hx3' b g1,hSt3 b (by omega) id,hx3 b g1]; exact g2⟩⟩
 have z3:w3.heap.size=db+1:=by rw [← hxs3']; exact q4
 have q2':w3.heap[db]?=some (.cells #[.map (some w2.heap.size)] 120):=(hx3' db (hB3 db (by omega))).trans q2
 have q3':w3.ownsMap Try.prog 3 RV w2.heap.size 4 DW:=ownsMap_same q3 (hx3' _ (hB3 _ (Nat.le_refl _)))
 have HB3:∀ b,w2.heap.size≤b→E3.H b=none:=fun b hb=>by rw [hE3.H']; exact hB3 b hb
 rw [show uT5=.seq uS5 uT6 from u_parts.2.2.2.2.1]
 change HGn Try.prog h F E3 w3 100 _
 refine Idl.step (idl_hg Try.prog h F E3 w3) _ _ _ rfl (fun _=>stepG_seq) ?_
 refine HG.quietX [.cells #[.slice none 0 0] 27] (closed_none _) (fun T s=>T.size=65∧(∀ j,j < 15→j≠12→T[j]?=T3[j]?)∧T[12]?=some (.pointer (some ⟨s,0,none⟩))) (by kernel_rfl) (by rfl) (fun x hxs hx=>?_) (fun E4 w4 T4 S4 z4 N4 hR=>?_)
 ·refine uS5_wp s3 (fun T' x' a1 a2 a3 a4=>⟨rfl,rfl,fun b hb=>by rw [a4,Array.getElem?_push,if_neg (by omega)],by rw [a4]; simp,(fun i o hi=>?_),a1,a2,a3⟩)
  match i,hi with
  | 0,hi=>cases hi; rw [a4]; simp
 obtain ⟨s4,j4,v12⟩:=hR
 have z4:w4.heap.size=w3.heap.size+1:=z4
 obtain ⟨n4,n4H⟩:=N4 0 _ rfl
 rw [Nat.add_zero] at n4 n4H
 rw [show uT6=.seq xuS6 uT7 from u_parts.2.2.2.2.2.1]
 obtain ⟨f,hf,fz⟩:=arrfv T4 s4
 have hgo:∀ T5,T5.size=65→(∀ j,j < 13→T5[j]?=some (f j))→T5[13]?=some (.slice none 0 0)→HG Try.prog h F E4 (G ((base 45).at ⟨T5,[]⟩ [.code uT7]) cs) w4:=fun T5 s5 j5 v13=>by
  have k:∀ j,j < 13→T5[j]?=T4[j]?:=fun j hj=>by rw [j5 j hj,hf,arrf_get f (by omega)]
  have w_1:T5[1]?=some (.slice ta N cap):=by rw [k 1 (by decide),j4 1 (by decide) (by decide),j3 1 (by decide) (by decide),j2 1 (by decide) (by decide),u 1 (by decide)]; exact t1
  have w_2:T5[2]?=some pv:=by rw [k 2 (by decide),j4 2 (by decide) (by decide),j3 2 (by decide) (by decide),j2 2 (by decide) (by decide),u 2 (by decide)]; exact t2
  have w_3:T5[3]?=some dv:=by rw [k 3 (by decide),j4 3 (by decide) (by decide),j3 3 (by decide) (by decide),j2 3 (by decide) (by decide),u 3 (by decide)]; exact t3
  have w_4:T5[4]?=some (.pointer (some ⟨w.heap.size,0,none⟩)):=by rw [k 4 (by decide),j4 4 (by decide) (by decide),j3 4 (by decide) (by decide),j2 4 (by decide) (by decide),u 4 (by decide)]; exact t4
  have w_10:T5[10]?=some (.pointer (some ⟨w1.heap.size+1,0,none⟩)):=by rw [k 10 (by decide),j4 10 (by decide) (by decide),j3 10 (by decide) (by decide)]; exact v10
  have w_11:T5[11]?=some (.pointer (some ⟨db,0,none⟩)):=by rw [k 11 (by decide),j4 11 (by decide) (by decide)]; exact v11
  have w_12:T5[12]?=some (.pointer (some ⟨w3.heap.size,0,none⟩)):=by rw [k 12 (by decide)]; exact v12
  have S14:=((S1.trans S2).trans S3).trans S4
  rw [show uT7=.seq uS7 uT12 from u_parts.2.2.2.2.2.2.1]
  change HGn Try.prog h F E4 w4 100 _
  refine Idl.step (idl_hg Try.prog h F E4 w4) _ _ _ rfl (fun _=>stepG_seq) ?_
  refine HG.quietS (fun _=>False) (fun _ z=>z.elim) (closed_none _) (Q:=fun a' x x'=>∃ v LB TB,a'.tmps.size=65∧(∀ j,j < 13→a'.tmps[j]?=T5[j]?)∧a'.tmps[13]?=some v∧BxG x.heap.size (wclo db (w1.heap.size+1) w.heap.size w3.heap.size) LA LN LC LB TB v N x'∧Below x.heap.size x x') (by kernel_rfl) (by rfl) rfl (fun x hxs hx=>?_) (fun E6 w6 a6 x x' hE6 hd6 hxs6 hx6 hxs6' hx6' hK6 hB6 hSt6 hq6=>?_)
  ·refine uS7_wp (ba:=ba) (bo:=bo) s5 w_1 w_4 w_10 w_11 w_12 v13 hta (fun i hi=>?_) (by omega) (fun T' x' v LB TB a1 a2 a3 a4 a5=>⟨rfl,rfl,fun b hb _=>a5.block b hb,v,LB,TB,a1,a2,a3,a4,a5⟩)
   obtain ⟨k1,k2⟩:=hcell i hi
   obtain ⟨d1,d2⟩:=S14.st.cell k1 k2
   exact (World.cell?_of_block (a:=⟨ba,bo+i,none⟩) (hx _ d2)).trans d1
  obtain ⟨T6,df6⟩:=a6
  have hdf:df6=[]:=hd6
  subst hdf
  obtain ⟨v,LB,TB,s6,j6,v13',bx,hbl⟩:=hq6
  dsimp only at s6 j6 v13'
  have S6:Still h E4 w4 E6 w6:=⟨hK6,hE6.H',fun b o g1 g2=>⟨by rw [hE6.H']; exact g1,by
   have hl:=(Array.getElem?_eq_some_iff.1 g2).1
   rw [hx6' b g1,hSt6 b (by omega) id,hx6 b g1]; exact g2⟩⟩
  have S26:=(S3.trans S4).trans S6
  have S46:=S4.trans S6
  have S16:=S2.trans S26
  have HB6:∀ b,w.heap.size≤b→E6.H b=none:=fun b hb=>by
   rw [(S1.trans S16).H]; exact hB0 b hb
  have c6:∀ {W:Env} {x0:World} {a:Addr} {u:Value},Still h W x0 E6 w6→x0.cell? a=some u→W.H a.block=none→w6.cell? a=some u:=fun S h1 h2=>(S.st.cell h1 h2).1
  have Hm:∀ b,E4.H b=none→w6.heap[b]?=x'.heap[b]?:=hx6'
  have HB4:∀ b,w4.heap.size≤b→E4.H b=none:=hB6
  refine hc E6 w6 T6 w.heap.size w1.heap.size (w1.heap.size+1) w2.heap.size db w3.heap.size v LB TB (S14.trans S6) ⟨c6 S16 cn n1H,(S26.st _ _ n2H n2).2,?_,?_,?_,(S6.st _ _ n4H n4).2,⟨?_,fun i hi=>?_⟩,?_,HB6⟩ s6 ((j6 2 (by decide)).trans w_2) ((j6 3 (by decide)).trans w_3) ((j6 4 (by decide)).trans w_4) ((j6 10 (by decide)).trans w_10) ((j6 12 (by decide)).trans w_12) v13'
  ·exact c6 (a:=⟨w1.heap.size+1,0,none⟩) S26 (obj_cell n3 (o:=0) rfl) n3H
  ·obtain ⟨es,clk,hb,r⟩:=q3'
   exact ⟨es,clk,(S46.st _ _ (HB3 _ (Nat.le_refl _)) hb).2,r⟩
  ·exact c6 (a:=⟨db,0,none⟩) S46 (obj_cell q2' (o:=0) rfl) (HB3 _ (by dsimp only; omega))
  ·rw [hxs6,z4] at bx
   exact ownsRow_same bx.row (fun g hg=>Hm g (HB4 g (by have:=(bx.row.lt g hg).1; omega)))
  ·rw [hxs6,z4] at bx
   obtain ⟨p1,p2,p3,p4,p5,p6⟩:=bx.box i hi
   exact ⟨(World.cell?_of_block (a:=⟨LB i,0,none⟩) (Hm _ (HB4 _ (by dsimp only; omega)))).trans p1,(World.cell?_of_block (a:=⟨TB i,0,none⟩) (Hm _ (HB4 _ (by dsimp only; omega)))).trans p2,p3,p4,p5,p6⟩
  ·refine ⟨Nat.le_refl _,hz1,by omega,by omega,q1,by omega⟩
 clear j2 j3 j4 v10 v11 v12
 clear fz
 subst hf
 replace hgo:=Lib.hid hgo
 change HGn Try.prog h F E4 w4 100 _
 generalize hG:uT7=L7 at hgo ⊢
 simp only [xuS6,uS6,uT6,uT5,uT4,uT3,uT1,uB,Try.f45,Option.getD_some,List.range,List.range.loop,List.map_cons,List.map_nil]
 refine Idl.q (idl_hg Try.prog h F E4 w4) (Idl.rg (idl_hg Try.prog h F E4 w4) [0] rfl ?_)
 refine Idl.v (idl_hg Try.prog h F E4 w4) ?_
 walk_nrm
 refine Idl.re (idl_hg Try.prog h F E4 w4) ?_
 refine hgo.out _ (by simp) (fun j hj=>?_) (by simp)
 match j,hj with
 | 0,_ | 1,_ | 2,_ | 3,_ | 4,_ | 5,_ | 6,_ | 7,_ | 8,_ | 9,_ | 10,_ | 11,_ | 12,_=>simp
 | q+13,hq=>exact absurd hq (by omega)
end
end Go.Proofs.Ytimlbbleblijnaa.Co

namespace Go.Proofs.Ytimlbbleblijnaa.Co
open Go Go.Conc Go.RowKit
open Go.ConcN (sumTo upd sumTo_upd upd_ne upd_same sumTo_congr le_sumTo)
structure WA where
 ms:List Mk
 ix:Nat→Nat
 cnt:Nat→Nat
 vs:Nat→Int
def opAt (ts:List (List Op3)) (t i:Nat):Op3:=((ts.getD t [])[i]?).getD (0,0,0)
def wordG (n:Nat) (ts:List (List Op3)):Game WA where
 n:=ts.length
 alive a t:=decide (a.ix t < lenOf ts t)
 pick a t k :=
  let op:=opAt ts t (a.ix t)
  let j:=pickIx op.2.1 n
  ⟨a.ms ++ [((t:Int),k,(a.cnt t:Int),(doW (a.vs j) op.1 op.2.2).2)],upd a.ix t (aftI (ts.getD t []) (a.ix t+1)),upd a.cnt t (a.cnt t+1),upd a.vs j (doW (a.vs j) op.1 op.2.2).1⟩
def wa0 (ts:List (List Op3)):WA:=⟨[],fun t=>aftI (ts.getD t []) 0,fun _=>0,fun _=>0⟩
def wordW (ts:List (List Op3)) (a:WA):Nat:=sumTo ts.length (fun t=>lenOf ts t - a.ix t)
theorem lenOf_getD (ts:List (List Op3)) (t:Nat):lenOf ts t=(ts.getD t []).length:=by
 unfold lenOf
 rw [List.getD_eq_getElem?_getD]
 cases ts[t]? <;> rfl
theorem wordW_pick {n:Nat} {ts:List (List Op3)} (a:WA) (t:Nat) (k:Int) (ht:t < (wordG n ts).n) (ha:(wordG n ts).alive a t=true):wordW ts ((wordG n ts).pick a t k) < wordW ts a:=by
 have ha':a.ix t < lenOf ts t:=of_decide_eq_true ha
 have hge:=aftI_ge (ts.getD t []) (a.ix t+1)
 obtain ⟨q,hq⟩:∃ q,q=aftI (ts.getD t []) (a.ix t+1):=⟨_,rfl⟩
 rw [← hq] at hge
 have h1:=sumTo_upd (fun t=>lenOf ts t - a.ix t) (lenOf ts t - q) (fun x=>x) (j:=ts.length) (i:=t) ht
 have e:(fun t'=>lenOf ts t' - upd a.ix t q t')=upd (fun t=>lenOf ts t - a.ix t) t (lenOf ts t - q):=by
  funext t'
  by_cases e:t'=t
  ·subst e
   rw [upd_same,upd_same]
  ·rw [upd_ne _ _ e,upd_ne _ _ e]
 show sumTo ts.length (fun t'=>lenOf ts t' - upd a.ix t (aftI (ts.getD t []) (a.ix t+1)) t') < sumTo ts.length (fun t=>lenOf ts t - a.ix t)
 rw [← hq,e]
 have h2:sumTo ts.length (fun a_1=>upd (fun t=>lenOf ts t - a.ix t) t (lenOf ts t - q) a_1)=sumTo ts.length (upd (fun t=>lenOf ts t - a.ix t) t (lenOf ts t - q)):=rfl
 have h3:sumTo ts.length (fun a_1=>(fun t=>lenOf ts t - a.ix t) a_1)=sumTo ts.length (fun t=>lenOf ts t - a.ix t):=rfl
 omega
theorem word_ex (n:Nat) (ts:List (List Op3)) (picks:List Int) (drain:Bool):∃ z,(wordG n ts).Run picks drain (wa0 ts) z:=Game.Run.ex (wordW ts) (fun a t k h1 h2=>wordW_pick a t k h1 h2) picks drain _
theorem opsOf_pt {ts:List (List Op3)} {LB TB LA LO LC:Nat→Nat} {t:Nat} (h:t < ts.length):opsOf (ptOf ts LB TB LA LO LC) t=ts.getD t []:=opsOf_of (ptOf_get h)
structure WR (ts:List (List Op3)) (x:RS WS WL) (a:WA):Prop where
 len:x.1.length=ts.length
 ms:x.2.1.ms=a.ms
 cnt:x.2.1.cnt=a.cnt
 vs:x.2.1.vs=a.vs
 th:∀ t,t < ts.length→(∃ m,x.1[t]?=some (some (m,⟨t,a.ix t,a.cnt t⟩))∧a.ix t < lenOf ts t)∨(x.1[t]?=some none∧¬ a.ix t < lenOf ts t)
theorem stand_th {ts:List (List Op3)} {LB TB LA LO LC:Nat→Nat} {t c i m:Nat} (h:t < ts.length):(∃ m',(standW (ptOf ts LB TB LA LO LC) t c i).map (fun y=>(m,y))=some (m',⟨t,i,c⟩)∧i < lenOf ts t)∨((standW (ptOf ts LB TB LA LO LC) t c i).map (fun y=>(m,y))=none∧¬ i < lenOf ts t):=by
 unfold standW
 rw [opsOf_pt h,lenOf_getD]
 by_cases e:i < (ts.getD t []).length
 ·rw [if_pos e]
  exact .inl ⟨m,rfl,e⟩
 ·rw [if_neg e]
  exact .inr ⟨rfl,e⟩
theorem word_sim {mb wb n:Nat} {K:Nat→Obj→Prop} {ts:List (List Op3)} {LB TB LA LO LC:Nat→Nat}:Sim (wordD mb wb n K (ptOf ts LB TB LA LO LC)) (wordG n ts) (WR ts):=by
 refine ⟨fun x a h=>h.len,fun x a h t ht=>?_,fun x a x' t h ht ha hp=>?_,fun x a h=>⟨h.len,h.ms,h.cnt,h.vs,h.th⟩⟩
 ·rcases h.th t ht with ⟨m,e1,e2⟩ | ⟨e1,e2⟩
  ·rw [e1]
   exact (decide_eq_true e2).symm
  ·rw [e1]
   exact (decide_eq_false e2).symm
 ·rcases h.th t ht with ⟨m,e1,e2⟩ | ⟨e1,e2⟩
  ·unfold PickR at hp
   rw [e1] at hp
   obtain ⟨m',s',o,hm,⟨op,hop,hc,hz⟩,rfl⟩:=hp
   dsimp only at hop hz
   cases hz
   rw [opsOf_pt ht] at hop
   have hopa:opAt ts t (a.ix t)=op:=by unfold opAt; rw [hop]; rfl
   have htl:t < x.1.length:=by rw [h.len]; exact ht
   refine ⟨by simp [h.len],?_,?_,?_,fun t' ht'=>?_⟩
   ·show x.2.1.ms ++ _=a.ms ++ _
    rw [h.ms,h.vs,hopa]
   ·show upd x.2.1.cnt t _=upd a.cnt t _
    rw [h.cnt]
   ·show upd x.2.1.vs _ _=upd a.vs _ _
    rw [h.vs,hopa]
   ·dsimp only
    by_cases e:t'=t
    ·subst e
     rw [List.getElem?_set_self htl]
     have h1:((wordG n ts).pick a t' (x.2.2+1)).ix t'=aftI (ts.getD t' []) (a.ix t'+1):=upd_same ..
     have h2:((wordG n ts).pick a t' (x.2.2+1)).cnt t'=a.cnt t'+1:=upd_same ..
     rw [h1,h2,opsOf_pt ht]
     rcases stand_th (LB:=LB) (TB:=TB) (LA:=LA) (LO:=LO) (LC:=LC) (c:=a.cnt t'+1) (i:=aftI (ts.getD t' []) (a.ix t'+1)) (m:=m') ht with ⟨m2,q1,q2⟩ | ⟨q1,q2⟩
     ·rw [q1]; exact .inl ⟨m2,rfl,q2⟩
     ·rw [q1]; exact .inr ⟨rfl,q2⟩
    ·rw [List.getElem?_set_ne (Ne.symm e)]
     have h1:((wordG n ts).pick a t (x.2.2+1)).ix t'=a.ix t':=upd_ne _ _ e
     have h2:((wordG n ts).pick a t (x.2.2+1)).cnt t'=a.cnt t':=upd_ne _ _ e
     rw [h1,h2]
     exact h.th t' ht'
  ·rw [e1] at ha; cases ha
def wordBs (ts:List (List Op3)) (L:List PT) (cv:Nat→Nat→Value) (LB TB:Nat→Nat) (l:List Nat):List (Body WS WL):=l.map fun i=>⟨cv (LB i) (TB i),(ts.getD i []).length,startW L i⟩
theorem start_wr {ts:List (List Op3)} {LB TB LA LO LC:Nat→Nat} {cv:Nat→Nat→Value}:∀ (m i:Nat) (x x0:List (Option (Nat × WL)) × WS),i+m=ts.length→StartR (wordBs ts (ptOf ts LB TB LA LO LC) cv LB TB (List.range' i m)) x x0→x.1.length=i→x.2.ms=[]→x.2.cnt=(fun _=>0)→x.2.vs=(fun _=>0) →
  (∀ t,t < i→(∃ m,x.1[t]?=some (some (m,⟨t,(wa0 ts).ix t,0⟩))∧(wa0 ts).ix t < lenOf ts t)∨(x.1[t]?=some none∧¬ (wa0 ts).ix t < lenOf ts t))→WR ts (x0.1,x0.2,0) (wa0 ts)
 | 0,i,x,x0,hi,h,h1,h2,h3,h4,h5=>by
   cases h
   exact ⟨by dsimp only; omega,h2,h3,h4,fun t ht=>h5 t (by omega)⟩
 | m+1,i,x,x0,hi,h,h1,h2,h3,h4,h5=>by
   unfold wordBs at h
   rw [List.range'_succ,List.map_cons] at h
   cases h with
   | @cons _ _ _ s' o _ hs ht =>
     dsimp only at hs ht
     cases hs
     have hget:∀ (y:Option (Nat × WL)) t,t < i+1→(x.1 ++ [y])[t]?=if t=i then some y else x.1[t]?:=fun y t ht=>by
      by_cases e:t=i
      ·subst e
       rw [if_pos rfl,← h1,List.getElem?_append_right (Nat.le_refl _)]
       simp
      ·rw [if_neg e,List.getElem?_append_left (by omega)]
     refine start_wr m (i+1) _ x0 (by omega) ht (by simp [h1]) h2 h3 h4 (fun t hl=>?_)
     dsimp only
     rw [hget _ t hl]
     by_cases e:t=i
     ·subst e
      rw [if_pos rfl,opsOf_pt (show t < ts.length by omega)]
      rcases stand_th (LB:=LB) (TB:=TB) (LA:=LA) (LO:=LO) (LC:=LC) (t:=t) (c:=0) (i:=aftI (ts.getD t []) 0) (m:=(ts.getD t []).length) (show t < ts.length by omega) with ⟨m2,q1,q2⟩ | ⟨q1,q2⟩
      ·rw [q1]; exact .inl ⟨m2,rfl,q2⟩
      ·rw [q1]; exact .inr ⟨rfl,q2⟩
     ·rw [if_neg e]
      exact h5 t (by omega)
theorem PlayM.turn {mb:Nat} {K K2:Nat→Obj→Prop} {L:List PT} {s:PS} {E E':Env} {w w':World} (m:PlayM mb K L s E w) (hob:s.obs=[]) (c:Nat) (hc0:∃ o,K c o) (hS:∀ b o,b≠c→E.H b=none→w.heap[b]?=some o→E'.H b=none∧w'.heap[b]?=some o) (hcH:E'.H c=none)
  (h2:∀ b o,K2 b o→(b≠c∧K b o)∨(b=c∧w'.heap[c]?=some o)):PlayM mb K2 L s E' w':=by
 obtain ⟨oc,hoc⟩:=hc0
 obtain ⟨k1,k2,k3⟩:=m.kobj c oc hoc
 obtain ⟨mv,r1,r2,r3⟩:=m.row
 refine ⟨(hS mb _ (Ne.symm k3) m.mbH r1).1,fun b o hk=>?_,⟨mv,(hS mb _ (Ne.symm k3) m.mbH r1).2,ownsRow_same r2 (fun g hg=>?_),fun g hg=>?_⟩,fun ob ho=>(by rw [hob] at ho; cases ho),m.len,m.cnt⟩
 ·rcases h2 b o hk with ⟨hne,hk'⟩ | ⟨rfl,hw⟩
  ·obtain ⟨q1,q2,q3⟩:=m.kobj b o hk'
   exact ⟨(hS b o hne q2 q1).2,(hS b o hne q2 q1).1,q3⟩
  ·exact ⟨hw,hcH,k3⟩
 ·have hgc:g≠c:=fun e=>(r3 g hg).2.2 c oc hoc e.symm
  obtain ⟨o,ho⟩:∃ o,w.heap[g]?=some o:=⟨_,Array.getElem?_eq_getElem (r2.lt g hg).2⟩
  rw [ho]
  exact (hS g o hgc (r3 g hg).1 ho).2
 ·have hgc:g≠c:=fun e=>(r3 g hg).2.2 c oc hoc e.symm
  obtain ⟨o,ho⟩:∃ o,w.heap[g]?=some o:=⟨_,Array.getElem?_eq_getElem (r2.lt g hg).2⟩
  refine ⟨(hS g o hgc (r3 g hg).1 ho).1,fun ob ho=>(by rw [hob] at ho; cases ho),fun b o hk=>?_⟩
  rcases h2 b o hk with ⟨_,hk'⟩ | ⟨rfl,_⟩
  ·exact (r3 g hg).2.2 b o hk'
  ·exact Ne.symm hgc
theorem PlayM.more {mb:Nat} {K:Nat→Obj→Prop} {L:List PT} {s:PS} {E E':Env} {w w':World} {c:Nat} {oc:Obj} (m:PlayM mb K L s E w) (hob:s.obs=[]) (hS:∀ b o,E.H b=none→w.heap[b]?=some o→E'.H b=none∧w'.heap[b]?=some o) (hc:w'.heap[c]?=some oc) (hcH:E'.H c=none) (hn:w.heap.size≤c) :
  PlayM mb (fun b o=>K b o∨(b=c∧o=oc)) L s E' w':=by
 obtain ⟨mv,r1,r2,r3⟩:=m.row
 have hl:=(Array.getElem?_eq_some_iff.1 r1).1
 refine ⟨(hS mb _ m.mbH r1).1,fun b o hk=>?_,⟨mv,(hS mb _ m.mbH r1).2,ownsRow_same r2 (fun g hg=>?_),fun g hg=>?_⟩,fun ob ho=>(by rw [hob] at ho; cases ho),m.len,m.cnt⟩
 ·rcases hk with hk | ⟨rfl,rfl⟩
  ·obtain ⟨q1,q2,q3⟩:=m.kobj b o hk
   exact ⟨(hS b o q2 q1).2,(hS b o q2 q1).1,q3⟩
  ·exact ⟨hc,hcH,by omega⟩
 ·obtain ⟨o,ho⟩:∃ o,w.heap[g]?=some o:=⟨_,Array.getElem?_eq_getElem (r2.lt g hg).2⟩
  rw [ho]
  exact (hS g o (r3 g hg).1 ho).2
 ·have hg2:=(r2.lt g hg).2
  obtain ⟨o,ho⟩:∃ o,w.heap[g]?=some o:=⟨_,Array.getElem?_eq_getElem hg2⟩
  refine ⟨(hS g o (r3 g hg).1 ho).1,fun ob ho=>(by rw [hob] at ho; cases ho),fun b o hk=>?_⟩
  rcases hk with hk | ⟨rfl,rfl⟩
  ·exact (r3 g hg).2.2 b o hk
  ·omega
end Go.Proofs.Ytimlbbleblijnaa.Co

namespace Go.Proofs.Ytimlbbleblijnaa.Co
open Go Go.Conc Go.RowKit
theorem is_any {x:World} {k:Int}:Calls Try.prog 32 #[.int .i64 k] x fun e x'=>e=.returned (.bool (isC k))∧x'=x:=by
 unfold isC
 by_cases h1:1≤k
 ·have q1:decide (1≤k)=true:=decide_eq_true h1
  by_cases h4:k≤4
  ·have q4:decide (k≤4)=true:=decide_eq_true h4
   rw [q1,q4]
   go_enter Try.func32,Try.ntmps32
   go_wp2
   go_ret
   refine ⟨?_,rfl⟩
   rfl
  ·have q4:decide (k≤4)=false:=decide_eq_false h4
   rw [q1,q4]
   go_enter Try.func32,Try.ntmps32
   go_wp2
   go_ret
   refine ⟨?_,rfl⟩
   rfl
 ·have q1:decide (1≤k)=false:=decide_eq_false h1
  rw [q1,Bool.false_and]
  go_enter Try.func32,Try.ntmps32
  go_wp2
  go_ret
  refine ⟨?_,rfl⟩
  rfl
section
variable {x:World} {Q:Exit→Act→World→Prop}
end
end Go.Proofs.Ytimlbbleblijnaa.Co
