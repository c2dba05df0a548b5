/- Lemmas for the laws of this seat, laid together of PGat, PGau, PGav, PGaw, PGax, PGay. -/
import Derived.Test.YtimlbbleblijnaaX11

open Go.ConcR.Gen (base_kind baseD_kind)
set_option linter.unusedVariables false
set_option linter.unusedSimpArgs false
set_option maxRecDepth 100000
set_option maxHeartbeats 4000000
namespace Go.Proofs.Ytimlbbleblijnaa.Co
open Go Go.Conc
open Go.ConcN (sumTo upd sumTo_upd upd_ne upd_same sumTo_congr le_sumTo)
theorem AtE.virt {h:Nat} {E E1:Env} {w w1:World} {Hs:Nat→Option Nat} (a:AtE h { E with H:=Hs } w E1 w1):AtE h E w { E1 with H:=E.H } w1∧E1.H=Hs :=
 ⟨⟨⟨⟨a.1.seat,a.1.gone,a.1.roleH,a.1.St,a.1.W,fun _ _ e=>e,a.1.wg,a.1.wgH,a.1.wgS,a.1.ex,a.1.mode,a.1.modeUp,a.1.io⟩,a.1.W',a.1.St',rfl⟩,a.2⟩,a.1.H'⟩
section
variable {σ Λ:Type} {D:Prot σ Λ} {Pv Pv':Nat→Option Obj} {h rb:Nat} {J:Nat→Prop} {E0 E E1:Env} {w0 w w1 w3:World} {ths:List Th} {st:List (Option (Nat × Λ))} {s:σ} {k:Int} {th:Th} {o:Option (Nat × Λ)}
theorem Phase.hide (Ph:Phase D h rb E0 w0 Pv ths st s k E w) (hPn:∀ b o,Pv b=some o→w0.heap.size≤b) {H3:Nat→Option Nat} {S3:Addr→Option Value} (hsz:w.heap.size≤w3.heap.size) (hold:∀ b,b < w.heap.size→Pv b=none→E.W b=false→w3.heap[b]?=w.heap[b]?) (holdW:∀ b,E.W b=true→∀ x st sm e,w.heap[b]?=some (runObj x st sm e)→∃ st' sm',w3.heap[b]?=some (runObj x st' sm' e))
  (hpv:∀ b o,Pv' b=some o→w3.heap[b]?=some o∧H3 b=some 0∧E.W b=false∧(∀ th ∈ ths,b ∉ th.bl)∧∀ i a,a.block=b→upd E.St h S3 i a=none) (hH:∀ b n,E.H b=some n→H3 b=some n) (hHn:∀ b,b < w.heap.size→E.H b=none→H3 b=none) (hWH:∀ b,E.W b=true→E.H b=some 1)
  (hS:∀ a v,E.St h a=some v→S3 a=some v) (hSn:∀ a,S3 a≠none→E.St h a≠none∨w.heap.size≤a.block):Phase D h rb E0 w0 Pv' ths st s k { E with H:=H3,St:=upd E.St h S3 } w3:=by
 have B:=Ph.base
 have hPnone:∀ {b},(∃ th ∈ ths,b ∈ th.bl)→Pv b=none:=fun {b} ⟨th,hm,hb⟩=>by
  cases e:Pv b with
  | none=>rfl
  | some o=>exact absurd hb ((Ph.pv b o e).2.2.2.1 th hm)
 have hPW:∀ {b},E.W b=true→Pv b=none:=fun {b} hb=>by
  cases e:Pv b with
  | none=>rfl
  | some o=>have:=(Ph.pv b o e).2.2.1; rw [hb] at this; cases this
 have hP0:∀ {b},b < w0.heap.size→Pv b=none:=fun {b} hb=>by
  cases e:Pv b with
  | none=>rfl
  | some o=>have:=hPn b o e; omega
 have hSt:∀ x a v,E.St x a=some v→upd E.St h S3 x a=some v:=fun x a v e=>by
  by_cases hx:x=h
  ·subst hx; rw [upd_same]; exact hS a v e
  ·rw [upd_ne _ _ hx]; exact e
 have hStN:∀ i a,upd E.St h S3 i a≠none→E.St i a≠none∨w.heap.size≤a.block:=fun i a e=>by
  by_cases hx:i=h
  ·subst hx; rw [upd_same] at e; exact hSn a e
  ·rw [upd_ne _ _ hx] at e; exact .inl e
 have hrW:=Ph.rW
 obtain ⟨st0,sm0,x0,e0,hx0⟩:=Ph.rL
 obtain ⟨st1,sm1,hx1⟩:=holdW rb hrW _ _ _ _ hx0
 have hcell:∀ {th:Th},th ∈ ths→∀ b ∈ th.bl,E.W b=false→b < w.heap.size→w3.heap[b]?=w.heap[b]?:=fun hm b hb hW hl=>hold b hl (hPnone ⟨_,hm,hb⟩) hW
 refine ⟨⟨B.seat,B.gone,B.newR,B.role0,fun x a v e=>hSt x a v (B.St x a v e),fun i a e=>?_,B.W,B.WN,fun b n e=>hH b n (B.H b n e),B.wg,B.wgH,B.wgS,B.wgJ,B.ex,B.mode0,B.mode,Nat.le_trans B.size hsz,fun b n h1 h2 h3=>?_,fun b h1 x st sm e hx=>?_,B.rN,B.rW0,B.rX0,by first | exact B.io | exact m.io.trans B.io | exact a.1.io.trans B.io | exact B1.io | rfl⟩,Ph.role,Ph.len,fun th hm=>?_,Ph.new,Ph.apart,Ph.self,fun t th o e1 e2=>?_,Ph.ex,hrW,
  ⟨st1,sm1,x0,e0,hx1⟩,?_,D.closed _ _ _ _ _ Ph.M fun b hb hn=>⟨hHn b hb hn,hold b hb ?_ ?_⟩,hpv,Ph.fits⟩
 ·rcases hStN i a e with z | z
  ·exact B.StN i a z
  ·exact .inr (Nat.le_trans B.size z)
 ·have hW:E.W b=false:=by
   cases e:E.W b with
   | false=>rfl
   | true =>
     rcases B.WN b e with z | z
     ·rw [h2] at z; cases z
     ·omega
  rw [hold b (Nat.lt_of_lt_of_le h3 B.size) (hP0 h3) hW]; exact B.heap b n h1 h2 h3
 ·obtain ⟨st',sm',h3⟩:=B.heapW b h1 x st sm e hx
  exact holdW b (B.W b h1) x st' sm' e h3
 ·have T:=Ph.tb th hm
  obtain ⟨k1,c1⟩:=T.ctC
  obtain ⟨k2,c2⟩:=T.csC
  refine ⟨T.hj,T.j0,T.gW,hH _ _ T.gH,hH _ _ T.ctH,T.ctW,⟨k1,by rw [hcell hm _ (by simp [Th.bl]) T.ctW (Array.getElem?_eq_some_iff.1 c1).1]; exact c1⟩,hH _ _ T.csH,T.csW,⟨k2,by rw [hcell hm _ (by simp [Th.bl]) T.csW (Array.getElem?_eq_some_iff.1 c2).1]; exact c2⟩,hSt _ _ _ T.stT,hSt _ _ _ T.stS,hSt _ _ _ T.stB,T.bW,Nat.lt_of_lt_of_le T.bL hsz,Nat.lt_of_lt_of_le T.gL hsz,fun i x hx=>?_,T.noT,T.noS⟩
  cases e:upd E.St h S3 i ⟨th.gb,x,none⟩ with
  | none=>exact e
  | some v =>
    rcases hStN i _ (by rw [e]; simp) with z | z
    ·exact absurd (T.noSt i x hx) z
    ·have z':w.heap.size≤th.gb:=z
     have:=T.gL
     omega
 ·have hm:=List.mem_of_getElem? e1
  have T:=Ph.tb th hm
  have hga:∀ en fr tl,GA w rb th en fr tl→GA w3 rb th en fr tl:=fun en fr tl g=>by
   unfold GA at g ⊢
   rw [hcell hm _ (by simp [Th.bl]) T.gW T.gL]; exact g
  match o,Ph.ts t th o e1 e2 with
  | some (n,ℓ),⟨s1,s2,s3⟩=>exact ⟨s1,s2,hga _ _ _ s3⟩
  | none,⟨s1,fr,tl,s2⟩=>exact ⟨s1,fr,tl,hga _ _ _ s2⟩
 ·have:=Ph.pick
  unfold World.cell? at this ⊢
  rw [hx0] at this
  rw [hx1]; exact this
 ·cases e:Pv b with
  | none=>rfl
  | some o=>have:=(Ph.pv b o e).2.1; rw [hn] at this; cases this
 ·cases e:E.W b with
  | false=>rfl
  | true=>rw [hWH b e] at hn; cases hn
theorem Phase.grow (Ph:Phase D h rb E0 w0 Pv ths st s k E w) (hPn:∀ b o,Pv b=some o→w0.heap.size≤b) (hWH:∀ b,E.W b=true→E.H b=some 1) (hsz:w.heap.size≤w3.heap.size) (hold:∀ b,b < w.heap.size→E.W b=false→w3.heap[b]?=w.heap[b]?) (holdW:∀ b,E.W b=true→∀ x st sm e,w.heap[b]?=some (runObj x st sm e)→∃ st' sm',w3.heap[b]?=some (runObj x st' sm' e)):Phase D h rb E0 w0 Pv ths st s k E w3:=by
 have:=Ph.hide (Pv':=Pv) (H3:=E.H) (S3:=E.St h) hPn hsz (fun b hb _ hW=>hold b hb hW) holdW (fun b o e=>by
  obtain ⟨p1,p2,p3,p4,p5⟩:=Ph.pv b o e
  exact ⟨by rw [hold b (Array.getElem?_eq_some_iff.1 p1).1 p3]; exact p1,p2,p3,p4,fun i a ea=>by
   by_cases hx:i=h
   ·subst hx; rw [upd_same]; exact p5 _ a ea
   ·rw [upd_ne _ _ hx]; exact p5 i a ea⟩) (fun _ _ e=>e) (fun _ _ e=>e) hWH (fun _ _ e=>e) (fun _ e=>.inl e)
 have e:({ E with H:=E.H,St:=upd E.St h (E.St h) }:Env)=E:=by
  have:upd E.St h (E.St h)=E.St:=by
   funext x
   by_cases hx:x=h
   ·subst hx; rw [upd_same]
   ·rw [upd_ne _ _ hx]
  rw [this]
 rw [e] at this
 exact this
theorem Upped.mv {E3 E4:Env} {w4:World} (u:Upped h rb (AtE h E3 w3) E4 w4):Mv h rb th E3 w3 E4 w4∧E4.ex rb=E3.ex rb+1∧E4.H=E3.H∧E4.W=E3.W∧E4.St=E3.St∧E4.role h=E3.role h∧Aw E3.W w3 w4∧(∀ x c home,E3.role x=.seat c home ↔ E4.role x=.seat c home):=by
 obtain ⟨Ea,wa,a1,a2,a3⟩:=u
 have m1:Mv h rb th E3 w3 Ea wa:=a1.mv (.inl rfl)
 have m2:Mv h rb th Ea wa { Ea with ex:=upd Ea.ex rb (Ea.ex rb+1) } wa:=⟨fun _ _ _ _ _=>Iff.rfl,fun _ _ _ e=>e,fun _ _ _ e=>e,fun _ _ e=>.inl e,fun _ e=>e,fun _ e=>.inl e,fun _ _ e=>e,fun _ _ _ e=>e,rfl,fun _ _ _ _=>rfl,fun _ e=>.inl e,fun b hb=>upd_ne _ _ hb,fun _ e=>e,Nat.le_refl _,fun _ _ _ _ _ _ _ _=>rfl,fun _ _ _ x st sm e hx=>⟨st,sm,hx⟩,by first | rfl | exact m.io | exact a.io | exact a.le.io | exact b.io.trans a.io | exact a.1.io⟩
 have m3:Mv h rb th { Ea with ex:=upd Ea.ex rb (Ea.ex rb+1) } wa E4 w4:=AtE.mv (j:=h) ⟨a2,a3⟩ (.inl rfl)
 refine ⟨(m1.trans m2).trans m3,?_,a2.H'.trans a1.1.H',a2.W'.trans a1.1.W',a2.St'.trans a1.1.St',a2.roleH.trans a1.1.roleH,a1.2.trans _ _ _ (by rw [← a1.1.W']; exact a3),fun x c home=>(a1.1.seat x c home).trans (a2.seat x c home)⟩
 rw [a2.ex]
 show upd Ea.ex rb (Ea.ex rb+1) rb=_
 rw [upd_same,a1.1.ex]
theorem quiet_heap {H:Nat→Option Nat} {W:Nat→Bool} {w1 w':World} (hF:Far H W w1 w') (hfit:Fit H W w1):(∀ b,b < w1.heap.size→W b=false→(vw H w').heap[b]?=(vw H w1).heap[b]?→w'.heap[b]?=w1.heap[b]?) ∧
  (∀ b,W b=true→(vw H w').heap[b]?=(vw H w1).heap[b]?→∀ x st sm e,w1.heap[b]?=some (runObj x st sm e)→∃ st' sm',w'.heap[b]?=some (runObj x st' sm' e)):=by
 refine ⟨fun b hb hW hv=>?_,fun b hW hv x st sm e hx=>?_⟩
 ·cases hH:H b with
  | none=>rw [vw_get_none hH,vw_get_none hH] at hv; exact hv
  | some m =>
    rcases hF.hid b m hH hW hb with ⟨c,c',e,f,h1,h2,h3,h4⟩ | h1
    ·rw [vw_get_some hH,vw_get_some hH,h1,h2] at hv
     simp only [Option.map_some,hideObj,Option.some.injEq,Obj.cells.injEq] at hv
     rw [h1,h2]
     have:c'=c:=by
      apply Array.ext_getElem?
      intro i
      by_cases hi:m≤i
      ·exact h4 i hi
      ·have:=congrArg (·[i]?) hv.1
       simp only [Array.getElem?_extract] at this
       by_cases hl:i < c.size
       ·rw [if_pos (by omega),if_pos (by omega)] at this
        simpa using this
       ·rw [Array.getElem?_eq_none (by omega),Array.getElem?_eq_none (by omega)]
     rw [this]
    ·exact h1
 ·obtain ⟨x',st',sm',h1⟩:=hF.run b hW x st sm e hx
  have hH:=hfit.sub b hW
  rw [vw_get_some hH,vw_get_some hH,hx,h1] at hv
  simp only [Option.map_some,hideObj,runObj,Option.some.injEq,Obj.cells.injEq] at hv
  have h2:=congrArg (·[0]?) hv.1
  simp at h2
  exact ⟨st',sm',by rw [h1,h2]⟩
end
end Go.Proofs.Ytimlbbleblijnaa.Co

namespace Go.Proofs.Ytimlbbleblijnaa.Co
open Go Go.Conc
noncomputable def rBody:Code:=Try.f29.body.getD .skip
noncomputable def rHire:Code:=match rBody with | .seq _ (.seq _ (.seq _ (.seq _ x)))=>x | _=>.skip
noncomputable def rA:Code:=match rHire with | .seq (.seq _ (.block _ (.loop a))) _=>a | _=>.skip
noncomputable def rB:Code:=match rHire with | .seq _ b=>b | _=>.skip
noncomputable def rC:Code:=match rB with | .seq _ (.seq _ (.seq (.seq _ (.block _ (.loop c))) _))=>c | _=>.skip
noncomputable def rD:Code:=match rB with | .seq _ (.seq _ (.seq _ d))=>d | _=>.skip
noncomputable def rE:Code:=match rD with | .seq (.seq _ (.block _ (.loop e))) _=>e | _=>.skip
noncomputable def rG:Code:=match rD with | .seq _ g=>g | _=>.skip
noncomputable def rE6:Code:=match rE with | .seq _ (.block _ (.seq _ (.seq _ (.block _ (.loop c)))))=>c | _=>.skip
noncomputable def rH:Code:=match rG with | .seq (.seq _ (.block _ (.loop x))) _=>x | _=>.skip
noncomputable def rI:Code:=match rG with | .seq _ i=>i | _=>.skip
noncomputable def xA:Code:=rA
noncomputable def xB:Code:=rB
noncomputable def xC:Code:=rC
noncomputable def xD:Code:=rD
noncomputable def xE:Code:=rE
noncomputable def xE6:Code:=rE6
noncomputable def xG:Code:=rG
noncomputable def xH:Code:=rH
noncomputable def xI:Code:=rI
def R121 (f:Nat→Value):Array Value:=#[f 0,f 1,f 2,f 3,f 4,f 5,f 6,f 7,f 8,f 9,f 10,f 11,f 12,f 13,f 14,f 15,f 16,f 17,f 18,f 19,f 20,f 21,f 22,f 23,f 24,f 25,f 26,f 27,f 28,f 29,f 30,f 31,f 32,f 33,f 34,f 35,f 36,f 37,f 38,f 39,f 40,f 41,f 42,f 43,f 44,f 45,f 46,f 47,f 48,f 49,f 50,f 51,f 52,f 53,f 54,f 55,f 56,f 57,f 58,f 59,f 60,f 61,f 62,f 63,f 64,f 65,f 66,f 67,f 68,f 69,f 70,f 71,f 72,f 73,f 74,f 75,f 76,f 77,f 78,f 79,f 80,f 81,f 82,f 83,f 84,f 85,f 86,f 87,f 88,f 89,f 90,f 91,f 92,f 93,f 94,f 95,f 96,f 97,f 98,f 99,f 100,f 101,f 102,f 103,f 104,f 105,f 106,f 107,f 108,f 109,f 110,f 111,f 112,f 113,f 114,f 115,f 116,f 117,f 118,f 119,f 120]
theorem R121_eq (f:Nat→Value):R121 f=(List.map f (List.range 121)).toArray:=by kernel_rfl
theorem arr121f (T:Array Value) (h:T.size=121):∃ f:Nat→Value,T=R121 f:=by
 refine ⟨fun i=>T.getD i undef,?_⟩
 rw [R121_eq]
 apply Array.ext
 ·rw [h]; simp
 ·intro i h1 h2
  simp [Array.getD,h1]
theorem R121_get (f:Nat→Value) {i:Nat} (hi:i < 121):(R121 f)[i]?=some (f i):=by
 rw [R121_eq]
 simp [hi]
def PickR {σ Λ:Type} (D:Prot σ Λ) (t:Nat) (x x':List (Option (Nat × Λ)) × σ × Int):Prop :=
 match x.1[t]? with
 | some (some (m,ℓ))=>∃ n s' o,m=n+1∧D.next ℓ (x.2.2+1) x.2.1 (s',o)∧x'=(x.1.set t (o.map (fun y=>(n,y))),s',x.2.2+1)
 | _=>x'=(x.1,x.2.1,x.2.2+1)
def Pos {σ Λ:Type} (D:Prot σ Λ) (st:List (Option (Nat × Λ))):Prop:=∀ (t m:Nat) (ℓ:Λ),st[t]?=some (some (m,ℓ))→D.lax→0 < m
def FuelR {σ Λ:Type} (N:Nat) (x:List (Option (Nat × Λ)) × σ × Int):Prop:=∀ (t m:Nat) (ℓ:Λ),x.1[t]?=some (some (m,ℓ))→(N:Int)≤m+x.2.2
theorem FuelR.pos {σ Λ:Type} {D:Prot σ Λ} {N:Nat} {x:List (Option (Nat × Λ)) × σ × Int} (h:D.lax→FuelR N x∧x.2.2 < N):Pos D x.1:=fun t m ℓ e hl=>by
 have h1:=(h hl).1 t m ℓ e
 have h2:=(h hl).2
 omega
theorem pickR_fuel {σ Λ:Type} {D:Prot σ Λ} {N t:Nat} {x x':List (Option (Nat × Λ)) × σ × Int} (h:PickR D t x x') (f:FuelR N x):FuelR N x':=by
 unfold PickR at h
 split at h
 ·next m ℓ e =>
  obtain ⟨n,s',o,hm,_,rfl⟩:=h
  intro t' m' ℓ' e'
  dsimp only at e' ⊢
  have hlt:=(List.getElem?_eq_some_iff.1 e).1
  by_cases h1:t=t'
  ·subst h1
   rw [List.getElem?_set_self hlt] at e'
   have h2:=f t m ℓ e
   cases o with
   | none=>simp at e'
   | some y =>
     simp only [Option.map_some,Option.some.injEq,Prod.mk.injEq] at e'
     omega
  ·rw [List.getElem?_set_ne h1] at e'
   have:=f t' m' ℓ' e'
   omega
 ·subst h
  intro t' m' ℓ' e'
  have:=f t' m' ℓ' e'
  dsimp only
  omega
def pickIx (p:Int) (n:Nat):Nat:=((p.tmod n+n).tmod n).toNat
theorem pickIx_lt (p:Int) {n:Nat} (h:0 < n):pickIx p n < n:=by
 unfold pickIx
 have h1:0≤p.tmod n+n:=by
  have:=Int.lt_tmod_of_pos p (show (0:Int) < n by omega)
  omega
 have h2:=Int.tmod_lt_of_pos (p.tmod n+n) (show (0:Int) < n by omega)
 have h3:=Int.tmod_nonneg (n:Int) h1
 omega
def GS (w0:World) (v:Value) (Pv:Nat→Option Obj) (ths:List Th):Prop :=
 (v=.slice none 0 0∧ths=[]∧∀ b,Pv b=none)∨∃ g cap cur,v=.slice (some ⟨g,0,none⟩) ths.length cap∧Pv=(fun b=>if b=g then some (.cells cur 49) else none)∧w0.heap.size≤g∧ths.length≤cap∧cap≤maxLen∧cur.size=cap∧cur.toList.take ths.length=ths.map (fun th=>.pointer (some ⟨th.gb,0,none⟩))
theorem GS.row {w0:World} {v:Value} {Pv:Nat→Option Obj} {ths:List Th} (g:GS w0 v Pv ths) (h:0 < ths.length):∃ (g cap:Nat) (cur:Array Value),v=.slice (some ⟨g,0,none⟩) ths.length cap∧Pv g=some (.cells cur 49)∧∀ (t:Nat) (th:Th),ths[t]?=some th→(cur:Array Value)[t]?=some (Value.pointer (some ⟨th.gb,0,none⟩)):=by
 rcases g with ⟨_,rfl,_⟩ | ⟨g,cap,cur,e1,e2,e3,e4,e5,e6,e7⟩
 ·simp at h
 ·refine ⟨g,cap,cur,e1,by rw [e2]; simp,fun t th ht=>?_⟩
  have hlt:=(List.getElem?_eq_some_iff.1 ht).1
  have:(cur.toList.take ths.length)[t]?=some (.pointer (some ⟨th.gb,0,none⟩)):=by rw [e7,List.getElem?_map,ht]; rfl
  rw [List.getElem?_take_of_lt hlt] at this
  simpa using this
section
variable {σ Λ:Type} {D:Prot σ Λ} {Pv:Nat→Option Obj} {h rb:Nat} {E0 E:Env} {w0 w:World} {ths:List Th} {st:List (Option (Nat × Λ))} {s:σ} {k:Int} {th:Th} {F:Machine→Trace→Prop}
 {b₀:Frame} {a₀:Act} {ops₀:Array Oper} {i₀:Nat} {rest₀:List Nat} {k₀:List Item} {cl:List Frame}
theorem phase_step {t:Nat} (hP:Pos D st) (Ph:Phase D h rb E0 w0 Pv ths st s k E w) (ht:ths[t]?=some th) (hk:IntKind.i64.wrap (k+1)=k+1)
  (hcont:∀ x' E' w',PickR D t (st,s,k) x'→Phase D h rb E0 w0 Pv ths x'.1 x'.2.1 x'.2.2 E' w'→HG Try.prog h F E' (G (b₀.at (a₀.put ((ops₀[i₀]?).bind (·.dst)) (.tuple #[])) (.inRegion ops₀ rest₀ :: k₀)) cl) w') :
  HGn Try.prog h F E w 100 (entry 75 Try.f75 #[.pointer (some ⟨th.gb,0,none⟩)] (b₀.at a₀ (.inRegion ops₀ (i₀ :: rest₀) :: k₀) :: cl)):=by
 have hlt:=(List.getElem?_eq_some_iff.1 ht).1
 have hlt':t < st.length:=by rw [Ph.len]; exact hlt
 cases e:st[t]? with
 | none=>exact absurd (List.getElem?_eq_none_iff.1 e) (by omega)
 | some o =>
   cases o with
   | none=>exact phase_pick_over Ph ht e hk (fun E' w' p=>hcont (st,s,k+1) E' w' (by unfold PickR; simp only [e]) p)
   | some x =>
     obtain ⟨m,ℓ⟩:=x
     exact phase_pick (hP t m ℓ e) Ph ht e hk (fun n s' o E' w' hm hn p=>hcont (st.set t (o.map (fun x=>(n,x))),s',k+1) E' w' (by unfold PickR; simp only [e]; exact ⟨n,s',o,hm,hn,rfl⟩) p)
theorem run_picks_step {n:Nat} {T:Array Value} {gv:Value} {np i pcap:Nat} {pb po:Nat} {p:Int} {c:Frame} (hP:Pos D st) (Ph:Phase D h rb E0 w0 Pv ths st s k E w) (hk:IntKind.i64.wrap (k+1)=k+1) (hgs:GS w0 gv Pv ths) (hn:ths.length=n) (hN:0 < n) (hN8:n≤8)
  (hT:T.size=121) (t8:T[8]?=some gv) (t12:T[12]?=some (.int .i64 (n:Int))) (t53:T[53]?=some (.slice (some ⟨pb,po,none⟩) np pcap)) (t54:T[54]?=some (.int .i64 (np:Int))) (t55:T[55]?=some (.int .i64 (i:Int))) (hi:i < np) (hnp:np≤9223372036854775806)
  (hp:w.cell? ⟨pb,po+i,none⟩=some (.int .i64 p)) (hpW:E.W pb=false) (hp64:-9223372036854775808≤p∧p≤9223372036854775807)
  (hcont:∀ x' E' w' T',PickR D (pickIx p n) (st,s,k) x'→Phase D h rb E0 w0 Pv ths x'.1 x'.2.1 x'.2.2 E' w'→T'.size=121→T'[8]?=some gv→T'[12]?=some (.int .i64 (n:Int))→T'[53]?=some (.slice (some ⟨pb,po,none⟩) np pcap)→T'[54]?=some (.int .i64 (np:Int))→T'[55]?=some (.int .i64 ((i+1:Nat):Int))→(∀ x,x=0∨x=1∨x=2∨x=7→T'[x]?=T[x]?)→HG Try.prog h F E' (G ((base 29).at ⟨T',[]⟩ [.code rC,.inLoop rC,.inBlock 2,.code rD]) (c :: cl)) w') :
  HGn Try.prog h F E w 100 (G ((base 29).at ⟨T,[]⟩ [.code rC,.inLoop rC,.inBlock 2,.code rD]) (c :: cl)):=by
 obtain ⟨f,rfl⟩:=arr121f T hT
 clear hT
 simp only [R121_get f (show 8 < 121 by decide),R121_get f (show 12 < 121 by decide),R121_get f (show 53 < 121 by decide),R121_get f (show 54 < 121 by decide),R121_get f (show 55 < 121 by decide),Option.some.injEq] at t8 t12 t53 t54 t55
 have q1:decide ((i:Int) < (np:Int))=true:=decide_eq_true (by omega)
 change HGn Try.prog h F E w 100 (G ((base 29).at _ [.code xC,.inLoop rC,.inBlock 2,.code rD]) (c :: cl))
 generalize hLC:rC=LC
 generalize hLD:rD=LD
 simp only [xC,rC,rB,rHire,rBody,Try.f29,Option.getD_some,R121,t8,t12,t53,t54,t55]
 clear t8 t12 t53 t54 t55
 refine Idl.q (idl_hg Try.prog h F E w) (Idl.rg (idl_hg Try.prog h F E w) [0] rfl ?_)
 refine Idl.v (idl_hg Try.prog h F E w) ?_
 walk_nrm
 refine Idl.re (idl_hg Try.prog h F E w) (Idl.q (idl_hg Try.prog h F E w) (Idl.ct (idl_hg Try.prog h F E w) rfl (Idl.sk (idl_hg Try.prog h F E w) (Idl.q (idl_hg Try.prog h F E w) (Idl.bl (idl_hg Try.prog h F E w) (Idl.q (idl_hg Try.prog h F E w) (Idl.rg (idl_hg Try.prog h F E w) [0,1,2] rfl ?_)))))))
 refine Idl.v (idl_hg Try.prog h F E w) ?_
 walk_nrm
 refine HGn.ld hp (fun z=>by rw [hpW] at z; cases z) rfl rfl (by first | decide | exact base_kind _ | exact baseD_kind _ | assumption) (fun w₁ hc₁=>⟨by go_simp,fun e he=>by (have he':=he; simp [go_sem,hc₁] at he'; exact he')⟩) ?_
 walk_nrm
 refine Idl.v (idl_hg Try.prog h F E w) ?_
 walk_nrm
 refine Idl.re (idl_hg Try.prog h F E w) (Idl.rg (idl_hg Try.prog h F E w) [0,1,2,3,4,5,6,7,8,9,10] rfl ?_)
 iterate 3 (refine Idl.v (idl_hg Try.prog h F E w) ?_; walk_nrm)
 have hn0:n≠0:=by omega
 have b1:=Int.lt_tmod_of_pos p (show (0:Int) < (n:Int) by omega)
 have b2:=Int.tmod_lt_of_pos p (show (0:Int) < (n:Int) by omega)
 refine Idl.value (v:=.int .i64 (p.tmod (n:Int))) (idl_hg Try.prog h F E w) rfl rfl (by k_ne) (fun w=>by simp [go_sem,hn0]) (fun w=>by simp [go_sem,hn0]) ?_
 walk_nrm
 have hix:=pickIx_lt p hN
 have hi0:0≤p.tmod (n:Int)+(n:Int):=by omega
 have hi1:=Int.tmod_nonneg (n:Int) hi0
 have w1:IntKind.i64.wrap (p.tmod (n:Int)+(n:Int))=p.tmod (n:Int)+(n:Int):=by rw [IntKind.wrap_i64]; omega
 have w2:(p.tmod (n:Int)+(n:Int)).tmod (n:Int)=((pickIx p n:Nat):Int):=by unfold pickIx; omega
 clear hi0 hi1 b1 b2
 generalize pickIx p n=ix at hix w2 hcont ⊢
 iterate 3 (refine Idl.v (idl_hg Try.prog h F E w) ?_; walk_nrm)
 try simp only [w1]
 refine Idl.value (v:=.int .i64 (ix:Int)) (idl_hg Try.prog h F E w) rfl rfl (by k_ne) (fun w=>by simp [go_sem,hn0,w2]) (fun w=>by simp [go_sem,hn0]) ?_
 walk_nrm
 clear w1 w2 hn0
 obtain ⟨g,gcap,cur,rfl,hPg,hcur⟩:=hgs.row (by omega)
 obtain ⟨th,hth⟩:∃ th,ths[ix]?=some th:=⟨_,List.getElem?_eq_getElem (by omega)⟩
 rw [hn]
 obtain ⟨g1,g2,g3,g4⟩:=Ph.pv g _ hPg
 have gix:(ix:Int) < (n:Int):=by omega
 refine Idl.v (idl_hg Try.prog h F E w) ?_
 walk_nrm
 refine HGn.ld (obj_cell g1 (hcur ix th hth)) (fun z=>by rw [g3] at z; cases z) rfl rfl (by first | decide | exact base_kind _ | exact baseD_kind _ | assumption) (fun w₁ hc₁=>⟨by go_simp,fun e he=>by (have he':=he; simp [go_sem,hc₁] at he'; exact he')⟩) ?_
 walk_nrm
 refine Idl.callE (fn:=Try.f75) (vs:=#[.pointer (some ⟨th.gb,0,none⟩)]) (idl_hg Try.prog h F E w) rfl rfl (by k_ne) rfl Try.func75 rfl rfl (by simp [Act.eval]) ?_
 have w3:IntKind.i64.wrap ((i:Int)+1)=((i+1:Nat):Int):=by rw [IntKind.wrap_i64]; omega
 refine phase_step hP Ph hth hk (fun x' E' w' hx' Ph'=>?_)
 walk_nrm
 change HGn Try.prog h F E' w' 100 _
 refine Idl.re (idl_hg Try.prog h F E' w') (Idl.ib (idl_hg Try.prog h F E' w') (Idl.rg (idl_hg Try.prog h F E' w') [0,1] rfl ?_))
 iterate 2 (refine Idl.v (idl_hg Try.prog h F E' w') ?_; walk_nrm)
 refine Idl.re (idl_hg Try.prog h F E' w') (Idl.il (idl_hg Try.prog h F E' w') ?_)
 try simp only [w3]
 subst hLC hLD
 refine hcont x' E' w' _ hx' Ph' (by simp) (by simp [hn]) (by simp) (by simp) (by simp) (by simp) (fun x hx=>?_)
 rcases hx with rfl | rfl | rfl | rfl <;> rfl
end
section
variable {σ Λ:Type} {D:Prot σ Λ} {Pv:Nat→Option Obj} {h rb:Nat} {E0 E:Env} {w0 w:World} {ths:List Th} {st:List (Option (Nat × Λ))} {s:σ} {k:Int} {th:Th} {F:Machine→Trace→Prop} {n:Nat} {gv:Value} {c:Frame} {cl:List Frame} {T:Array Value}
theorem run_picks_end {np:Nat} (hT:T.size=121) (t54:T[54]?=some (.int .i64 (np:Int))) (t55:T[55]?=some (.int .i64 (np:Int)))
  (hcont:∀ T',T'.size=121→(∀ x,x≠56→T'[x]?=T[x]?)→HG Try.prog h F E (G ((base 29).at ⟨T',[]⟩ [.code rD]) (c :: cl)) w) :
  HGn Try.prog h F E w 100 (G ((base 29).at ⟨T,[]⟩ [.code rC,.inLoop rC,.inBlock 2,.code rD]) (c :: cl)):=by
 obtain ⟨f,rfl⟩:=arr121f T hT
 clear hT
 simp only [R121_get f (show 54 < 121 by decide),R121_get f (show 55 < 121 by decide),Option.some.injEq] at t54 t55
 have q1:decide ((np:Int) < (np:Int))=false:=decide_eq_false (by omega)
 change HGn Try.prog h F E w 100 (G ((base 29).at _ [.code xC,.inLoop rC,.inBlock 2,.code rD]) (c :: cl))
 generalize hLC:rC=LC
 generalize hLD:rD=LD
 have hc:=hcont (Array.setIfInBounds (R121 f) 56 (.bool false)) (by simp [R121]) (fun x hx=>by simp [Array.getElem?_setIfInBounds,Ne.symm hx])
 clear hcont
 rw [hLD] at hc
 simp only [R121,t54,t55] at hc
 simp only [xC,rC,rB,rHire,rBody,Try.f29,Option.getD_some,R121,t54,t55]
 clear t54 t55
 refine Idl.q (idl_hg Try.prog h F E w) (Idl.rg (idl_hg Try.prog h F E w) [0] rfl ?_)
 refine Idl.v (idl_hg Try.prog h F E w) ?_
 walk_nrm
 refine Idl.re (idl_hg Try.prog h F E w) (Idl.q (idl_hg Try.prog h F E w) (Idl.cf (idl_hg Try.prog h F E w) rfl (Idl.exit (idl_hg Try.prog h F E w) rfl ?_)))
 exact hc
inductive PicksR (D:Prot σ Λ) (n:Nat):List Int→List (Option (Nat × Λ)) × σ × Int→List (Option (Nat × Λ)) × σ × Int→Prop
 | nil (x):PicksR D n [] x x
 | cons {p l x x' x''} (h:PickR D (pickIx p n) x x') (t:PicksR D n l x' x''):PicksR D n (p :: l) x x''
theorem pickR_k {D:Prot σ Λ} {t:Nat} {x x':List (Option (Nat × Λ)) × σ × Int} (h:PickR D t x x'):x'.2.2=x.2.2+1:=by
 unfold PickR at h
 split at h
 ·obtain ⟨n,s',o,_,_,rfl⟩:=h; rfl
 ·rw [h]
theorem picksR_fuel {N:Nat} {n:Nat} {l:List Int} {x x':List (Option (Nat × Λ)) × σ × Int} (h:PicksR D n l x x') (f:FuelR N x):FuelR N x':=by
 induction h with
 | nil x=>exact f
 | cons h t ih=>exact ih (pickR_fuel h f)
theorem run_picks {picks:List Int} {pcap pb po:Nat} {pv:Value} {Nf:Nat} (hNf:D.lax→(picks.length:Int) < Nf) (hn:ths.length=n) (hN:0 < n) (hN8:n≤8) (hgs:GS w0 gv Pv ths) (hnp:picks.length≤1000000000000000) (hpv:picks≠[]→pv=.slice (some ⟨pb,po,none⟩) picks.length pcap)
  (hp64:∀ p ∈ picks,-9223372036854775808≤p∧p≤9223372036854775807) (hPick:∀ s E w,D.M s E w→∀ i p,picks[i]?=some p→w.cell? ⟨pb,po+i,none⟩=some (.int .i64 p)∧E.H pb=none)
  (l:List Int):∀ (i:Nat) (x:List (Option (Nat × Λ)) × σ × Int) (T:Array Value) (E:Env) (w:World),picks.drop i=l→i≤picks.length→x.2.2=i→(D.lax→FuelR Nf x)→Phase D h rb E0 w0 Pv ths x.1 x.2.1 x.2.2 E w →
   T.size=121→T[8]?=some gv→T[12]?=some (.int .i64 (n:Int))→T[53]?=some pv→T[54]?=some (.int .i64 (picks.length:Int))→T[55]?=some (.int .i64 (i:Int)) →
   (∀ x' E' w' T',PicksR D n l x x'→Phase D h rb E0 w0 Pv ths x'.1 x'.2.1 x'.2.2 E' w'→T'.size=121→T'[8]?=some gv→(∀ y,y=0∨y=1∨y=2∨y=7→T'[y]?=T[y]?)→HG Try.prog h F E' (G ((base 29).at ⟨T',[]⟩ [.code rD]) (c :: cl)) w') →
   HG Try.prog h F E (G ((base 29).at ⟨T,[]⟩ [.code rC,.inLoop rC,.inBlock 2,.code rD]) (c :: cl)) w:=by
 induction l with
 | nil =>
   intro i x T E w hd hi hk hfu Ph hT t8 t12 t53 t54 t55 hcont
   have:i=picks.length:=by
    have:=congrArg List.length hd
    simp at this; omega
   subst this
   exact run_picks_end hT t54 t55 (fun T' h1 h2=>hcont x E w T' (.nil x) Ph h1 (by rw [h2 8 (by decide)]; exact t8) (fun y hy=>h2 y (by rcases hy with rfl | rfl | rfl | rfl <;> decide)))
 | cons p l ih =>
   intro i x T E w hd hi hk hfu Ph hT t8 t12 t53 t54 t55 hcont
   have hlt:i < picks.length:=by
    have:=congrArg List.length hd
    simp at this; omega
   have hpi:picks[i]?=some p:=by
    have:=congrArg (·[0]?) hd
    simpa using this
   have hne:picks≠[]:=fun e=>by rw [e] at hlt; simp at hlt
   obtain ⟨q1,q2'⟩:=hPick _ _ _ Ph.M i p hpi
   refine HG.withH fun hWH _=>?_
   have q2:E.W pb=false:=by
    cases e:E.W pb with
    | false=>rfl
    | true=>have:=hWH pb e; rw [q2'] at this; cases this
   refine run_picks_step (FuelR.pos (fun hl=>⟨hfu hl,by have:=hNf hl; omega⟩)) Ph (by rw [hk,IntKind.wrap_i64]; omega) hgs hn hN hN8 hT t8 t12 (by rw [t53,hpv hne]) t54 t55 hlt (by omega) q1 q2 (hp64 p (List.mem_of_getElem? hpi)) ?_
   intro x' E' w' T' hx' Ph' hT' s8 s12 s53 s54 s55 skeep
   refine ih (i+1) x' T' E' w' ?_ (by omega) (by rw [pickR_k hx']; show x.2.2+1=_; rw [hk]; push_cast; rfl) (fun hl=>pickR_fuel hx' (hfu hl)) Ph' hT' s8 s12 (by rw [s53,hpv hne]) s54 s55 ?_
   ·have:=congrArg List.tail hd
    simpa using this
   ·intro x'' E'' w'' T'' hx'' Ph'' e1 e2 e3
    exact hcont x'' E'' w'' T'' (.cons hx' hx'') Ph'' e1 e2 (fun y hy=>by rw [e3 y hy,skeep y hy])
end
section
variable {σ Λ:Type} {D:Prot σ Λ} {Pv:Nat→Option Obj} {h rb:Nat} {E0 E:Env} {w0 w:World} {ths:List Th} {st:List (Option (Nat × Λ))} {s:σ} {k:Int} {th:Th} {F:Machine→Trace→Prop} {n:Nat} {gv:Value} {c:Frame} {cl:List Frame} {T:Array Value}
noncomputable def hdE6:List Item:=[.code rE6,.inLoop rE6,.inBlock 6,.inBlock 5,.inLoop rE,.inBlock 4,.code rG]
structure RegsE (T:Array Value) (gv:Value) (n i:Nat) (left:Bool):Prop where
 sz:T.size=121
 t8:T[8]?=some gv
 t15:T[15]?=some (.bool left)
 t73:T[73]?=some gv
 t74:T[74]?=some (.int .i64 (n:Int))
 t75:T[75]?=some (.int .i64 (i:Int))
theorem run_round_step {i:Nat} {left:Bool} {o:Option (Nat × Λ)} (hP:Pos D st) (Ph:Phase D h rb E0 w0 Pv ths st s k E w) (hk:IntKind.i64.wrap (k+1)=k+1) (hgs:GS w0 gv Pv ths) (hn:ths.length=n) (hi:i < n) (hN8:n≤8) (R:RegsE T gv n i left) (ho:st[i]?=some o)
  (hc1:o=none→∀ T',RegsE T' gv n (i+1) left→(∀ x,x=0∨x=1∨x=2∨x=7→T'[x]?=T[x]?)→HG Try.prog h F E (G ((base 29).at ⟨T',[]⟩ hdE6) (c :: cl)) w)
  (hc2:o≠none→∀ x' E' w' T' o',PickR D i (st,s,k) x'→Phase D h rb E0 w0 Pv ths x'.1 x'.2.1 x'.2.2 E' w'→x'.1[i]?=some o'→RegsE T' gv n (i+1) (left || o'.isSome)→(∀ x,x=0∨x=1∨x=2∨x=7→T'[x]?=T[x]?)→HG Try.prog h F E' (G ((base 29).at ⟨T',[]⟩ hdE6) (c :: cl)) w') :
  HGn Try.prog h F E w 100 (G ((base 29).at ⟨T,[]⟩ hdE6) (c :: cl)):=by
 obtain ⟨hT,t8,t15,t73,t74,t75⟩:=R
 obtain ⟨f,rfl⟩:=arr121f T hT
 clear hT
 simp only [R121_get f (show 8 < 121 by decide),R121_get f (show 15 < 121 by decide),R121_get f (show 73 < 121 by decide),R121_get f (show 74 < 121 by decide),R121_get f (show 75 < 121 by decide),Option.some.injEq] at t8 t15 t73 t74 t75
 have q1:decide ((i:Int) < (n:Int))=true:=decide_eq_true (by omega)
 have q2:(i:Int) < (n:Int):=by omega
 have w3:IntKind.i64.wrap ((i:Int)+1)=((i+1:Nat):Int):=by rw [IntKind.wrap_i64]; omega
 obtain ⟨g,gcap,cur,rfl,hPg,hcur⟩:=hgs.row (by omega)
 rw [hn] at t8 t73
 obtain ⟨th,hth⟩:∃ th,ths[i]?=some th:=⟨_,List.getElem?_eq_getElem (by omega)⟩
 obtain ⟨g1,g2,g3,g4⟩:=Ph.pv g _ hPg
 have T0:=Ph.tb th (List.mem_of_getElem? hth)
 have hS:=Ph.ts i th o hth ho
 change HGn Try.prog h F E w 100 (G ((base 29).at _ [.code xE6,.inLoop rE6,.inBlock 6,.inBlock 5,.inLoop rE,.inBlock 4,.code rG]) (c :: cl))
 unfold hdE6 at hc1 hc2
 generalize hLC:rE6=LC at hc1 hc2 ⊢
 generalize hLE:rE=LE at hc1 hc2 ⊢
 generalize hLG:rG=LG at hc1 hc2 ⊢
 simp only [xE6,rE6,rE,rD,rB,rHire,rBody,Try.f29,Option.getD_some,R121,t8,t15,t73,t74,t75]
 refine Idl.q (idl_hg Try.prog h F E w) (Idl.rg (idl_hg Try.prog h F E w) [0] rfl ?_)
 refine Idl.v (idl_hg Try.prog h F E w) ?_
 walk_nrm
 refine Idl.re (idl_hg Try.prog h F E w) (Idl.q (idl_hg Try.prog h F E w) (Idl.ct (idl_hg Try.prog h F E w) rfl (Idl.sk (idl_hg Try.prog h F E w) (Idl.q (idl_hg Try.prog h F E w) (Idl.bl (idl_hg Try.prog h F E w) (Idl.q (idl_hg Try.prog h F E w) (Idl.rg (idl_hg Try.prog h F E w) [0,1,2] rfl ?_)))))))
 refine Idl.v (idl_hg Try.prog h F E w) ?_
 walk_nrm
 refine HGn.ld (obj_cell g1 (hcur i th hth)) (fun z=>by rw [g3] at z; cases z) rfl rfl (by first | decide | exact base_kind _ | exact baseD_kind _ | assumption) (fun w₁ hc₁=>⟨by go_simp,fun e he=>by (have he':=he; simp [go_sem,hc₁] at he'; exact he')⟩) ?_
 walk_nrm
 refine Idl.v (idl_hg Try.prog h F E w) ?_
 walk_nrm
 refine Idl.re (idl_hg Try.prog h F E w) (Idl.q (idl_hg Try.prog h F E w) (Idl.rg (idl_hg Try.prog h F E w) [0,1,2,3,4] rfl ?_))
 iterate 3 (refine Idl.v (idl_hg Try.prog h F E w) ?_; walk_nrm)
 cases o with
 | none =>
   obtain ⟨_,fr,tl,hga⟩:=hS
   refine HGn.ld (obj_cell hga (o:=3) rfl) (fun z=>by rw [T0.gW] at z; cases z) rfl rfl (by first | decide | exact base_kind _ | exact baseD_kind _ | assumption) (fun w₁ hc₁=>⟨by go_simp,fun e he=>by (have he':=he; simp [go_sem,hc₁] at he'; exact he')⟩) ?_
   walk_nrm
   refine Idl.v (idl_hg Try.prog h F E w) ?_
   walk_nrm
   refine Idl.re (idl_hg Try.prog h F E w) (Idl.cf (idl_hg Try.prog h F E w) rfl (Idl.sk (idl_hg Try.prog h F E w) (Idl.ib (idl_hg Try.prog h F E w) (Idl.rg (idl_hg Try.prog h F E w) [0,1] rfl ?_))))
   iterate 2 (refine Idl.v (idl_hg Try.prog h F E w) ?_; walk_nrm)
   refine Idl.re (idl_hg Try.prog h F E w) (Idl.il (idl_hg Try.prog h F E w) ?_)
   try simp only [w3]
   refine hc1 rfl _ ⟨by simp,by simp [hn],by simp,by simp [hn],by simp,by simp⟩ (fun x hx=>?_)
   rcases hx with rfl | rfl | rfl | rfl <;> rfl
 | some y =>
   obtain ⟨_,_,hga⟩:=hS
   refine HGn.ld (obj_cell hga (o:=3) rfl) (fun z=>by rw [T0.gW] at z; cases z) rfl rfl (by first | decide | exact base_kind _ | exact baseD_kind _ | assumption) (fun w₁ hc₁=>⟨by go_simp,fun e he=>by (have he':=he; simp [go_sem,hc₁] at he'; exact he')⟩) ?_
   walk_nrm
   refine Idl.v (idl_hg Try.prog h F E w) ?_
   walk_nrm
   refine Idl.re (idl_hg Try.prog h F E w) (Idl.ct (idl_hg Try.prog h F E w) rfl (Idl.q (idl_hg Try.prog h F E w) (Idl.rg (idl_hg Try.prog h F E w) [0,1] rfl ?_)))
   refine Idl.v (idl_hg Try.prog h F E w) ?_
   walk_nrm
   refine Idl.callE (fn:=Try.f75) (vs:=#[.pointer (some ⟨th.gb,0,none⟩)]) (idl_hg Try.prog h F E w) rfl rfl (by k_ne) rfl Try.func75 rfl rfl (by simp [Act.eval]) ?_
   refine phase_step hP Ph hth hk (fun x' E' w' hx' Ph'=>?_)
   have hlen:i < x'.1.length:=by rw [Ph'.len]; omega
   obtain ⟨o',ho'⟩:∃ o',x'.1[i]?=some o':=⟨_,List.getElem?_eq_getElem hlen⟩
   have hS':=Ph'.ts i th o' hth ho'
   have T1:=Ph'.tb th (List.mem_of_getElem? hth)
   obtain ⟨fr',tl',hga'⟩:∃ fr tl,GA w' rb th o'.isNone fr tl:=by
    cases o' with
    | none=>exact hS'.2
    | some y=>exact ⟨false,_,hS'.2.2⟩
   have hc:=fun T' o'=>hc2 (by simp) x' E' w' T' o' hx'
   clear hc1 hc2 hS' hga
   walk_nrm
   change HGn Try.prog h F E' w' 100 _
   refine Idl.re (idl_hg Try.prog h F E' w') (Idl.rg (idl_hg Try.prog h F E' w') [0,1,2,3,4,5,6,7,8] rfl ?_)
   iterate 2 (refine Idl.v (idl_hg Try.prog h F E' w') ?_; walk_nrm)
   cases left with
   | true =>
     refine Idl.unwanted (idl_hg Try.prog h F E' w') rfl rfl ?_
     walk_nrm
     refine Idl.unwanted (idl_hg Try.prog h F E' w') rfl rfl ?_
     walk_nrm
     refine Idl.unwanted (idl_hg Try.prog h F E' w') rfl rfl ?_
     walk_nrm
     refine Idl.unwanted (idl_hg Try.prog h F E' w') rfl rfl ?_
     walk_nrm
     refine Idl.unwanted (idl_hg Try.prog h F E' w') rfl rfl ?_
     walk_nrm
     iterate 2 (refine Idl.v (idl_hg Try.prog h F E' w') ?_; walk_nrm)
     refine Idl.re (idl_hg Try.prog h F E' w') (Idl.ib (idl_hg Try.prog h F E' w') (Idl.rg (idl_hg Try.prog h F E' w') [0,1] rfl ?_))
     iterate 2 (refine Idl.v (idl_hg Try.prog h F E' w') ?_; walk_nrm)
     refine Idl.re (idl_hg Try.prog h F E' w') (Idl.il (idl_hg Try.prog h F E' w') ?_)
     try simp only [w3]
     refine hc _ o' Ph' ho' ⟨by simp,by simp [hn],by simp,by simp [hn],by simp,by simp⟩ (fun x hx=>?_)
     rcases hx with rfl | rfl | rfl | rfl <;> rfl
   | false =>
     iterate 3 (refine Idl.v (idl_hg Try.prog h F E' w') ?_; walk_nrm)
     refine HGn.ld (obj_cell hga' (o:=3) rfl) (fun z=>by rw [T1.gW] at z; cases z) rfl rfl (by first | decide | exact base_kind _ | exact baseD_kind _ | assumption) (fun w₁ hc₁=>⟨by go_simp,fun e he=>by (have he':=he; simp [go_sem,hc₁] at he'; exact he')⟩) ?_
     walk_nrm
     iterate 3 (refine Idl.v (idl_hg Try.prog h F E' w') ?_; walk_nrm)
     refine Idl.re (idl_hg Try.prog h F E' w') (Idl.ib (idl_hg Try.prog h F E' w') (Idl.rg (idl_hg Try.prog h F E' w') [0,1] rfl ?_))
     iterate 2 (refine Idl.v (idl_hg Try.prog h F E' w') ?_; walk_nrm)
     refine Idl.re (idl_hg Try.prog h F E' w') (Idl.il (idl_hg Try.prog h F E' w') ?_)
     try simp only [w3]
     refine hc _ o' Ph' ho' ⟨by simp,by simp [hn],by cases o' <;> simp,by simp [hn],by simp,by simp⟩ (fun x hx=>?_)
     rcases hx with rfl | rfl | rfl | rfl <;> rfl
end
section
variable {σ Λ:Type} {D:Prot σ Λ} {Pv:Nat→Option Obj} {h rb:Nat} {E0 E:Env} {w0 w:World} {ths:List Th} {st:List (Option (Nat × Λ))} {s:σ} {k:Int} {th:Th} {F:Machine→Trace→Prop} {n:Nat} {gv:Value} {c:Frame} {cl:List Frame} {T:Array Value}
noncomputable def hdE:List Item:=[.code rE,.inLoop rE,.inBlock 4,.code rG]
def Keep4 (T T':Array Value):Prop:=∀ x,x=0∨x=1∨x=2∨x=7→T'[x]?=T[x]?
theorem Keep4.trans {T T' T'':Array Value} (a:Keep4 T T') (b:Keep4 T' T''):Keep4 T T'':=fun x hx=>(b x hx).trans (a x hx)
theorem run_round_end {left:Bool} (R:RegsE T gv n n left) (hc:∀ T',T'.size=121→T'[8]?=some gv→T'[15]?=some (.bool left)→Keep4 T T'→HG Try.prog h F E (G ((base 29).at ⟨T',[]⟩ hdE) (c :: cl)) w) :
  HGn Try.prog h F E w 100 (G ((base 29).at ⟨T,[]⟩ hdE6) (c :: cl)):=by
 obtain ⟨hT,t8,t15,t73,t74,t75⟩:=R
 obtain ⟨f,rfl⟩:=arr121f T hT
 clear hT
 simp only [R121_get f (show 8 < 121 by decide),R121_get f (show 15 < 121 by decide),R121_get f (show 73 < 121 by decide),R121_get f (show 74 < 121 by decide),R121_get f (show 75 < 121 by decide),Option.some.injEq] at t8 t15 t73 t74 t75
 have q1:decide ((n:Int) < (n:Int))=false:=decide_eq_false (by omega)
 change HGn Try.prog h F E w 100 (G ((base 29).at _ [.code xE6,.inLoop rE6,.inBlock 6,.inBlock 5,.inLoop rE,.inBlock 4,.code rG]) (c :: cl))
 unfold hdE at hc
 generalize hLC:rE6=LC at hc ⊢
 generalize hLE:rE=LE at hc ⊢
 generalize hLG:rG=LG at hc ⊢
 simp only [xE6,rE6,rE,rD,rB,rHire,rBody,Try.f29,Option.getD_some,R121,t8,t15,t73,t74,t75]
 refine Idl.q (idl_hg Try.prog h F E w) (Idl.rg (idl_hg Try.prog h F E w) [0] rfl ?_)
 refine Idl.v (idl_hg Try.prog h F E w) ?_
 walk_nrm
 refine Idl.re (idl_hg Try.prog h F E w) (Idl.q (idl_hg Try.prog h F E w) (Idl.cf (idl_hg Try.prog h F E w) rfl (Idl.exit (idl_hg Try.prog h F E w) rfl (Idl.ib (idl_hg Try.prog h F E w) (Idl.il (idl_hg Try.prog h F E w) ?_)))))
 refine hc _ (by simp) (by simp) (by simp) (fun x hx=>?_)
 rcases hx with rfl | rfl | rfl | rfl <;> rfl
theorem run_outer_out (hT:T.size=121) (t8:T[8]?=some gv) (t15:T[15]?=some (.bool false)) (hc:∀ T',T'.size=121→T'[8]?=some gv→Keep4 T T'→HG Try.prog h F E (G ((base 29).at ⟨T',[]⟩ [.code rG]) (c :: cl)) w) :
  HGn Try.prog h F E w 100 (G ((base 29).at ⟨T,[]⟩ hdE) (c :: cl)):=by
 obtain ⟨f,rfl⟩:=arr121f T hT
 clear hT
 simp only [R121_get f (show 8 < 121 by decide),R121_get f (show 15 < 121 by decide),Option.some.injEq] at t8 t15
 change HGn Try.prog h F E w 100 (G ((base 29).at _ [.code xE,.inLoop rE,.inBlock 4,.code rG]) (c :: cl))
 generalize hLE:rE=LE at hc ⊢
 generalize hLG:rG=LG at hc ⊢
 simp only [xE,rE,rD,rB,rHire,rBody,Try.f29,Option.getD_some,R121,t8,t15]
 refine Idl.q (idl_hg Try.prog h F E w) (Idl.q (idl_hg Try.prog h F E w) (Idl.rg (idl_hg Try.prog h F E w) [0] rfl ?_))
 refine Idl.v (idl_hg Try.prog h F E w) ?_
 walk_nrm
 refine Idl.re (idl_hg Try.prog h F E w) (Idl.cf (idl_hg Try.prog h F E w) rfl (Idl.exit (idl_hg Try.prog h F E w) rfl ?_))
 refine hc _ (by simp) (by simp) (fun x hx=>?_)
 rcases hx with rfl | rfl | rfl | rfl <;> rfl
theorem run_outer_in (hgs:GS w0 gv Pv ths) (hn:ths.length=n) (hN:0 < n) (hT:T.size=121) (t8:T[8]?=some gv) (t15:T[15]?=some (.bool true)) (hc:∀ T',RegsE T' gv n 0 false→Keep4 T T'→HG Try.prog h F E (G ((base 29).at ⟨T',[]⟩ hdE6) (c :: cl)) w) :
  HGn Try.prog h F E w 100 (G ((base 29).at ⟨T,[]⟩ hdE) (c :: cl)):=by
 obtain ⟨f,rfl⟩:=arr121f T hT
 clear hT
 simp only [R121_get f (show 8 < 121 by decide),R121_get f (show 15 < 121 by decide),Option.some.injEq] at t8 t15
 obtain ⟨g,gcap,cur,rfl,hPg,hcur⟩:=hgs.row (by omega)
 rw [hn] at t8
 change HGn Try.prog h F E w 100 (G ((base 29).at _ [.code xE,.inLoop rE,.inBlock 4,.code rG]) (c :: cl))
 unfold hdE6 at hc
 generalize hLC:rE6=LC at hc
 generalize hLE:rE=LE at hc ⊢
 generalize hLG:rG=LG at hc ⊢
 simp only [xE,rE,rD,rB,rHire,rBody,Try.f29,Option.getD_some,R121,t8,t15]
 refine Idl.q (idl_hg Try.prog h F E w) (Idl.q (idl_hg Try.prog h F E w) (Idl.rg (idl_hg Try.prog h F E w) [0] rfl ?_))
 refine Idl.v (idl_hg Try.prog h F E w) ?_
 walk_nrm
 refine Idl.re (idl_hg Try.prog h F E w) (Idl.ct (idl_hg Try.prog h F E w) rfl (Idl.sk (idl_hg Try.prog h F E w) (Idl.bl (idl_hg Try.prog h F E w) (Idl.q (idl_hg Try.prog h F E w) (Idl.rg (idl_hg Try.prog h F E w) [0] rfl ?_)))))
 refine Idl.v (idl_hg Try.prog h F E w) ?_
 walk_nrm
 refine Idl.re (idl_hg Try.prog h F E w) (Idl.q (idl_hg Try.prog h F E w) (Idl.rg (idl_hg Try.prog h F E w) [0,1,2] rfl ?_))
 refine Idl.v (idl_hg Try.prog h F E w) ?_
 walk_nrm
 refine Idl.value (v:=.int .i64 (n:Int)) (idl_hg Try.prog h F E w) rfl rfl (by k_ne) (fun w=>by simp [go_sem]) (fun w=>by simp [go_sem]) ?_
 walk_nrm
 refine Idl.v (idl_hg Try.prog h F E w) ?_
 walk_nrm
 refine Idl.re (idl_hg Try.prog h F E w) ?_
 refine Idl.bl (idl_hg Try.prog h F E w) ?_
 refine Idl.lp (idl_hg Try.prog h F E w) ?_
 subst hLC
 have hc':=fun T' h1 h2=>hc T' h1 h2
 refine hc _ ⟨by simp,by simp [hn],by simp,by simp [hn],by simp,by simp⟩ (fun x hx=>?_)
 rcases hx with rfl | rfl | rfl | rfl <;> rfl
theorem run_drain_start {drain:Bool} (hT:T.size=121) (t2:T[2]?=some (.bool drain)) (t8:T[8]?=some gv) (hc:∀ T',T'.size=121→T'[8]?=some gv→T'[15]?=some (.bool drain)→Keep4 T T'→HG Try.prog h F E (G ((base 29).at ⟨T',[]⟩ hdE) (c :: cl)) w) :
  HGn Try.prog h F E w 100 (G ((base 29).at ⟨T,[]⟩ [.code rD]) (c :: cl)):=by
 obtain ⟨f,rfl⟩:=arr121f T hT
 clear hT
 simp only [R121_get f (show 8 < 121 by decide),R121_get f (show 2 < 121 by decide),Option.some.injEq] at t8 t2
 change HGn Try.prog h F E w 100 (G ((base 29).at _ [.code xD]) (c :: cl))
 unfold hdE at hc
 simp only [xD,rD,rB,rHire,rBody,Try.f29,Option.getD_some,R121,t8,t2]
 refine Idl.q (idl_hg Try.prog h F E w) ?_
 refine Idl.q (idl_hg Try.prog h F E w) ?_
 refine Idl.rg (idl_hg Try.prog h F E w) [0,1] rfl ?_
 iterate 2 (refine Idl.v (idl_hg Try.prog h F E w) ?_; walk_nrm)
 refine Idl.re (idl_hg Try.prog h F E w) ?_
 refine Idl.bl (idl_hg Try.prog h F E w) ?_
 refine Idl.lp (idl_hg Try.prog h F E w) ?_
 refine hc _ (by simp) (by simp [t8]) (by simp) (fun x hx=>?_)
 rcases hx with rfl | rfl | rfl | rfl <;> simp [R121,t2]
end
end Go.Proofs.Ytimlbbleblijnaa.Co
