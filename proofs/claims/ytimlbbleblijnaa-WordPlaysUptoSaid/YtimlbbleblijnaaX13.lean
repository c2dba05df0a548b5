/- Lemmas for the laws of this seat, laid together of PGaz, PGba, PGbb, PGbc, PGbd, PGbe. -/
import Derived.Test.YtimlbbleblijnaaX12

open Go.ConcR.Gen (base_kind baseD_kind)
set_option linter.unusedVariables false
set_option linter.unusedSimpArgs false
set_option maxRecDepth 100000
set_option maxHeartbeats 4000000
namespace Go.Proofs.Ytimlbbleblijnaa.Co
open Go Go.Conc
section
variable {σ Λ:Type}
abbrev RS (σ Λ:Type):=List (Option (Nat × Λ)) × σ × Int
def wt1:Option (Nat × Λ)→Nat
 | some (m,_)=>m+1
 | none=>0
def wt (st:List (Option (Nat × Λ))):Nat:=(st.map wt1).sum
theorem wt_set:∀ (st:List (Option (Nat × Λ))) (t:Nat) (o o':Option (Nat × Λ)),st[t]?=some o→wt (st.set t o')+wt1 o=wt st+wt1 o'
 | [],t,o,o',h=>by simp at h
 | x :: st,0,o,o',h=>by
   simp only [List.getElem?_cons_zero,Option.some.injEq] at h
   subst h
   simp only [wt,List.set_cons_zero,List.map_cons,List.sum_cons]
   omega
 | x :: st,t+1,o,o',h=>by
   have:=wt_set st t o o' (by simpa using h)
   simp only [wt,List.set_cons_succ,List.map_cons,List.sum_cons] at this ⊢
   omega
def aliveB:Option (Option (Nat × Λ))→Bool
 | some (some _)=>true
 | _=>false
theorem pickR_wt {D:Prot σ Λ} {t:Nat} {x x':RS σ Λ} (hp:PickR D t x x'):(aliveB x.1[t]?=true→wt x'.1 < wt x.1)∧wt x'.1≤wt x.1:=by
 unfold PickR at hp
 cases e:x.1[t]? with
 | none =>
   simp only [e] at hp
   rw [hp]
   exact ⟨(fun h=>by cases h),Nat.le_refl _⟩
 | some o =>
   cases o with
   | none =>
     simp only [e] at hp
     rw [hp]
     exact ⟨(fun h=>by cases h),Nat.le_refl _⟩
   | some y =>
     obtain ⟨m,ℓ⟩:=y
     simp only [e] at hp
     obtain ⟨n,s',o,hm,_,rfl⟩:=hp
     have h1:=wt_set x.1 t _ (o.map (fun y=>(n,y))) e
     have h2:wt1 (o.map (fun y=>(n,y)))≤n+1:=by
      cases o with
      | none=>exact Nat.zero_le _
      | some y=>exact Nat.le_refl _
     have h3:wt1 (some (m,ℓ))=m+1:=rfl
     have h4:wt (x.1.set t (o.map (fun y=>(n,y)))) < wt x.1:=by omega
     exact ⟨fun _=>h4,Nat.le_of_lt h4⟩
def TurnR (D:Prot σ Λ) (i:Nat) (y y':RS σ Λ × Bool):Prop :=
 (aliveB y.1.1[i]?=true∧PickR D i y.1 y'.1∧y'.2=(y.2 || aliveB y'.1.1[i]?))∨(aliveB y.1.1[i]?=false∧y'=y)
inductive TurnsR (D:Prot σ Λ):List Nat→RS σ Λ × Bool→RS σ Λ × Bool→Prop
 | nil (y):TurnsR D [] y y
 | cons {i l y y' y''} (h:TurnR D i y y') (t:TurnsR D l y' y''):TurnsR D (i :: l) y y''
def RoundR (D:Prot σ Λ) (n:Nat) (x:RS σ Λ) (y:RS σ Λ × Bool):Prop:=TurnsR D (List.range n) (x,false) y
theorem turnR_wt {D:Prot σ Λ} {i:Nat} {y y':RS σ Λ × Bool} (h:TurnR D i y y'):wt y'.1.1≤wt y.1.1∧(y.2=false→y'.2=true→wt y'.1.1 < wt y.1.1)∧y'.1.2.2+wt y'.1.1≤y.1.2.2+wt y.1.1∧(0≤y.1.2.2→0≤y'.1.2.2):=by
 rcases h with ⟨ha,hp,hb⟩ | ⟨ha,rfl⟩
 ·have h1:=(pickR_wt hp).1 ha
  have h2:=pickR_k hp
  refine ⟨Nat.le_of_lt h1,fun _ _=>h1,?_,fun h0=>by rw [h2]; omega⟩
  rw [h2]
  have:(wt y'.1.1:Int)+1≤wt y.1.1:=by exact_mod_cast h1
  omega
 ·exact ⟨Nat.le_refl _,(fun h1 h2=>by rw [h1] at h2; cases h2),Int.le_refl _,id⟩
theorem turnsR_wt {D:Prot σ Λ} {l:List Nat} {y y':RS σ Λ × Bool} (h:TurnsR D l y y'):wt y'.1.1≤wt y.1.1∧(y.2=false→y'.2=true→wt y'.1.1 < wt y.1.1)∧y'.1.2.2+wt y'.1.1≤y.1.2.2+wt y.1.1∧(0≤y.1.2.2→0≤y'.1.2.2):=by
 induction h with
 | nil y=>exact ⟨Nat.le_refl _,(fun h1 h2=>by rw [h1] at h2; cases h2),Int.le_refl _,id⟩
 | @cons i l y y' y'' h t ih =>
   obtain ⟨a1,a2,a3,a4⟩:=turnR_wt h
   obtain ⟨b1,b2,b3,b4⟩:=ih
   refine ⟨Nat.le_trans b1 a1,fun h1 h2=>?_,Int.le_trans b3 a3,fun h0=>b4 (a4 h0)⟩
   cases h3:y'.2 with
   | false=>exact Nat.lt_of_lt_of_le (b2 h3 h2) a1
   | true=>exact Nat.lt_of_le_of_lt b1 (a2 h1 h3)
inductive DrainR (D:Prot σ Λ) (n:Nat):RS σ Λ→RS σ Λ→Prop
 | last {x y} (h:RoundR D n x y) (e:y.2=false):DrainR D n x y.1
 | more {x y z} (h:RoundR D n x y) (e:y.2=true) (t:DrainR D n y.1 z):DrainR D n x z
inductive Rounds (D:Prot σ Λ) (n:Nat):RS σ Λ→RS σ Λ→Prop
 | none (x):Rounds D n x x
 | more {x y z} (h:RoundR D n x y) (e:y.2=true) (t:Rounds D n y.1 z):Rounds D n x z
theorem turnR_fuel {D:Prot σ Λ} {N i:Nat} {y y':RS σ Λ × Bool} (h:TurnR D i y y') (f:FuelR N y.1):FuelR N y'.1∧y'.1.2.2≤y.1.2.2+1:=by
 rcases h with ⟨_,hp,_⟩ | ⟨_,rfl⟩
 ·exact ⟨pickR_fuel hp f,by rw [pickR_k hp]; omega⟩
 ·exact ⟨f,by omega⟩
theorem turnsR_fuel {D:Prot σ Λ} {N:Nat} {l:List Nat} {y y':RS σ Λ × Bool} (h:TurnsR D l y y') (f:FuelR N y.1):FuelR N y'.1∧y'.1.2.2≤y.1.2.2+l.length:=by
 induction h with
 | nil y=>exact ⟨f,by simp⟩
 | cons h t ih =>
   obtain ⟨a1,a2⟩:=turnR_fuel h f
   obtain ⟨b1,b2⟩:=ih a1
   refine ⟨b1,?_⟩
   rw [List.length_cons]
   push_cast
   omega
theorem drainR_fuel {D:Prot σ Λ} {n N:Nat} {x x':RS σ Λ} (h:DrainR D n x x') (f:FuelR N x) (hr:∀ y,Rounds D n x y→y.2.2+n < N):FuelR N x'∧x'.2.2 < N:=by
 induction h with
 | @last x y h e =>
   obtain ⟨a,b⟩:=turnsR_fuel h f
   rw [List.length_range] at b
   have:=hr x (.none x)
   exact ⟨a,by dsimp only at b; omega⟩
 | more h e t ih =>
   exact ih (turnsR_fuel h f).1 (fun y hy=>hr y (.more h e hy))
def DrainB (D:Prot σ Λ) (n:Nat) (drain:Bool) (x x':RS σ Λ):Prop:=if drain then DrainR D n x x' else x'=x
end
section
variable {σ Λ:Type} {D:Prot σ Λ} {Pv:Nat→Option Obj} {h rb:Nat} {E0:Env} {w0:World} {ths:List Th} {F:Machine→Trace→Prop} {n:Nat} {gv:Value} {c:Frame} {cl:List Frame}
theorem run_round {Nf : Nat} (hgs : GS w0 gv Pv ths) (hn : ths.length = n) (hN8 : n ≤ 8) (l : List Nat) : ∀ (i : Nat) (y : RS σ Λ × Bool) (T : Array Value) (E : Env) (w : World), (List.range n).drop i = l → i ≤ n → 0 ≤ y.1.2.2 → y.1.2.2 + wt y.1.1 ≤ 4000000000000000000 → (D.lax → FuelR Nf y.1 ∧ y.1.2.2 + n < Nf + i) →
   Phase D h rb E0 w0 Pv ths y.1.1 y.1.2.1 y.1.2.2 E w→RegsE T gv n i y.2 →
   (∀ y' E' w' T',TurnsR D l y y'→Phase D h rb E0 w0 Pv ths y'.1.1 y'.1.2.1 y'.1.2.2 E' w'→T'.size=121→T'[8]?=some gv→T'[15]?=some (.bool y'.2)→Keep4 T T'→HG Try.prog h F E' (G ((base 29).at ⟨T',[]⟩ hdE) (c :: cl)) w') →
   HG Try.prog h F E (G ((base 29).at ⟨T,[]⟩ hdE6) (c :: cl)) w:=by
 induction l with
 | nil =>
   intro i y T E w hd hi h0 hB hL Ph R hcont
   have:i=n:=by
    have:=congrArg List.length hd
    simp at this; omega
   subst this
   exact run_round_end R (fun T' e1 e2 e3 e4=>hcont y E w T' (.nil y) Ph e1 e2 e3 e4)
 | cons j l ih =>
   intro i y T E w hd hi h0 hB hL Ph R hcont
   have hlt:i < n:=by
    have:=congrArg List.length hd
    simp at this; omega
   have hji:j=i:=by
    have:=congrArg (·[0]?) hd
    simp [hlt] at this
    exact this.symm
   subst hji
   have hd':(List.range n).drop (j+1)=l:=by
    have:=congrArg List.tail hd
    simpa using this
   have hlen:j < y.1.1.length:=by rw [Ph.len]; omega
   obtain ⟨o,ho⟩:∃ o,y.1.1[j]?=some o:=⟨_,List.getElem?_eq_getElem hlen⟩
   have hkb:y.1.2.2≤4000000000000000000:=by omega
   refine run_round_step (FuelR.pos (fun hl=>⟨(hL hl).1,by have:=(hL hl).2; omega⟩)) Ph (by rw [IntKind.wrap_i64]; omega) hgs hn hlt hN8 R ho (fun e T' R' hk4=>?_) (fun e x' E' w' T' o' hx' Ph' ho' R' hk4=>?_)
   ·subst e
    have ht:TurnR D j y y:=.inr ⟨by rw [ho]; rfl,rfl⟩
    refine ih (j+1) y T' E w hd' (by omega) h0 hB (fun hl=>⟨(hL hl).1,by have:=(hL hl).2; push_cast; omega⟩) Ph R' (fun y' E'' w'' T'' z0 P'' e1 e2 e3 e4=>?_)
    exact hcont y' E'' w'' T'' (.cons ht z0) P'' e1 e2 e3 (Keep4.trans hk4 e4)
   ·obtain ⟨x,rfl⟩:∃ x,o=some x:=by cases o with | none=>exact absurd rfl e | some x=>exact ⟨x,rfl⟩
    have hal:aliveB x'.1[j]?=o'.isSome:=by rw [ho']; cases o' <;> rfl
    have ht:TurnR D j y (x',y.2 || o'.isSome):=.inl ⟨by rw [ho]; rfl,hx',by rw [hal]⟩
    obtain ⟨_,_,hw,hz⟩:=turnR_wt ht
    refine ih (j+1) (x',y.2 || o'.isSome) T' E' w' hd' (by omega) (hz h0) (Int.le_trans hw hB) (fun hl=>by obtain ⟨f1,f2⟩:=turnR_fuel ht (hL hl).1; exact ⟨f1,by have:=(hL hl).2; dsimp only at f2 ⊢; push_cast; omega⟩) Ph' R' (fun y' E'' w'' T'' z0 P'' e1 e2 e3 e4=>?_)
    exact hcont y' E'' w'' T'' (.cons ht z0) P'' e1 e2 e3 (Keep4.trans hk4 e4)
theorem run_drainN {Nf : Nat} (hgs : GS w0 gv Pv ths) (hn : ths.length = n) (hN : 0 < n) (hN8 : n ≤ 8) : ∀ (f : Nat) (x : RS σ Λ) (T : Array Value) (E : Env) (w : World), wt x.1 < f → 0 ≤ x.2.2 → x.2.2 + wt x.1 ≤ 4000000000000000000 → (D.lax → FuelR Nf x ∧ ∀ y, Rounds D n x y → y.2.2 + n < Nf) → Phase D h rb E0 w0 Pv ths x.1 x.2.1 x.2.2 E w → T.size = 121 → T[8]? = some gv → T[15]? = some (.bool true) →
   (∀ x' E' w' T',DrainR D n x x'→Phase D h rb E0 w0 Pv ths x'.1 x'.2.1 x'.2.2 E' w'→T'.size=121→T'[8]?=some gv→Keep4 T T'→HG Try.prog h F E' (G ((base 29).at ⟨T',[]⟩ [.code rG]) (c :: cl)) w') →
   HG Try.prog h F E (G ((base 29).at ⟨T,[]⟩ hdE) (c :: cl)) w:=by
 intro f
 induction f with
 | zero=>intro x T E w hf; omega
 | succ f ih =>
   intro x T E w hf h0 hB hL Ph hT t8 t15 hcont
   refine run_outer_in hgs hn hN hT t8 t15 (fun T1 R1 hk1=>?_)
   refine run_round hgs hn hN8 (List.range n) 0 (x,false) T1 E w (by simp) (Nat.zero_le _) h0 hB (fun hl=>⟨(hL hl).1,by have:=(hL hl).2 x (.none x); dsimp only; push_cast; omega⟩) Ph R1 (fun y E2 w2 T2 hy Ph2 s1 s2 s3 s4=>?_)
   obtain ⟨a1,a2,a3,a4⟩:=turnsR_wt hy
   cases e:y.2 with
   | true =>
     rw [e] at s3
     have hlt:wt y.1.1 < wt x.1:=a2 rfl e
     exact ih y.1 T2 E2 w2 (by omega) (a4 h0) (Int.le_trans a3 hB) (fun hl=>⟨(turnsR_fuel hy (hL hl).1).1,fun z hz=>(hL hl).2 z (.more hy e hz)⟩) Ph2 s1 s2 s3 (fun x' E' w' T' hx' P' e1 e2 e3=>hcont x' E' w' T' (.more hy e hx') P' e1 e2 (Keep4.trans (Keep4.trans hk1 s4) e3))
   | false =>
     rw [e] at s3
     exact run_outer_out s1 s2 s3 (fun T3 e1 e2 e3=>hcont y.1 E2 w2 T3 (.last hy e) Ph2 e1 e2 (Keep4.trans (Keep4.trans hk1 s4) e3))
theorem run_drain {Nf:Nat} {drain:Bool} {x:RS σ Λ} {T:Array Value} {E:Env} {w:World} (hgs:GS w0 gv Pv ths) (hn:ths.length=n) (hN:0 < n) (hN8:n≤8) (h0:0≤x.2.2) (hB:x.2.2+wt x.1≤4000000000000000000) (hL:D.lax→FuelR Nf x∧∀ y,Rounds D n x y→y.2.2+n < Nf) (Ph:Phase D h rb E0 w0 Pv ths x.1 x.2.1 x.2.2 E w) (hT:T.size=121) (t2:T[2]?=some (.bool drain)) (t8:T[8]?=some gv)
  (hcont:∀ x' E' w' T',DrainB D n drain x x'→Phase D h rb E0 w0 Pv ths x'.1 x'.2.1 x'.2.2 E' w'→T'.size=121→T'[8]?=some gv→Keep4 T T'→HG Try.prog h F E' (G ((base 29).at ⟨T',[]⟩ [.code rG]) (c :: cl)) w') :
  HG Try.prog h F E (G ((base 29).at ⟨T,[]⟩ [.code rD]) (c :: cl)) w:=by
 refine run_drain_start hT t2 t8 (fun T1 e1 e2 e3 e4=>?_)
 unfold DrainB at hcont
 cases drain with
 | true =>
   simp only [if_true] at hcont
   exact run_drainN hgs hn hN hN8 (wt x.1+1) x T1 E w (Nat.lt_succ_self _) h0 hB hL Ph e1 e2 e3 (fun x' E' w' T' hx' P' f1 f2 f3=>hcont x' E' w' T' hx' P' f1 f2 (Keep4.trans e4 f3))
 | false =>
   simp only [Bool.false_eq_true,if_false] at hcont
   exact run_outer_out e1 e2 e3 (fun T3 f1 f2 f3=>hcont x E w T3 rfl Ph f1 f2 (Keep4.trans e4 f3))
end
section
variable {σ Λ:Type} {D:Prot σ Λ} {Pv:Nat→Option Obj} {h rb:Nat} {E0 E:Env} {w0 w:World} {ths:List Th} {st:List (Option (Nat × Λ))} {s:σ} {k:Int} {th:Th} {F:Machine→Trace→Prop} {n:Nat} {gv:Value} {c:Frame} {cl:List Frame} {T:Array Value}
noncomputable def hdH:List Item:=[.code rH,.inLoop rH,.inBlock 8,.code rI]
structure RegsH (T:Array Value) (gv:Value) (n i:Nat):Prop where
 sz:T.size=121
 t95:T[95]?=some gv
 t96:T[96]?=some (.int .i64 (n:Int))
 t97:T[97]?=some (.int .i64 (i:Int))
theorem run_off_start (hgs:GS w0 gv Pv ths) (hn:ths.length=n) (hN:0 < n) (hT:T.size=121) (t8:T[8]?=some gv) (hc:∀ T',RegsH T' gv n 0→Keep4 T T'→HG Try.prog h F E (G ((base 29).at ⟨T',[]⟩ hdH) (c :: cl)) w) :
  HGn Try.prog h F E w 100 (G ((base 29).at ⟨T,[]⟩ [.code rG]) (c :: cl)):=by
 obtain ⟨f,rfl⟩:=arr121f T hT
 clear hT
 simp only [R121_get f (show 8 < 121 by decide),Option.some.injEq] at t8
 obtain ⟨g,gcap,cur,rfl,hPg,hcur⟩:=hgs.row (by omega)
 rw [hn] at t8
 change HGn Try.prog h F E w 100 (G ((base 29).at _ [.code xG]) (c :: cl))
 unfold hdH at hc
 simp only [xG,rG,rD,rB,rHire,rBody,Try.f29,Option.getD_some,R121,t8]
 refine Idl.q (idl_hg Try.prog h F E w) (Idl.q (idl_hg Try.prog h F E w) (Idl.rg (idl_hg Try.prog h F E w) [0,1,2] rfl ?_))
 refine Idl.v (idl_hg Try.prog h F E w) ?_
 walk_nrm
 refine Idl.value (v:=.int .i64 (n:Int)) (idl_hg Try.prog h F E w) rfl rfl (by k_ne) (fun w=>by simp [go_sem]) (fun w=>by simp [go_sem]) ?_
 walk_nrm
 refine Idl.v (idl_hg Try.prog h F E w) ?_
 walk_nrm
 refine Idl.re (idl_hg Try.prog h F E w) ?_
 refine Idl.bl (idl_hg Try.prog h F E w) ?_
 refine Idl.lp (idl_hg Try.prog h F E w) ?_
 refine hc _ ⟨by simp,by simp [hn],by simp,by simp⟩ (fun x hx=>?_)
 rcases hx with rfl | rfl | rfl | rfl <;> rfl
theorem run_off_end (R:RegsH T gv n n) (hc:∀ T',T'.size=121→Keep4 T T'→HG Try.prog h F E (G ((base 29).at ⟨T',[]⟩ [.code rI]) (c :: cl)) w) :
  HGn Try.prog h F E w 100 (G ((base 29).at ⟨T,[]⟩ hdH) (c :: cl)):=by
 obtain ⟨hT,t95,t96,t97⟩:=R
 obtain ⟨f,rfl⟩:=arr121f T hT
 clear hT
 simp only [R121_get f (show 95 < 121 by decide),R121_get f (show 96 < 121 by decide),R121_get f (show 97 < 121 by decide),Option.some.injEq] at t95 t96 t97
 have q1:decide ((n:Int) < (n:Int))=false:=decide_eq_false (by omega)
 change HGn Try.prog h F E w 100 (G ((base 29).at _ [.code xH,.inLoop rH,.inBlock 8,.code rI]) (c :: cl))
 generalize hLH:rH=LH at hc ⊢
 generalize hLI:rI=LI at hc ⊢
 simp only [xH,rH,rG,rD,rB,rHire,rBody,Try.f29,Option.getD_some,R121,t95,t96,t97]
 refine Idl.q (idl_hg Try.prog h F E w) (Idl.rg (idl_hg Try.prog h F E w) [0] rfl ?_)
 refine Idl.v (idl_hg Try.prog h F E w) ?_
 walk_nrm
 refine Idl.re (idl_hg Try.prog h F E w) (Idl.q (idl_hg Try.prog h F E w) (Idl.cf (idl_hg Try.prog h F E w) rfl (Idl.exit (idl_hg Try.prog h F E w) rfl ?_)))
 refine hc _ (by simp) (fun x hx=>?_)
 rcases hx with rfl | rfl | rfl | rfl <;> rfl
theorem HG.give_wait {j kc id d1 x:Nat} {b:Frame} {a:Act} {k:List Item} {cs:List Frame} {ops:Array Oper} {i:Nat} {o mv cw:Oper} {xx yy:Operand} {v:Value} {ats:Array TypeId} {home:Goroutine→Prop} {gb ct cc:Nat}
  (hjh:j≠h) (hj:E.role j=.seat ct home) (ho:ops[i]?=some o) (hw:Region.wanted o (yielded ops a.tmps)=true) (hk:b.kind≠.early) (hop:o.op=.send xx yy) (hd:o.dst=none) (hx:a.eval xx=.chan (some ct)) (hy:a.eval yy=v)
  (m1:mv.op=.move (.tmp x)) (m2:mv.dst=some d1) (m3:mv.guard=none) (c1:cw.op=.call { callee:=.value (.func 74),args:=#[.tmp d1],argTypes:=ats }) (c3:cw.guard=none) (hxv:a.eval (.tmp x)=.pointer (some ⟨gb,0,none⟩)) (hd1:(a.put (some d1) (.pointer (some ⟨gb,0,none⟩))).eval (.tmp d1)=.pointer (some ⟨gb,0,none⟩))
  (hS:E.St h ⟨gb,2,none⟩=some (.chan (some cc))) (hcc:w.heap[cc]?=some (.chan 0 #[] false kc kc false)) (hH:E.H cc=some 0) (hno:∀ x home'',x≠h→E.role x≠.seat cc home'')
  (hnext:∀ E1 w1 n g₂,AtE h E w E1 w1→w1.heap[ct]?=some (.chan 0 #[] false n n false)→home g₂→HG Try.prog j F (E1.setRole h (.seat cc (AtWait gb b (a.put (some d1) (.pointer (some ⟨gb,0,none⟩))) #[mv,cw] 1 [] k cs))) (Go.Conc.served g₂ v) (w1.setChan ct 0 #[] false (n+1) (n+1) false)) :
  HG Try.prog h F E (G (b.at a (.inRegion ops [i] :: .code (.region id #[mv,cw] false) :: k)) cs) w:=by
 refine HG.give_seat (n':=101) (k':=kc) (es:=#[]) hjh hj rfl (fun w' _=>stepG_send ho hw hk hop hx hy) (by simp) ?_ hcc hH hno hnext
 rw [served_G,ho,Option.bind_some,hd,show a.put none undef=a from rfl]
 refine .inl ⟨100,w,rfl,?_⟩
 have I:=idl_sitsN Try.prog (h == 0) (E.St h) (fun g _=>∃ g₂,AtSeat Try.prog (h == 0) (E.St h) cc (AtWait gb b (a.put (some d1) (.pointer (some ⟨gb,0,none⟩))) #[mv,cw] 1 [] k cs) g g₂) w
 refine Idl.step (n:=99) I _ _ rfl (fun _=>stepG_region_end) ?_
 refine Idl.step (n:=98) I _ _ rfl (fun _=>stepG_region) ?_
 have hr:List.range (#[mv,cw]:Array Oper).size=[0,1]:=rfl
 rw [hr]
 refine Idl.value (n:=97) (v:=.pointer (some ⟨gb,0,none⟩)) I (o:=mv) rfl (by simp [Region.wanted,m3]) hk (fun w=>?_) (fun w=>?_) ?_
 ·show (execOp a.eval mv).run _ _=_
  simp [execOp,m1,hxv]
 ·show (execOp a.eval mv).events _ _ _=_
  simp [execOp,m1]
 rw [m2]
 refine Idl.callE (n:=96) (fn:=Try.f74) (vs:=#[.pointer (some ⟨gb,0,none⟩)]) I (o:=cw) rfl (by simp [Region.wanted,c3]) hk c1 Try.func74 rfl rfl (by simpa using hd1) ?_
 exact wait_seat (m:=36) hS (fun _ z=>z)
theorem run_off_step {i:Nat} {o:Option (Nat × Λ)} (hP:Pos D st) (Ph:Phase D h rb E0 w0 Pv ths st s k E w) (hgs:GS w0 gv Pv ths) (hn:ths.length=n) (hi:i < n) (hN8:n≤8) (R:RegsH T gv n i) (ho:st[i]?=some o)
  (hc:∀ E' w' T',Phase D h rb E0 w0 Pv ths (st.set i none) s k E' w'→RegsH T' gv n (i+1)→Keep4 T T'→HG Try.prog h F E' (G ((base 29).at ⟨T',[]⟩ hdH) (c :: cl)) w') :
  HGn Try.prog h F E w 100 (G ((base 29).at ⟨T,[]⟩ hdH) (c :: cl)):=by
 refine HG.withH fun hWH hWS=>?_
 obtain ⟨hT,t95,t96,t97⟩:=R
 obtain ⟨f,rfl⟩:=arr121f T hT
 clear hT
 simp only [R121_get f (show 95 < 121 by decide),R121_get f (show 96 < 121 by decide),R121_get f (show 97 < 121 by decide),Option.some.injEq] at t95 t96 t97
 have q1:decide ((i:Int) < (n:Int))=true:=decide_eq_true (by omega)
 have q2:(i:Int) < (n:Int):=by omega
 have w3:IntKind.i64.wrap ((i:Int)+1)=((i+1:Nat):Int):=by rw [IntKind.wrap_i64]; omega
 obtain ⟨g,gcap,cur,rfl,hPg,hcur⟩:=hgs.row (by omega)
 rw [hn] at t95
 obtain ⟨th,hth⟩:∃ th,ths[i]?=some th:=⟨_,List.getElem?_eq_getElem (by omega)⟩
 obtain ⟨g1,g2,g3,g4⟩:=Ph.pv g _ hPg
 have T0:=Ph.tb th (List.mem_of_getElem? hth)
 have hS:=Ph.ts i th o hth ho
 change HGn Try.prog h F E w 100 (G ((base 29).at _ [.code xH,.inLoop rH,.inBlock 8,.code rI]) (c :: cl))
 unfold hdH at hc
 generalize hLH:rH=LH at hc ⊢
 generalize hLI:rI=LI at hc ⊢
 simp only [xH,rH,rG,rD,rB,rHire,rBody,Try.f29,Option.getD_some,R121,t95,t96,t97]
 refine Idl.q (idl_hg Try.prog h F E w) (Idl.rg (idl_hg Try.prog h F E w) [0] rfl ?_)
 refine Idl.v (idl_hg Try.prog h F E w) ?_
 walk_nrm
 refine Idl.re (idl_hg Try.prog h F E w) (Idl.q (idl_hg Try.prog h F E w) (Idl.ct (idl_hg Try.prog h F E w) rfl (Idl.sk (idl_hg Try.prog h F E w) (Idl.q (idl_hg Try.prog h F E w) (Idl.bl (idl_hg Try.prog h F E w) (Idl.q (idl_hg Try.prog h F E w) (Idl.rg (idl_hg Try.prog h F E w) [0,1,2] rfl ?_)))))))
 refine Idl.v (idl_hg Try.prog h F E w) ?_
 walk_nrm
 refine HGn.ld (obj_cell g1 (hcur i th hth)) (fun z=>by rw [g3] at z; cases z) rfl rfl (by first | decide | exact base_kind _ | exact baseD_kind _ | assumption) (fun w₁ hc₁=>⟨by go_simp,fun e he=>by (have he':=he; simp [go_sem,hc₁] at he'; exact he')⟩) ?_
 walk_nrm
 refine Idl.v (idl_hg Try.prog h F E w) ?_
 walk_nrm
 refine Idl.re (idl_hg Try.prog h F E w) (Idl.q (idl_hg Try.prog h F E w) (Idl.rg (idl_hg Try.prog h F E w) [0,1,2,3,4] rfl ?_))
 iterate 3 (refine Idl.v (idl_hg Try.prog h F E w) ?_; walk_nrm)
 cases o with
 | none =>
   obtain ⟨_,fr,tl,hga⟩:=hS
   have hset:st.set i none=st:=by
    apply List.ext_getElem?
    intro j
    by_cases e:i=j
    ·subst e
     rw [List.getElem?_set_self (List.getElem?_eq_some_iff.1 ho).1,ho]
    ·rw [List.getElem?_set_ne e]
   rw [hset] at hc
   refine HGn.ld (obj_cell hga (o:=3) rfl) (fun z=>by rw [T0.gW] at z; cases z) rfl rfl (by first | decide | exact base_kind _ | exact baseD_kind _ | assumption) (fun w₁ hc₁=>⟨by go_simp,fun e he=>by (have he':=he; simp [go_sem,hc₁] at he'; exact he')⟩) ?_
   walk_nrm
   refine Idl.v (idl_hg Try.prog h F E w) ?_
   walk_nrm
   refine Idl.re (idl_hg Try.prog h F E w) (Idl.cf (idl_hg Try.prog h F E w) rfl (Idl.sk (idl_hg Try.prog h F E w) (Idl.ib (idl_hg Try.prog h F E w) (Idl.rg (idl_hg Try.prog h F E w) [0,1] rfl ?_))))
   iterate 2 (refine Idl.v (idl_hg Try.prog h F E w) ?_; walk_nrm)
   refine Idl.re (idl_hg Try.prog h F E w) (Idl.il (idl_hg Try.prog h F E w) ?_)
   try simp only [w3]
   refine hc E w _ Ph ⟨by simp,by simp [hn],by simp,by simp⟩ (fun x hx=>?_)
   rcases hx with rfl | rfl | rfl | rfl <;> rfl
 | some y =>
   obtain ⟨m,ℓ⟩:=y
   obtain ⟨s1,s2,hga⟩:=hS
   obtain ⟨kc,hkc⟩:=T0.csC
   refine HGn.ld (obj_cell hga (o:=3) rfl) (fun z=>by rw [T0.gW] at z; cases z) rfl rfl (by first | decide | exact base_kind _ | exact baseD_kind _ | assumption) (fun w₁ hc₁=>⟨by go_simp,fun e he=>by (have he':=he; simp [go_sem,hc₁] at he'; exact he')⟩) ?_
   walk_nrm
   refine Idl.v (idl_hg Try.prog h F E w) ?_
   walk_nrm
   refine Idl.re (idl_hg Try.prog h F E w) (Idl.ct (idl_hg Try.prog h F E w) rfl (Idl.q (idl_hg Try.prog h F E w) (Idl.rg (idl_hg Try.prog h F E w) [0,1,2,3,4] rfl ?_)))
   iterate 3 (refine Idl.v (idl_hg Try.prog h F E w) ?_; walk_nrm)
   refine HGn.ld (obj_cell hga (o:=1) rfl) (fun z=>by rw [T0.gW] at z; cases z) rfl rfl (by first | decide | exact base_kind _ | exact baseD_kind _ | assumption) (fun w₁ hc₁=>⟨by go_simp,fun e he=>by (have he':=he; simp [go_sem,hc₁] at he'; exact he')⟩) ?_
   walk_nrm
   skip
   refine HG.give_wait T0.hj s1 rfl rfl (by k_ne) rfl rfl rfl rfl rfl rfl rfl rfl rfl rfl rfl T0.stS hkc T0.csH T0.noS ?_
   refine phase_off_next (hP i m ℓ ho) Ph hth ho hWH (fun E' w' Ph'=>?_)
   have hc':=hc E' w'
   clear hc hga s1
   walk_nrm
   change HGn Try.prog h F E' w' 100 _
   refine Idl.re (idl_hg Try.prog h F E' w') (Idl.ib (idl_hg Try.prog h F E' w') (Idl.rg (idl_hg Try.prog h F E' w') [0,1] rfl ?_))
   iterate 2 (refine Idl.v (idl_hg Try.prog h F E' w') ?_; walk_nrm)
   refine Idl.re (idl_hg Try.prog h F E' w') (Idl.il (idl_hg Try.prog h F E' w') ?_)
   try simp only [w3]
   refine hc' _ Ph' ⟨by simp,by simp [hn],by simp,by simp⟩ (fun x hx=>?_)
   rcases hx with rfl | rfl | rfl | rfl <;> rfl
theorem run_off (hgs:GS w0 gv Pv ths) (hn:ths.length=n) (hN8:n≤8):∀ (d i:Nat) (st:List (Option (Nat × Λ))) (T:Array Value) (E:Env) (w:World),i+d=n→(∀ j,j < i→st[j]?=some none)→Pos D st→Phase D h rb E0 w0 Pv ths st s k E w→RegsH T gv n i →
  (∀ E' w' T' st',(∀ o ∈ st',o=none)→Phase D h rb E0 w0 Pv ths st' s k E' w'→T'.size=121→Keep4 T T'→HG Try.prog h F E' (G ((base 29).at ⟨T',[]⟩ [.code rI]) (c :: cl)) w') →
  HG Try.prog h F E (G ((base 29).at ⟨T,[]⟩ hdH) (c :: cl)) w:=by
 intro d
 induction d with
 | zero =>
   intro i st T E w hd hj hP Ph R hcont
   have:i=n:=by omega
   subst this
   refine run_off_end R (fun T' e1 e2=>hcont E w T' st (fun o ho=>?_) Ph e1 e2)
   obtain ⟨j,hj'⟩:=List.mem_iff_getElem?.1 ho
   have hl:=(List.getElem?_eq_some_iff.1 hj').1
   rw [Ph.len,hn] at hl
   have:=hj j hl
   rw [hj'] at this
   exact Option.some.inj this
 | succ d ih =>
   intro i st T E w hd hj hP Ph R hcont
   have hlen:i < st.length:=by rw [Ph.len]; omega
   obtain ⟨o,ho⟩:∃ o,st[i]?=some o:=⟨_,List.getElem?_eq_getElem hlen⟩
   refine run_off_step hP Ph hgs hn (by omega) hN8 R ho (fun E' w' T' Ph' R' k4=>?_)
   refine ih (i+1) _ T' E' w' (by omega) (fun j hji=>?_) (fun t m ℓ e=>?_) Ph' R' (fun E'' w'' T'' st' a1 a2 a3 a4=>hcont E'' w'' T'' st' a1 a2 a3 (k4.trans a4))
   by_cases e:i=j
   ·subst e
    rw [List.getElem?_set_self hlen]
   ·rw [List.getElem?_set_ne e]
    exact hj j (by omega)
   ·by_cases h1:i=t
    ·subst h1
     rw [List.getElem?_set_self hlen] at e
     simp at e
    ·rw [List.getElem?_set_ne h1] at e
     exact hP t m ℓ e
end
section
variable {σ Λ:Type} {D:Prot σ Λ} {Pv:Nat→Option Obj} {h rb:Nat} {E0 E:Env} {w0 w:World} {ths:List Th} {st:List (Option (Nat × Λ))} {s:σ} {k:Int} {th:Th} {F:Machine→Trace→Prop} {T:Array Value}
 {b₀:Frame} {a₀:Act} {ops₀:Array Oper} {i₀:Nat} {rest₀:List Nat} {k₀:List Item} {cl:List Frame}
theorem Base.over {J:Nat→Prop} (B:Base h rb J E0 w0 E w) (hrole:E.role h=.gone) (hJ:∀ x,J x→E.role x=.gone) (hwg:∀ x,E.wg x≠some rb) (hex:E.ex rb=0):Kept h none E0 w0 E w:=by
 refine ⟨⟨fun x c home=>?_,fun x e=>?_,hrole.trans B.role0.symm,B.St,B.W,B.H,fun x b e=>?_,B.wgH,fun x e=>?_,?_,fun b _=>B.mode b,fun b=>by rw [B.mode0 b]; exact Nat.zero_le _,B.io⟩,B.size,fun b n h1 h2 _ h3=>B.heap b n h1 h2 h3,B.heapW,B.StN,B.WN⟩
 ·by_cases hx:J x
  ·have h1:=(B.newR x hx).1
   have h2:=hJ x hx
   exact ⟨(fun e=>by rw [e] at h1; cases h1),(fun e=>by rw [h2] at e; cases e)⟩
  ·by_cases hh:x=h
   ·subst hh
    exact ⟨(fun e=>by rw [B.role0] at e; cases e),(fun e=>by rw [hrole] at e; cases e)⟩
   ·exact B.seat x c home hx hh
 ·by_cases hx:J x
  ·exact hJ x hx
  ·by_cases hh:x=h
   ·subst hh; exact hrole
   ·exact B.gone x hx hh e
 ·by_cases hx:J x
  ·have:=B.wgJ x b hx e
   rw [this] at e
   exact absurd e (hwg x)
  ·exact B.wg x b hx e
 ·have hx:¬ J x:=fun hx=>by rw [(B.newR x hx).1] at e; cases e
  have hh:x≠h:=fun z=>by rw [z,B.role0] at e; cases e
  exact B.wgS x hx hh e
 ·funext b
  by_cases hb:b=rb
  ·rw [hb,hex,B.rX0]
  ·exact B.ex b hb
theorem gone_of {gs:Array Goroutine} {Tr:Trace} {q:Nat→Nat} {x:Nat} (C:Co Try.prog E h 0 Tr gs w q) (hx:x≠h) (hs:(E.role x).sits=false) (hwj:∀ b,E.wg x=some b→b=rb) (hwg:E.wg x≠some rb) (hmode:∀ b,E.mode b=0):E.role x=.gone:=by
 by_cases hl:x < gs.size
 ·have hid:=C.idle x _ hx (Array.getElem?_eq_getElem hl)
  unfold Idle at hid
  cases hr:E.role x with
  | seat c home=>rw [hr] at hs; cases hs
  | gone=>rfl
  | ender b =>
    rw [hr] at hid
    have:=hwj b hid.2.2
    rw [this] at hid
    exact absurd hid.2.2 hwg
  | last b f =>
    rw [hr] at hid
    have:=hid.2.2.2.2.1
    rw [hmode b] at this
    cases f <;> simp at this
 ·exact (C.fresh x (by omega)).1
theorem run_end (Ph:Phase D h rb E0 w0 Pv ths st s k E w) (hst:∀ o ∈ st,o=none) (hw0:∀ x,E0.wg x≠some rb) (hT:T.size=121) (t7:T[7]?=some (.pointer (some ⟨rb,0,none⟩)))
  (hfin:∀ E' w',Kept h none E0 w0 E' w'→D.M s E' w'→HG Try.prog h F E' (G (b₀.at (a₀.put ((ops₀[i₀]?).bind (·.dst)) (.int .i64 k)) (.inRegion ops₀ rest₀ :: k₀)) cl) w') :
  HGn Try.prog h F E w 100 (G ((base 29).at ⟨T,[]⟩ [.code rI]) (b₀.at a₀ (.inRegion ops₀ (i₀ :: rest₀) :: k₀) :: cl)):=by
 refine HG.withH fun hWH hWS=>?_
 have hnone:∀ th ∈ ths,(E.role th.j).sits=false:=fun th hm=>by
  obtain ⟨t,ht⟩:=List.mem_iff_getElem?.1 hm
  have hl:t < st.length:=by rw [Ph.len]; exact (List.getElem?_eq_some_iff.1 ht).1
  have hS:=Ph.ts t th _ ht (List.getElem?_eq_getElem hl)
  have he:=hst _ (List.getElem_mem hl)
  rw [he] at hS
  exact hS.1
 obtain ⟨f,rfl⟩:=arr121f T hT
 clear hT
 simp only [R121_get f (show 7 < 121 by decide),Option.some.injEq] at t7
 change HGn Try.prog h F E w 100 (G ((base 29).at _ [.code xI]) (b₀.at a₀ (.inRegion ops₀ (i₀ :: rest₀) :: k₀) :: cl))
 simp only [xI,rI,rG,rD,rB,rHire,rBody,Try.f29,Option.getD_some,R121,t7]
 refine Idl.q (idl_hg Try.prog h F E w) (Idl.rg (idl_hg Try.prog h F E w) [0,1,2,3] rfl ?_)
 iterate 3 (refine Idl.v (idl_hg Try.prog h F E w) ?_; walk_nrm)
 refine Idl.callE (fn:=Go.Conc.Lib.waitFn wgLink) (vs:=#[.pointer (some (stZ rb))]) (idl_hg Try.prog h F E w) rfl rfl (by k_ne) rfl wgLib.f_wait (by kernel_rfl) rfl (by simp [Act.eval,stZ]) ?_
 refine wait_holds (L:=wgLink) wgLib AtE.bears (fun E' w' a=>⟨by rw [a.1.W']; exact Ph.rW,(congrFun a.1.ex rb).trans Ph.ex,a.1.mode _ (Ph.base.mode rb),by rw [a.1.wgH,Ph.base.wgH]; exact hw0 h,fun x hx hs e=>?_⟩) ?_
 ·have hs':(E.role x).sits=true:=by rw [← a.1.toLe.sits x]; exact hs
  by_cases hJ:∃ th ∈ ths,x=th.j
  ·obtain ⟨th,hm,rfl⟩:=hJ
   rw [hnone th hm] at hs'; cases hs'
  ·exact hw0 x (Ph.base.wg x rb hJ (a.1.wg x rb e))
 ·refine Holds.of_hg fun E1 w1 ⟨Ea,wa,a1,a2,a3,a4⟩=>?_
  have aa:AtE h E w E1 w1:=⟨a1.1.trans a2,a1.2.trans _ _ _ (by rw [← a1.1.W']; exact a3)⟩
  refine HG.open fun E2 w2 hA ⟨gs,Tr,q,C,_⟩=>?_
  have ab:AtE h E w E2 w2:=aa.trans hA
  have P2:=Ph.at hWH ab
  have hno:∀ x,E2.wg x≠some rb:=fun x e=>a4 x (hA.1.wg x rb e)
  have hk2:Kept h none E0 w0 E2 w2:=P2.base.over P2.role (fun x ⟨th,hm,e⟩=>by
   subst e
   refine gone_of C (P2.tb th hm).hj ?_ (fun b=>P2.base.wgJ _ b ⟨th,hm,rfl⟩) (hno _) P2.base.mode
   rw [ab.1.toLe.sits]
   exact hnone th hm) hno P2.ex
  have hf:=hfin E2 w2 hk2 P2.M
  clear hfin
  walk_nrm
  change HGn Try.prog h F E2 w2 100 _
  refine Idl.re (idl_hg Try.prog h F E2 w2) (Idl.q (idl_hg Try.prog h F E2 w2) (Idl.rg (idl_hg Try.prog h F E2 w2) [0,1,2,3,4] rfl ?_))
  iterate 3 (refine Idl.v (idl_hg Try.prog h F E2 w2) ?_; walk_nrm)
  refine HGn.ld P2.pick (fun _=>⟨rfl,P2.rL⟩) rfl rfl (by first | decide | exact base_kind _ | exact baseD_kind _ | assumption) (fun w₁ hc₁=>⟨by go_simp,fun e he=>by (have he':=he; simp [go_sem,hc₁] at he'; exact he')⟩) ?_
  walk_nrm
  refine Idl.v (idl_hg Try.prog h F E2 w2) ?_
  walk_nrm
  refine Idl.re (idl_hg Try.prog h F E2 w2) (Idl.rt (idl_hg Try.prog h F E2 w2) ?_)
  refine Idl.leave1 (n:=1) (idl_hg Try.prog h F E2 w2) rfl rfl Try.func29 rfl ?_
  exact hf
end
theorem mkChan_run (W:World):(Instr.makeChan 106 (.int .i64 0)).run Try.prog W=.ok (.chan (some W.heap.size)) (W.alloc (.chan 0 #[] false 0 0 false)):=by kernel_rfl
structure Made (E:Env) (w w':World):Prop where
 size:w.heap.size≤w'.heap.size
 old:∀ b,b < w.heap.size→E.W b=false→w'.heap[b]?=w.heap[b]?
 oldW:∀ b,E.W b=true→∀ x st sm e,w.heap[b]?=some (runObj x st sm e)→∃ st' sm',w'.heap[b]?=some (runObj x st' sm' e)
noncomputable def hdA:List Item:=[.code rA,.inLoop rA,.inBlock 0,.code rB]
structure RegsA (T:Array Value) (rb:Nat) (gv:Value) (N i:Nat) (bv:Value):Prop where
 sz:T.size=121
 t7:T[7]?=some (.pointer (some ⟨rb,0,none⟩))
 t8:T[8]?=some gv
 t25:T[25]?=some bv
 t26:T[26]?=some (.int .i64 (N:Int))
 t27:T[27]?=some (.int .i64 (i:Int))
noncomputable def rA9:Code:=match rA with | .seq _ (.seq _ (.seq (.block _ (.seq _ (.seq _ x))) _))=>x | _=>.skip
noncomputable def rA13:Code:=match rA with | .seq _ (.seq _ (.seq _ x))=>x | _=>.skip
noncomputable def hdA9:List Item:=[.code rA9,.inBlock 1,.code rA13,.inLoop rA,.inBlock 0,.code rB]
noncomputable def xA9:Code:=rA9
noncomputable def xA13:Code:=rA13
section
variable {h rb:Nat} {E:Env} {w:World} {F:Machine→Trace→Prop} {T:Array Value}
structure MadeG (rb:Nat) (E:Env) (w w':World) (ct cs:Nat):Prop extends Made E w w' where
 ids:(ct=w.heap.size∧cs=w.heap.size+1)∨(ct=w.heap.size+1∧cs=w.heap.size)
 sz:w'.heap.size=w.heap.size+3
 ctC:w'.heap[ct]?=some (.chan 0 #[] false 0 0 false)
 csC:w'.heap[cs]?=some (.chan 0 #[] false 0 0 false)
 gate:w'.heap[w.heap.size+2]?=some (gateObj rb ct cs false false 0 0 0 108)
theorem madeG_of {H W:_} {w1 w' x:World} {ct cs:Nat} {E1:Env} (hH:E1.H=H) (hWe:E1.W=W) (hF:Far H W w1 w') (hfit:Fit H W w1) (hfit':Fit H W w') (hx:x.heap=(vw H w1).heap) {τ':Nat→Question→Nat} {d:Nat} {y:World} (hy:y.heap=((x.heap.push (.chan 0 #[] false 0 0 false)).push (.chan 0 #[] false 0 0 false)).push (gateObj rb ct cs false false 0 0 0 108)) (he:y=rt (vw H w') τ' d)
  (ids:(ct=w1.heap.size∧cs=w1.heap.size+1)∨(ct=w1.heap.size+1∧cs=w1.heap.size)):MadeG rb E1 w1 w' ct cs:=by
 have hv:(vw H w').heap=((x.heap.push (.chan 0 #[] false 0 0 false)).push (.chan 0 #[] false 0 0 false)).push (gateObj rb ct cs false false 0 0 0 108):=by
  rw [← hy,he]; rfl
 have hxs:x.heap.size=w1.heap.size:=by rw [hx]; simp
 have hsz:w'.heap.size=w1.heap.size+3:=by
  have:=congrArg Array.size hv
  simp [hxs] at this
  exact this
 have hold:∀ b,b < w1.heap.size→(vw H w').heap[b]?=(vw H w1).heap[b]?:=fun b hb=>by
  rw [hv,← hx]
  rw [Array.getElem?_push,if_neg (by simp; omega),Array.getElem?_push,if_neg (by simp; omega),Array.getElem?_push,if_neg (by omega)]
 have hnew:∀ b o,w1.heap.size≤b→(vw H w').heap[b]?=some o→w'.heap[b]?=some o:=fun b o hb e=>by
  cases hn:H b with
  | none=>rw [vw_get_none hn] at e; exact e
  | some m=>rw [hfit.bound b hb] at hn; cases hn
 obtain ⟨q1,q2⟩:=quiet_heap hF hfit
 have n0:(vw H w').heap[w1.heap.size]?=some (.chan 0 #[] false 0 0 false):=by
  rw [hv,Array.getElem?_push,if_neg (by simp; omega),Array.getElem?_push,if_neg (by simp; omega),Array.getElem?_push,if_pos hxs.symm]
 have n1:(vw H w').heap[w1.heap.size+1]?=some (.chan 0 #[] false 0 0 false):=by
  rw [hv,Array.getElem?_push,if_neg (by simp; omega),Array.getElem?_push,if_pos (by simp; omega)]
 have n2:(vw H w').heap[w1.heap.size+2]?=some (gateObj rb ct cs false false 0 0 0 108):=by
  rw [hv,Array.getElem?_push,if_pos (by simp; omega)]
 refine ⟨⟨by omega,fun b hb hW=>q1 b hb (by rw [← hWe]; exact hW) (hold b hb),fun b hW x st sm e hxx=>q2 b (by rw [← hWe]; exact hW) (hold b (Array.getElem?_eq_some_iff.1 hxx).1) x st sm e hxx⟩,ids,hsz,?_,?_,hnew _ _ (by omega) n2⟩
 ·rcases ids with ⟨rfl,_⟩ | ⟨rfl,_⟩
  ·exact hnew _ _ (Nat.le_refl _) n0
  ·exact hnew _ _ (by omega) n1
 ·rcases ids with ⟨_,rfl⟩ | ⟨_,rfl⟩
  ·exact hnew _ _ (by omega) n1
  ·exact hnew _ _ (Nat.le_refl _) n0
theorem hire_gate {N i:Nat} {gv v:Value} {ba bo bcap:Nat} {c:Frame} {cl:List Frame} (R:RegsA T rb gv N i (.slice (some ⟨ba,bo,none⟩) N bcap)) (hi:i < N) (hb:w.cell? ⟨ba,bo+i,none⟩=some v) (hbW:E.W ba=false)
  (hc:∀ E1 w1 w' ct cs T',AtE h E w E1 w1→MadeG rb E1 w1 w' ct cs→RegsA T' rb gv N i (.slice (some ⟨ba,bo,none⟩) N bcap)→T'[10]?=some v→T'[11]?=some (.pointer (some ⟨w1.heap.size+2,0,none⟩))→Keep4 T T'→HG Try.prog h F E1 (G ((base 29).at ⟨T',[]⟩ hdA9) (c :: cl)) w') :
  HGn Try.prog h F E w 100 (G ((base 29).at ⟨T,[]⟩ hdA) (c :: cl)):=by
 obtain ⟨hT,t7,t8,t25,t26,t27⟩:=R
 obtain ⟨f,rfl⟩:=arr121f T hT
 clear hT
 simp only [R121_get f (show 7 < 121 by decide),R121_get f (show 8 < 121 by decide),R121_get f (show 25 < 121 by decide),R121_get f (show 26 < 121 by decide),R121_get f (show 27 < 121 by decide),Option.some.injEq] at t7 t8 t25 t26 t27
 have q1:decide ((i:Int) < (N:Int))=true:=decide_eq_true (by omega)
 have q2:(i:Int) < (N:Int):=by omega
 change HGn Try.prog h F E w 100 (G ((base 29).at _ [.code xA,.inLoop rA,.inBlock 0,.code rB]) (c :: cl))
 unfold hdA9 at hc
 generalize hLA:rA=LA at hc ⊢
 generalize hLB:rB=LB at hc ⊢
 simp only [xA,rA,rHire,rBody,Try.f29,Option.getD_some,R121,t7,t8,t25,t26,t27]
 refine Idl.q (idl_hg Try.prog h F E w) (Idl.rg (idl_hg Try.prog h F E w) [0] rfl ?_)
 refine Idl.v (idl_hg Try.prog h F E w) ?_
 walk_nrm
 refine Idl.re (idl_hg Try.prog h F E w) (Idl.q (idl_hg Try.prog h F E w) (Idl.ct (idl_hg Try.prog h F E w) rfl (Idl.sk (idl_hg Try.prog h F E w) (Idl.q (idl_hg Try.prog h F E w) (Idl.bl (idl_hg Try.prog h F E w) (Idl.q (idl_hg Try.prog h F E w) (Idl.rg (idl_hg Try.prog h F E w) [0,1,2] rfl ?_)))))))
 refine Idl.v (idl_hg Try.prog h F E w) ?_
 walk_nrm
 refine HGn.ld hb (fun z=>by rw [hbW] at z; cases z) rfl rfl (by first | decide | exact base_kind _ | exact baseD_kind _ | assumption) (fun w₁ hc₁=>⟨by go_simp,fun e he=>by (have he':=he; simp [go_sem,hc₁] at he'; exact he')⟩) ?_
 walk_nrm
 refine Idl.v (idl_hg Try.prog h F E w) ?_
 walk_nrm
 refine Idl.re (idl_hg Try.prog h F E w) (Idl.q (idl_hg Try.prog h F E w) ?_)
 refine HG.quiet (Q:=fun a' w' E1 w1=>∃ ct cs,MadeG rb E1 w1 w' ct cs∧RegsA a'.tmps rb gv N i (.slice (some ⟨ba,bo,none⟩) N bcap)∧a'.tmps[10]?=some v∧a'.tmps[11]?=some (.pointer (some ⟨w1.heap.size+2,0,none⟩))∧Keep4 (R121 f) a'.tmps) (by rfl) (by rfl) rfl (fun E1 w1 hA hf τ=>?_) (fun E1 w1 hA a' w' h1 h2 h3 ⟨ct,cs,g1,g2,g3,g4,g5⟩=>?_)
 ·have x7:(rt (vw E1.H w1) τ 0).heap.size=w1.heap.size:=by simp
  have xh:(rt (vw E1.H w1) τ 0).heap=(vw E1.H w1).heap:=rfl
  generalize (rt (vw E1.H w1) τ 0)=x at x7 xh ⊢
  have mk:=mkChan_run
  clear hc
  go_region
  ·refine ⟨rfl,rfl,fun w' τ' d he hF hf'=>⟨w1.heap.size,w1.heap.size+1,madeG_of rfl rfl hF hf hf' xh rfl he (.inl ⟨rfl,rfl⟩),⟨by simp,by simp,by simp,by simp,by simp,by simp⟩,by simp,by simp,fun x hx=>?_⟩⟩
   rcases hx with rfl | rfl | rfl | rfl <;> first | rfl | simp [R121,t7]
  ·refine ⟨rfl,rfl,fun w' τ' d he hF hf'=>⟨w1.heap.size+1,w1.heap.size,madeG_of rfl rfl hF hf hf' xh rfl he (.inr ⟨rfl,rfl⟩),⟨by simp,by simp,by simp,by simp,by simp,by simp⟩,by simp,by simp,fun x hx=>?_⟩⟩
   rcases hx with rfl | rfl | rfl | rfl <;> first | rfl | simp [R121,t7]
 ·obtain ⟨tm,df⟩:=a'
  have hd:df=[]:=h1
  subst hd
  subst hLA hLB
  exact hc E1 w1 w' ct cs _ hA g1 g2 g3 g4 g5
end
structure Listed (E:Env) (w0 w w':World) (Pv:Nat→Option Obj) (gv':Value) (xs:List Value) (m:Nat):Prop where
 size:w.heap.size≤w'.heap.size
 old:∀ b,b < w.heap.size→Pv b=none→E.W b=false→w'.heap[b]?=w.heap[b]?
 oldW:∀ b,E.W b=true→∀ x st sm e,w.heap[b]?=some (runObj x st sm e)→∃ st' sm',w'.heap[b]?=some (runObj x st' sm' e)
 row:∃ (g cap:Nat) (cur:Array Value),gv'=.slice (some ⟨g,0,none⟩) (m+1) cap∧w'.heap[g]?=some (.cells cur 49)∧w0.heap.size≤g∧(w.heap.size≤g∨∃ o,Pv g=some o)∧m+1≤cap∧cap≤maxLen∧cur.size=cap∧cur.toList.take (m+1)=xs
 cells:∀ b o,Pv b=some o→∃ c e f,w'.heap[b]?=some (.cells c e f)
theorem gs_owns {w0 x:World} {gv:Value} {Pv:Nat→Option Obj} {ths:List Th} (g:GS w0 gv Pv ths) (hx:∀ b o,Pv b=some o→x.heap[b]?=some o):x.ownsRow w0.heap.size 49 1 gv ths.length (ths.map fun th=>.pointer (some ⟨th.gb,0,none⟩)):=by
 rcases g with ⟨rfl,rfl,_⟩ | ⟨g,cap,cur,e1,e2,e3,e4,e5,e6,e7⟩
 ·exact ⟨by simp,.inl ⟨rfl,rfl⟩⟩
 ·refine ⟨by simp,.inr ⟨g,cap,cur,e1,e3,hx g _ (by rw [e2]; simp),e4,e5,by rw [e6]; simp,by simpa using e7⟩⟩
theorem gs_block {w0:World} {gv:Value} {Pv:Nat→Option Obj} {ths:List Th} (g:GS w0 gv Pv ths):(∀ b,gv.ownBlock=some b→∃ o,Pv b=some o)∧∀ b o,Pv b=some o→gv.ownBlock=some b∧w0.heap.size≤b∧∃ c,o=.cells c 49:=by
 rcases g with ⟨rfl,rfl,h⟩ | ⟨g,cap,cur,e1,e2,e3,e4,e5,e6,e7⟩
 ·exact ⟨fun b e=>(by cases e),fun b o e=>by rw [h b] at e; cases e⟩
 ·subst e1 e2
  refine ⟨fun b e=>?_,fun b o e=>?_⟩
  ·have:g=b:=by simpa [Value.ownBlock] using e
   subst this
   exact ⟨_,if_pos rfl⟩
  ·have e':(if b=g then some (Obj.cells cur 49) else none)=some o:=e
   by_cases hb:b=g
   ·subst hb
    rw [if_pos rfl] at e'
    exact ⟨rfl,e3,_,(Option.some.inj e').symm⟩
   ·rw [if_neg hb] at e'; cases e'
theorem info49:∃ i:TypeInfo,Try.prog.info? 49=some i∧i.zero=some (.pointer none)∧i.size=1∧i.bytes=8:=by
 have h:(Try.prog.info? 49).isSome=true:=by kernel_rfl
 obtain ⟨i,hi⟩:=Option.isSome_iff_exists.1 h
 have h2:(Try.prog.info? 49).map (fun i=>(i.zero,i.size,i.bytes))=some (some (.pointer none),1,8):=by kernel_rfl
 rw [hi] at h2
 simp only [Option.map_some,Option.some.injEq,Prod.mk.injEq] at h2
 exact ⟨i,hi,h2.1,h2.2.1,h2.2.2⟩
theorem append_gates {W w0:World} {gv p:Value} {Pv:Nat→Option Obj} {ths:List Th} {nb:Nat} (hgs:GS w0 gv Pv ths) (hPv:∀ b o,Pv b=some o→W.heap[b]?=some o) (hp:W.cell? ⟨nb,0,none⟩=some p) (hp1:p.oneCell'=true) (hlen:ths.length≤8) (hbase:w0.heap.size≤W.heap.size) :
  ∃ v' W',(Builtin.append_ #[105,105] 105 #[gv,.slice (some ⟨nb,0,none⟩) 1 1]).run Try.prog W=.ok v' W'∧W'.ownsRow w0.heap.size 49 1 v' (ths.length+1) (ths.map (fun th=>.pointer (some ⟨th.gb,0,none⟩)) ++ [p])∧W.grownBy W' gv.ownBlock∧(v'.ownBlock=gv.ownBlock∨v'.ownBlock=some W.heap.size)∧∀ b,gv.ownBlock=some b→∃ c e f,W'.heap[b]?=some (.cells c e f):=by
 obtain ⟨i0,hi,hz0,hz1,hz2⟩:=info49
 have hown:=gs_owns hgs hPv
 have hnews:∀ j u,[p][j]?=some u→W.cell? ((⟨nb,0,none⟩:Addr).add j)=some u:=fun j u e=>by
  have hj:j=0:=by
   have:=(List.getElem?_eq_some_iff.1 e).1
   simp at this; omega
  subst hj
  simp at e
  subst e
  exact hp
 obtain ⟨v',W',h1,h2,h3,_⟩:=run_append_own (P:=Try.prog) W w0.heap.size 105 105 49 i0 (.pointer none) 1 8 Try.underlying105 hi hz0 hz1 hz2 rfl (by decide) gv ths.length _ hown ⟨nb,0,none⟩ 1 1 [p] rfl hnews (by simp [hp1]) (by unfold maxLen; omega) (by omega) hbase
 refine ⟨v',W',h1,h2,h3,?_⟩
 rcases hgs with ⟨rfl,rfl,hn⟩ | ⟨g,cap,cur,rfl,e2,e3,e4,e5,e6,e7⟩
 ·have:=run_append_nil (P:=Try.prog) W 105 105 49 i0 (.pointer none) Try.underlying105 hi hz0 ⟨nb,0,none⟩ 1 1 [p] (by rw [hz1]; rfl) hnews (by decide) (by decide) (by rw [hz2]; decide)
  rw [h1] at this
  simp only [Result.ok.injEq] at this
  exact ⟨.inr (by rw [this.1]; rfl),fun b e=>by cases e⟩
 ·have hg:W.heap[g]?=some (.cells cur 49 (0,0)):=hPv g _ (by rw [e2]; simp)
  by_cases hroom:ths.length+1≤cap
  ·have:=run_append_room (P:=Try.prog) W 105 105 49 i0 Try.underlying105 hi g ths.length cap cur hg ⟨nb,0,none⟩ 1 1 [p] (by rw [hz1]; rfl) hnews (by simp [hp1]) hroom (by rw [hz1]; simp; omega)
   rw [h1] at this
   simp only [Result.ok.injEq] at this
   refine ⟨.inl (by rw [this.1]; rfl),fun b e=>?_⟩
   have hb:g=b:=by simpa [Value.ownBlock] using e
   subst hb
   exact ⟨_,_,_,by rw [this.2]; exact setRow_heap W g cur _ 49 _ hg⟩
  ·have:=run_append_grow (P:=Try.prog) W 105 105 49 i0 (.pointer none) Try.underlying105 hi hz0 ⟨g,0,none⟩ ths.length cap (ths.map fun th=>.pointer (some ⟨th.gb,0,none⟩)) (by rw [hz1]; simp) (fun j v e=>(hown.cells (g:=g) rfl) j v e) ⟨nb,0,none⟩ 1 1 [p] (by rw [hz1]; rfl) hnews (by omega) (by omega) (by rw [hz2]; exact growslice_fits (by omega) (by omega))
   rw [h1] at this
   simp only [Result.ok.injEq] at this
   refine ⟨.inr (by rw [this.1]; rfl),fun b e=>?_⟩
   have hb:g=b:=by simpa [Value.ownBlock] using e
   subst hb
   exact ⟨_,_,_,by rw [this.2,alloc_old (by exact (Array.getElem?_eq_some_iff.1 hg).1)]; exact hg⟩
theorem listed_of {H W:_} {w0 w1 w' x:World} {E1:Env} {gv gv':Value} {Pv:Nat→Option Obj} {ths:List Th} {p:Value} {xs:List Value} (g:GS w0 gv Pv ths) (hWe:E1.W=W) (hF:Far H W w1 w') (hfit:Fit H W w1) (hfit':Fit H W w') (hPH:∀ b o,Pv b=some o→H b=none∧w1.heap[b]?=some o) (hx:x.heap=(vw H w1).heap) (h0:w0.heap.size≤w1.heap.size)
  {τ':Nat→Question→Nat} {d:Nat} {y:World} (hgr:(x.alloc (.cells #[p] 49)).grownBy y gv.ownBlock) (hown:y.ownsRow w0.heap.size 49 1 gv' (ths.length+1) xs) (hbl:gv'.ownBlock=gv.ownBlock∨gv'.ownBlock=some (w1.heap.size+1)) (hcl:∀ b,gv.ownBlock=some b→∃ c e f,y.heap[b]?=some (.cells c e f)) (he:y.heap=(rt (vw H w') τ' d).heap):Listed E1 w0 w1 w' Pv gv' xs ths.length:=by
 have hv:(vw H w').heap=y.heap:=by rw [he]; rfl
 have hxs:x.heap.size=w1.heap.size:=by rw [hx]; simp
 obtain ⟨b1,b2⟩:=gs_block g
 have hvs:w'.heap.size=y.heap.size:=by rw [← hv]; simp
 have hys:w1.heap.size+1≤y.heap.size:=by
  have:=hgr.size
  rw [alloc_size,hxs] at this; exact this
 have hold:∀ b,b < w1.heap.size→Pv b=none→(vw H w').heap[b]?=(vw H w1).heap[b]?:=fun b hb hp=>by
  rw [hv,hgr.block b (by rw [alloc_size]; omega) (fun e=>by
   obtain ⟨o,ho⟩:=b1 b e.symm
   rw [hp] at ho; cases ho),alloc_old (by rw [hxs]; exact hb),hx]
 have hget:∀ b o,H b=none→y.heap[b]?=some o→w'.heap[b]?=some o:=fun b o hn e=>by rw [← hv,vw_get_none hn] at e; exact e
 have hHn:∀ b,w1.heap.size≤b→H b=none:=fun b hb=>hfit.bound b hb
 obtain ⟨q1,q2⟩:=quiet_heap hF hfit
 have hPW:∀ {b},W b=true→Pv b=none:=fun {b} hb=>by
  cases e:Pv b with
  | none=>rfl
  | some o=>have:=(hPH b o e).1; rw [hfit.sub b hb] at this; cases this
 obtain ⟨_,(⟨_,h2⟩ | ⟨gg,cap,cur,e1,e2,e3,e4,e5,e6,e7⟩)⟩:=hown
 ·omega
 have hgl:=(Array.getElem?_eq_some_iff.1 e3).1
 have hg':w1.heap.size≤gg∨∃ o,Pv gg=some o:=by
  have hbb:gv'.ownBlock=some gg:=by rw [e1]; rfl
  rcases hbl with z | z
  ·exact .inr (b1 gg (by rw [← z]; exact hbb))
  ·rw [hbb] at z
   have:=Option.some.inj z
   exact .inl (by omega)
 refine ⟨by omega,fun b hb hp hW=>q1 b hb (by rw [← hWe]; exact hW) (hold b hb hp),fun b hW x st sm e hxx=>q2 b (by rw [← hWe]; exact hW) (hold b (Array.getElem?_eq_some_iff.1 hxx).1 (hPW (by rw [← hWe]; exact hW))) x st sm e hxx,⟨gg,cap,cur,e1,hget gg _ ?_ e3,e2,hg',e4,e5,by simpa using e6,by simpa using e7⟩,fun b o hp=>?_⟩
 ·rcases hg' with z | ⟨o,z⟩
  ·exact hHn gg z
  ·exact (hPH gg o z).1
 ·obtain ⟨z1,z2,c,z3⟩:=b2 b o hp
  obtain ⟨c',e',f',h1⟩:=hcl b z1
  exact ⟨c',e',f',hget b _ (hPH b o hp).1 h1⟩
theorem wpList_append_run {P:Program} {w w':World} {ops:Array Oper} {rest:List Oper} {o:Oper} {a:Act} {Q:Exit→Act→World→Prop} (hgd:o.guard=none) (s x:Operand) (t:TypeId) {v y v':Value}
  (ho:o.op=.call { callee:=.builtin .append,args:=#[s,x],argTypes:=#[t,t] }) (hs:a.eval s=v) (hx:a.eval x=y) (hrun:(Builtin.append_ #[t,t] o.type #[v,y]).run P w=.ok v' w') (h:wpList P ops Q rest (a.put o.dst v') w'):wpList P ops Q (o :: rest) a w :=
 wpList_plain hgd fun K hK=>by
  unfold Oper.wp execOp
  simp only [ho,resolve,invoke,builtin,Sem.run_bind,Sem.run_pure,Result.andThen_ok,List.map_toArray,List.map_cons,List.map_nil,hs,hx,hrun]
  exact hK _ _ h
noncomputable def rA10:Code:=match rA9 with | .seq _ x=>x | _=>.skip
noncomputable def hdA10:List Item:=[.code rA10,.inBlock 1,.code rA13,.inLoop rA,.inBlock 0,.code rB]
section
variable {h rb:Nat} {E:Env} {w w0:World} {F:Machine→Trace→Prop} {T:Array Value} {Pv:Nat→Option Obj} {ths:List Th}
theorem hire_append {N i gb:Nat} {gv bv:Value} {c:Frame} {cl:List Frame} (R:RegsA T rb gv N i bv) (t11:T[11]?=some (.pointer (some ⟨gb,0,none⟩))) (hgs:GS w0 gv Pv ths) (hpv:∀ b o,Pv b=some o→w.heap[b]?=some o∧E.H b=none∧E.W b=false) (h0:w0.heap.size≤w.heap.size) (h8:ths.length≤8)
  (hc:∀ E1 w1 w' gv' T',AtE h E w E1 w1→Listed E1 w0 w1 w' Pv gv' (ths.map (fun th=>.pointer (some ⟨th.gb,0,none⟩)) ++ [.pointer (some ⟨gb,0,none⟩)]) ths.length→RegsA T' rb gv' N i bv→T'[10]?=T[10]?→T'[11]?=T[11]?→Keep4 T T'→HG Try.prog h F E1 (G ((base 29).at ⟨T',[]⟩ hdA10) (c :: cl)) w') :
  HGn Try.prog h F E w 100 (G ((base 29).at ⟨T,[]⟩ hdA9) (c :: cl)):=by
 obtain ⟨hT,t7,t8,t25,t26,t27⟩:=R
 obtain ⟨f,rfl⟩:=arr121f T hT
 clear hT
 simp only [R121_get f (show 7 < 121 by decide),R121_get f (show 8 < 121 by decide),R121_get f (show 11 < 121 by decide),R121_get f (show 25 < 121 by decide),R121_get f (show 26 < 121 by decide),R121_get f (show 27 < 121 by decide),Option.some.injEq] at t7 t8 t11 t25 t26 t27
 change HGn Try.prog h F E w 100 (G ((base 29).at _ [.code xA9,.inBlock 1,.code rA13,.inLoop rA,.inBlock 0,.code rB]) (c :: cl))
 unfold hdA10 at hc
 generalize hLA:rA=LA at hc ⊢
 generalize hLB:rB=LB at hc ⊢
 generalize hL13:rA13=L13 at hc ⊢
 generalize hL10:rA10=L10 at hc
 simp only [xA9,rA9,rA,rHire,rBody,Try.f29,Option.getD_some,R121,t7,t8,t11,t25,t26,t27]
 refine Idl.q (idl_hg Try.prog h F E w) ?_
 refine HG.quiet (Q:=fun a' w' E1 w1=>∃ gv',Listed E1 w0 w1 w' Pv gv' (ths.map (fun th=>.pointer (some ⟨th.gb,0,none⟩)) ++ [.pointer (some ⟨gb,0,none⟩)]) ths.length∧RegsA a'.tmps rb gv' N i bv∧a'.tmps[10]?=(R121 f)[10]?∧a'.tmps[11]?=(R121 f)[11]?∧Keep4 (R121 f) a'.tmps) (by rfl) (by rfl) rfl (fun E1 w1 hA hf τ=>?_) (fun E1 w1 hA a' w' h1 h2 h3 ⟨gv',g1,g2,g3,g4,g5⟩=>?_)
 ·have xh:(rt (vw E1.H w1) τ 0).heap=(vw E1.H w1).heap:=rfl
  have hPH:∀ b o,Pv b=some o→E1.H b=none∧w1.heap[b]?=some o:=fun b o e=>by
   obtain ⟨p1,p2,p3⟩:=hpv b o e
   exact ⟨by rw [hA.1.H']; exact p2,by rw [hA.2.heap b p3]; exact p1⟩
  have hxv:∀ b o,Pv b=some o→(rt (vw E1.H w1) τ 0).heap[b]?=some o:=fun b o e=>by
   rw [xh,vw_get_none (hPH b o e).1]; exact (hPH b o e).2
  have h01:w0.heap.size≤w1.heap.size:=by rw [hA.2.size]; exact h0
  have hsz:(rt (vw E1.H w1) τ 0).heap.size=w1.heap.size:=by simp
  generalize (rt (vw E1.H w1) τ 0)=x at xh hxv hsz ⊢
  obtain ⟨v',W',hrun,hown,hgr,hbl,hcl⟩:=append_gates (W:=x.alloc (.cells #[.pointer (some ⟨gb,0,none⟩)] 49)) (nb:=x.heap.size) (p:=.pointer (some ⟨gb,0,none⟩)) hgs (fun b o e=>by rw [alloc_old (Array.getElem?_eq_some_iff.1 (hxv b o e)).1]; exact hxv b o e) (obj_cell alloc_new rfl) rfl h8 (by rw [alloc_size,hsz]; omega)
  rw [alloc_size,hsz] at hbl
  clear hc
  rw [hsz] at hrun
  go_wp2_with (at_builtin; refine wpList_append_run rfl _ _ 105 rfl rfl rfl hrun ?_)
  refine fun w' τ' d he hF hf'=>⟨v',listed_of hgs rfl hF hf hf' hPH xh h01 hgr hown hbl hcl (congrArg World.heap he),⟨by simp,by simp,by simp,by simp,by simp,by simp⟩,by simp [R121],by simp [R121,t11],fun x hx=>?_⟩
  rcases hx with rfl | rfl | rfl | rfl <;> first | rfl | simp [R121,t7]
 ·obtain ⟨tm,df⟩:=a'
  have hd:df=[]:=h1
  subst hd
  subst hLA hLB hL13
  have:=hc E1 w1 w' gv' _ hA g1 g2 g3 g4 g5
  subst hL10
  exact this
end
end Go.Proofs.Ytimlbbleblijnaa.Co
