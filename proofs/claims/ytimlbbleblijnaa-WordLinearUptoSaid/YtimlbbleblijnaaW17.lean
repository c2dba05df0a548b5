/- Lemmas for the laws of this seat, laid together of PGbv, PGca, PGcb, PGcc, PGce, PGcf. -/
import Derived.Test.YtimlbbleblijnaaW15
import Derived.Test.YtimlbbleblijnaaW16
import Derived.Deep.AppendLies
import Derived.WalkKit
import Derived.Below
import Derived.WalkSmall
import Derived.Handy

set_option linter.unusedVariables false
set_option linter.unusedSimpArgs false
set_option maxRecDepth 100000
set_option maxHeartbeats 4000000
namespace Go.Proofs.Ytimlbbleblijnaa.Co
open Go Go.Conc
open Go.ConcN (sumTo upd sumTo_upd upd_ne upd_same sumTo_congr le_sumTo)
section
variable {h rb mb t i b:Nat} {home:Goroutine→Prop} {k n:Int} {th:Th} {F:Machine→Trace→Prop} {E:Env} {w:World} {s:PS} {K:Nat→Obj→Prop} {L:List PT} {p:PT} {Tr:Array Value}
variable {b₀:Frame} {a₀:Act} {ops₀:Array Oper} {i₀:Nat} {rest₀:List Nat} {k₀:List Item} {cl:List Frame}
theorem RegsP.up {T':Array Value} (R:RegsP Tr th.gb p mb i) (hs:T'.size=27) (h:∀ j,j < 14→T'[j]?=Tr[j]?):RegsP T' th.gb p mb i :=
  ⟨hs,(h 0 (by decide)).trans R.t0,(h 2 (by decide)).trans R.t2,(h 3 (by decide)).trans R.t3,R.t7.imp (fun z=>(h 7 (by decide)).trans z) id,(h 8 (by decide)).trans R.t8,(h 9 (by decide)).trans R.t9⟩
end
end Go.Proofs.Ytimlbbleblijnaa.Co

namespace Go.Proofs.Ytimlbbleblijnaa.Co
open Go Go.Conc
def nx (alive:Nat→Bool) (n:Nat):Nat→Nat→Option Nat
  | 0,_=>none
  | m+1,x=>if alive x then some x else nx alive n m ((x+1) % n)
theorem nx_snoc (alive:Nat→Bool) (n:Nat):∀ m x,x < n→nx alive n (m+1) x=match nx alive n m x with
    | some t=>some t
    | none=>if alive ((x+m) % n) then some ((x+m) % n) else none
  | 0,x,hx=>by simp [nx,Nat.mod_eq_of_lt hx]
  | m+1,x,hx=>by
    have hn:0 < n:=by omega
    rw [nx]
    cases ha:alive x with
    | true=>simp [nx,ha]
    | false =>
      have ih:=nx_snoc alive n m ((x+1) % n) (Nat.mod_lt _ hn)
      simp only [Bool.false_eq_true,if_false]
      rw [ih]
      have e:((x+1) % n+m) % n=(x+(m+1)) % n:=by rw [Nat.mod_add_mod]; congr 1; omega
      rw [e]
      have e2:nx alive n (m+1) x=nx alive n m ((x+1) % n):=by rw [nx,ha]; simp
      rw [e2]
theorem nx_skip {alive:Nat→Bool} {n x:Nat} (hx:x < n) (ha:alive x=false):nx alive n n x=nx alive n n ((x+1) % n):=by
  obtain ⟨m,rfl⟩:∃ m,n=m+1:=⟨n - 1,by omega⟩
  rw [nx_snoc alive (m+1) m ((x+1) % (m+1)) (Nat.mod_lt _ (by omega))]
  have e:((x+1) % (m+1)+m) % (m+1)=x:=by
    rw [Nat.mod_add_mod,show x+1+m=x+(m+1) by omega,Nat.add_mod_right,Nat.mod_eq_of_lt hx]
  rw [e,ha,nx,ha]
  simp only [Bool.false_eq_true,if_false]
  cases nx alive (m+1) m ((x+1) % (m+1)) <;> rfl
theorem nx_none {alive:Nat→Bool} {n:Nat}:∀ {m x:Nat},x < n→(∀ t,t < n→alive t=false)→nx alive n m x=none
  | 0,_,_,_=>rfl
  | m+1,x,hx,h=>by
    rw [nx,h x hx]
    simp only [Bool.false_eq_true,if_false]
    exact nx_none (Nat.mod_lt _ (by omega)) h
theorem nx_some {alive:Nat→Bool} {n t:Nat}:∀ {m x:Nat},x < n→nx alive n m x=some t→t < n∧alive t=true
  | 0,_,_,h=>by cases h
  | m+1,x,hx,h=>by
    rw [nx] at h
    by_cases ha:alive x=true
    · rw [if_pos ha] at h
      cases h
      exact ⟨hx,ha⟩
    · rw [if_neg ha] at h
      exact nx_some (Nat.mod_lt _ (by omega)) h
structure Game (A:Type) where
  n:Nat
  alive:A→Nat→Bool
  pick:A→Nat→Int→A
section
variable {A:Type} (G:Game A)
def Game.pk (a:A × Int) (t:Nat):A × Int:=(if G.alive a.1 t then G.pick a.1 t (a.2+1) else a.1,a.2+1)
def Game.picks (a:A × Int) (l:List Int):A × Int:=l.foldl (fun a p=>G.pk a (pickIx p G.n)) a
inductive Game.Drn:A × Int→Nat→A × Int→Prop
  | stop {a x} (h:nx (G.alive a.1) G.n G.n x=none):Drn a x a
  | go {a x t z} (h:nx (G.alive a.1) G.n G.n x=some t) (d:Drn (G.pick a.1 t (a.2+1),a.2+1) ((t+1) % G.n) z):Drn a x z
def Game.Run (picks:List Int) (drain:Bool) (a:A) (z:A × Int):Prop :=
  if G.n=0 then z=(a,0) else if drain then G.Drn (G.picks (a,0) picks) 0 z else z=G.picks (a,0) picks
variable {G}
theorem Game.Drn.ex (wt:A→Nat) (hw:∀ a t k,t < G.n→G.alive a t=true→wt (G.pick a t k) < wt a):∀ (f:Nat) (a:A × Int) (x:Nat),x < G.n→wt a.1 < f→∃ z,G.Drn a x z
  | 0,a,x,_,h=>absurd h (by omega)
  | f+1,a,x,hx,h=>by
    cases e:nx (G.alive a.1) G.n G.n x with
    | none=>exact ⟨a,.stop e⟩
    | some t =>
      obtain ⟨h1,h2⟩:=nx_some hx e
      have h3:=hw a.1 t (a.2+1) h1 h2
      obtain ⟨z,hz⟩:=Game.Drn.ex wt hw f (G.pick a.1 t (a.2+1),a.2+1) ((t+1) % G.n) (Nat.mod_lt _ (by omega)) (by dsimp only; omega)
      exact ⟨z,.go e hz⟩
theorem Game.Run.ex (wt:A→Nat) (hw:∀ a t k,t < G.n→G.alive a t=true→wt (G.pick a t k) < wt a) (picks:List Int) (drain:Bool) (a:A):∃ z,G.Run picks drain a z:=by
  unfold Game.Run
  by_cases hn:G.n=0
  · exact ⟨_,by rw [if_pos hn]⟩
  · simp only [if_neg hn]
    cases drain with
    | true =>
      simp only [if_true]
      exact Game.Drn.ex wt hw _ _ 0 (by omega) (Nat.lt_succ_self _)
    | false=>exact ⟨G.picks (a,0) picks,by simp⟩
theorem Game.Drn.skip {a z:A × Int} {x:Nat} (hx:x < G.n) (ha:G.alive a.1 x=false) (h:G.Drn a ((x+1) % G.n) z):G.Drn a x z:=by
  have e:=nx_skip hx ha
  cases h with
  | stop h=>exact .stop (by rw [e]; exact h)
  | go h d=>exact .go (by rw [e]; exact h) d
theorem Game.Drn.take {a z:A × Int} {x:Nat} (hx:x < G.n) (ha:G.alive a.1 x=true) (h:G.Drn (G.pick a.1 x (a.2+1),a.2+1) ((x+1) % G.n) z):G.Drn a x z:=by
  refine .go ?_ h
  obtain ⟨m,e⟩:∃ m,G.n=m+1:=⟨G.n - 1,by omega⟩
  rw [e,nx,if_pos ha]
end
section
variable {σ Λ A:Type}
structure Sim (D:Prot σ Λ) (G:Game A) (R:RS σ Λ→A→Prop):Prop where
  len:∀ x a,R x a→x.1.length=G.n
  alive:∀ x a,R x a→∀ t,t < G.n→aliveB x.1[t]?=G.alive a t
  pick:∀ x a x' t,R x a→t < G.n→aliveB x.1[t]?=true→PickR D t x x'→R x' (G.pick a t (x.2.2+1))
  idle:∀ x a,R x a→R (x.1,x.2.1,x.2.2+1) a
variable {D:Prot σ Λ} {G:Game A} {R:RS σ Λ→A→Prop}
theorem pickR_dead {t:Nat} {x x':RS σ Λ} (h:PickR D t x x') (ha:aliveB x.1[t]?=false):x'=(x.1,x.2.1,x.2.2+1):=by
  unfold PickR at h
  cases e:x.1[t]? with
  | none=>simpa [e] using h
  | some o =>
    cases o with
    | none=>simpa [e] using h
    | some y=>rw [e] at ha; cases ha
theorem pickR_other {t t':Nat} {x x':RS σ Λ} (h:PickR D t x x') (hne:t≠t'):x'.1[t']?=x.1[t']?:=by
  unfold PickR at h
  split at h
  · obtain ⟨n,s',o,_,_,rfl⟩:=h
    simp [List.getElem?_set_ne hne]
  · rw [h]
theorem Sim.pk (S:Sim D G R) {x x':RS σ Λ} {a:A} {t:Nat} (hr:R x a) (ht:t < G.n) (h:PickR D t x x'):R x' (G.pk (a,x.2.2) t).1∧x'.2.2=(G.pk (a,x.2.2) t).2:=by
  refine ⟨?_,pickR_k h⟩
  unfold Game.pk
  dsimp only
  cases e:aliveB x.1[t]? with
  | true =>
    rw [if_pos (by rw [← S.alive x a hr t ht]; exact e)]
    exact S.pick x a x' t hr ht e h
  | false =>
    rw [if_neg (by rw [← S.alive x a hr t ht,e]; simp),pickR_dead h e]
    exact S.idle x a hr
theorem Sim.picks (S:Sim D G R) {n:Nat} (hn:n=G.n) (hN:0 < n) {l:List Int} {x x':RS σ Λ} (h:PicksR D n l x x'):∀ a,R x a→R x' (G.picks (a,x.2.2) l).1∧x'.2.2=(G.picks (a,x.2.2) l).2:=by
  induction h with
  | nil x=>exact fun a hr=>⟨hr,rfl⟩
  | @cons p l x x' x'' h t ih =>
    intro a hr
    obtain ⟨h1,h2⟩:=S.pk hr (by rw [← hn]; exact pickIx_lt p hN) h
    obtain ⟨h3,h4⟩:=ih _ h1
    rw [h2] at h3 h4
    have e:G.picks (a,x.2.2) (p :: l)=G.picks ((G.pk (a,x.2.2) (pickIx p n)).1,(G.pk (a,x.2.2) (pickIx p n)).2) l:=by
      unfold Game.picks
      rw [List.foldl_cons,← hn]
    rw [e]
    exact ⟨h3,h4⟩
theorem Sim.turns (S:Sim D G R) {m:Nat}:∀ {i:Nat} {y y':RS σ Λ × Bool},i+m=G.n→TurnsR D (List.range' i m) y y'→∀ a,R y.1 a→(y.2=false→∀ t,t < i→aliveB y.1.1[t]?=false) →
    ∃ a',R y'.1 a'∧(y'.2=false→∀ t,t < G.n→aliveB y'.1.1[t]?=false)∧∀ z,G.Drn (a',y'.1.2.2) 0 z→G.Drn (a,y.1.2.2) (i % G.n) z:=by
  induction m with
  | zero =>
    intro i y y' hi h a hr hd
    cases h
    refine ⟨a,hr,fun e t ht=>hd e t (by omega),fun z hz=>?_⟩
    have:i % G.n=0:=by rw [show i=G.n by omega]; exact Nat.mod_self _
    rw [this]; exact hz
  | succ m ih =>
    intro i y y' hi h a hr hd
    rw [List.range'_succ] at h
    cases h with
    | @cons _ _ _ y1 _ h t =>
      have hin:i < G.n:=by omega
      have hm:i % G.n=i:=Nat.mod_eq_of_lt hin
      rcases h with ⟨ha,hp,hb⟩ | ⟨ha,rfl⟩
      · have hr1:=S.pick _ _ _ _ hr hin ha hp
        obtain ⟨a',r1,r2,r3⟩:=ih (by omega) t _ hr1 (fun e t' ht=>by
          rw [hb,Bool.or_eq_false_iff] at e
          rcases Nat.lt_or_ge t' i with z | z
          · rw [pickR_other hp (by omega)]; exact hd e.1 t' z
          · rw [show t'=i by omega]; exact e.2)
        refine ⟨a',r1,r2,fun z hz=>?_⟩
        rw [hm]
        refine .take hin (by rw [← S.alive _ _ hr i hin]; exact ha) ?_
        have:=r3 z hz
        rw [pickR_k hp] at this
        exact this
      · obtain ⟨a',r1,r2,r3⟩:=ih (by omega) t _ hr (fun e t' ht=>by
          rcases Nat.lt_or_ge t' i with z | z
          · exact hd e t' z
          · rw [show t'=i by omega]; exact ha)
        refine ⟨a',r1,r2,fun z hz=>?_⟩
        rw [hm]
        exact .skip hin (by rw [← S.alive _ _ hr i hin]; exact ha) (r3 z hz)
theorem Sim.drain (S:Sim D G R) {n:Nat} (hn:n=G.n) (hN:0 < n) {x x':RS σ Λ} (h:DrainR D n x x'):∀ a,R x a→∃ a',R x' a'∧G.Drn (a,x.2.2) 0 (a',x'.2.2):=by
  subst hn
  have e0:List.range G.n=List.range' 0 G.n:=List.range_eq_range'
  induction h with
  | @last x y h e =>
    intro a hr
    unfold RoundR at h
    rw [e0] at h
    obtain ⟨a',r1,r2,r3⟩:=S.turns (by omega) h a hr (fun _ t ht=>absurd ht (by omega))
    refine ⟨a',r1,?_⟩
    have:=r3 (a',y.1.2.2) (.stop (nx_none hN fun t ht=>by rw [← S.alive _ _ r1 t ht]; exact r2 e t ht))
    rw [Nat.zero_mod] at this
    exact this
  | @more x y z h e t ih =>
    intro a hr
    unfold RoundR at h
    rw [e0] at h
    obtain ⟨a',r1,r2,r3⟩:=S.turns (by omega) h a hr (fun _ t ht=>absurd ht (by omega))
    obtain ⟨a2,q1,q2⟩:=ih a' r1
    refine ⟨a2,q1,?_⟩
    have:=r3 _ q2
    rw [Nat.zero_mod] at this
    exact this
theorem Sim.run (S:Sim D G R) {bs:List (Body σ Λ)} {picks:List Int} {drain:Bool} {s:σ} {z:σ × Int} (hz:RunR D bs picks drain s z) (hn:bs.length=G.n) (a:A) (hst:∀ x0,StartR bs ([],s) x0→R (x0.1,x0.2,0) a) (h0:bs.length=0→R ([],s,0) a) :
    ∃ a' st,R (st,z.1,z.2) a'∧G.Run picks drain a (a',z.2):=by
  unfold RunR at hz
  by_cases hb:bs.length=0
  · rw [if_pos hb] at hz
    subst hz
    refine ⟨a,[],h0 hb,?_⟩
    unfold Game.Run
    rw [if_pos (by omega)]
  · rw [if_neg hb] at hz
    obtain ⟨x0,x1,x2,z0,z1,z2,rfl⟩:=hz
    obtain ⟨p1,p2⟩:=S.picks hn (by omega) z1 a (hst x0 z0)
    have hn0:¬ G.n=0:=by omega
    unfold Game.Run
    simp only [if_neg hn0]
    unfold DrainB at z2
    cases drain with
    | true =>
      simp only [if_true] at z2 ⊢
      obtain ⟨a',q1,q2⟩:=S.drain hn (by omega) z2 _ p1
      refine ⟨a',x2.1,q1,?_⟩
      rw [p2] at q2
      exact q2
    | false =>
      simp only [Bool.false_eq_true,if_false] at z2 ⊢
      subst z2
      exact ⟨(G.picks (a,0) picks).1,x2.1,p1,by rw [p2]⟩
end
end Go.Proofs.Ytimlbbleblijnaa.Co

namespace Go.Proofs.Ytimlbbleblijnaa.Co
open Go Go.Conc Go.RowKit
noncomputable def qBody:Code:=Try.f21.body.getD .skip
noncomputable def q0:Code:=match qBody with | .seq x _=>x | _=>.skip
noncomputable def q1:Code:=match qBody with | .seq _ (.seq x _)=>x | _=>.skip
noncomputable def q2:Code:=match qBody with | .seq _ (.seq _ (.seq x _))=>x | _=>.skip
noncomputable def q3:Code:=match qBody with | .seq _ (.seq _ (.seq _ (.seq x _)))=>x | _=>.skip
noncomputable def q4:Code:=match qBody with | .seq _ (.seq _ (.seq _ (.seq _ x)))=>x | _=>.skip
theorem info52:∃ i:TypeInfo,Try.prog.info? 52=some i∧i.zero=some (.nilFunc)∧i.size=1∧i.bytes=8:=by
  have h:(Try.prog.info? 52).isSome=true:=by kernel_rfl
  obtain ⟨i,hi⟩:=Option.isSome_iff_exists.1 h
  have h2:(Try.prog.info? 52).map (fun i=>(i.zero,i.size,i.bytes))=some (some (.nilFunc),1,8):=by kernel_rfl
  rw [hi] at h2
  simp only [Option.map_some,Option.some.injEq,Prod.mk.injEq] at h2
  exact ⟨i,hi,h2.1,h2.2.1,h2.2.2⟩
def clo (LB TB:Nat→Nat) (mb i:Nat):Value:=.func (.func 67) #[] #[.pointer (some ⟨LB i,0,none⟩),.pointer (some ⟨mb,0,none⟩),.pointer (some ⟨TB i,0,none⟩)]
def natOfV:Value→Nat
  | .int _ i=>i.toNat
  | _=>0
end Go.Proofs.Ytimlbbleblijnaa.Co

namespace Go.Proofs.Ytimlbbleblijnaa.Co
open Go Go.Conc
theorem arrfv {n:Nat} (T:Array Value) (h:T.size=n):∃ f:Nat→Value,T=(List.map f (List.range n)).toArray∧∀ j v,T[j]?=some v→f j=v:=by
  obtain ⟨f,hf⟩:=arrf T h
  refine ⟨f,hf,fun j v e=>?_⟩
  have hj:j < n:=by rw [← h]; exact (Array.getElem?_eq_some_iff.1 e).1
  rw [hf,arrf_get f hj] at e
  exact Option.some.inj e
section
variable {P:Program} {h:Nat} {F:Machine→Trace→Prop} {E:Env} {w:World} {Fs:FuncId→Bool}
theorem HG.quietS (S:Nat→Prop) (hS:∀ b,S b→E.H b=none) (hC:Closed P Fs) {fr:Frame} {a:Act} {k:List Item} {cs:List Frame} {c:Code} {Q:Act→World→World→Prop} (hq:quietCode P Fs c=true) (hk:fr.kind=.normal) (ha:a.defers=[])
    (hwp:∀ x:World,x.heap.size=w.heap.size→(∀ b,E.H b=none→x.heap[b]?=w.heap[b]?)→c.wp P (fun e a' x'=>e=.normal∧a'.defers=[]∧(∀ b,b < x.heap.size→¬ S b→x'.heap[b]?=x.heap[b]?)∧Q a' x x') a x)
    (hg:∀ (E1:Env) (w':World) (a':Act) (x x':World),E.Eq h E1→a'.defers=[]→x.heap.size=w.heap.size→(∀ b,E.H b=none→x.heap[b]?=w.heap[b]?)→x'.heap.size=w'.heap.size→(∀ b,E.H b=none→w'.heap[b]?=x'.heap[b]?)→Kept h none E w E1 w'→(∀ b,w.heap.size≤b→E.H b=none)→(∀ b,b < x.heap.size→¬ S b→x'.heap[b]?=x.heap[b]?)→Q a' x x'→HG P h F E1 (G (fr.at a' k) cs) w'):HG P h F E (G (fr.at a (.code c :: k)) cs) w:=by
  refine HG.withH fun hWH _=>?_
  have hWn:∀ b,E.H b=none→E.W b=false:=fun b hb=>by
    cases e:E.W b with
    | false=>rfl
    | true=>have:=hWH b e; rw [hb] at this; cases this
  have pre:∀ E1 w1,AtE h E w E1 w1→∀ τ,(rt (vw E1.H w1) τ 0).heap.size=w.heap.size∧∀ b,E.H b=none→(rt (vw E1.H w1) τ 0).heap[b]?=w.heap[b]?:=fun E1 w1 hA τ=>by
    refine ⟨by show (vw E1.H w1).heap.size=_; simp [hA.2.size],fun b hb=>?_⟩
    show (vw E1.H w1).heap[b]?=_
    rw [vw_get_none (by rw [hA.1.H']; exact hb),hA.2.heap b (hWn b hb)]
  refine HG.quietF hC (Q:=fun a' w' E1 w1=>∃ x x':World,(x.heap.size=w.heap.size∧∀ b,E.H b=none→x.heap[b]?=w.heap[b]?)∧x.heap=(vw E1.H w1).heap∧x'.heap=(vw E1.H w').heap∧Far E1.H E1.W w1 w'∧Fit E1.H E1.W w1∧(∀ b,b < x.heap.size→¬ S b→x'.heap[b]?=x.heap[b]?)∧Q a' x x') hq hk ha (fun E1 w1 hA hf τ=>?_) (fun E1 w1 hA a' w' h1 h2 h3 hqq=>?_)
  · obtain ⟨p1,p2⟩:=pre E1 w1 hA τ
    refine Code.wp_mono (fun e a' x' ⟨q1,q2,q3,q4⟩=>⟨q1,q2,fun w' τ' d he hF hf'=>⟨_,x',⟨p1,p2⟩,rfl,by rw [he]; rfl,hF,hf,q3,q4⟩⟩) (hwp _ p1 p2)
  · obtain ⟨x,x',⟨p1,p2⟩,e1,e2,hF,hf,q3,q4⟩:=hqq
    have hH:E1.H=E.H:=hA.1.H'
    have hold:∀ c,c < w1.heap.size→¬ S c→(vw E1.H w').heap[c]?=(vw E1.H w1).heap[c]?:=fun c hc hn=>by
      rw [← e2,← e1]
      exact q3 c (by rw [e1]; simpa using hc) hn
    have hk2:=quiet_kept (j:=h) (gb:=none) hF hf (S:=S) (fun c hc=>by rw [hH]; exact hS c hc) hold
    refine hg E1 w' a' x x' hA.1 h1 p1 p2 (by rw [e2]; simp) (fun b hb=>by rw [e2,vw_get_none (by rw [hH]; exact hb)]) ((Kept.of_at hA).trans hk2.1) (fun b hb=>?_) q3 q4
    rw [← hH]
    exact hf.bound b (by rw [hA.2.size]; exact hb)
end
end Go.Proofs.Ytimlbbleblijnaa.Co

namespace Go.Proofs.Ytimlbbleblijnaa.Co
open Go Go.Conc Go.RowKit
noncomputable def nBody:Code:=Try.f29.body.getD .skip
noncomputable def n0:Code:=match nBody with | .seq x _=>x | _=>.skip
noncomputable def n1:Code:=match nBody with | .seq _ (.seq x _)=>x | _=>.skip
noncomputable def n2:Code:=match nBody with | .seq _ (.seq _ x)=>x | _=>.skip
noncomputable def y0:Code:=n0
noncomputable def y1:Code:=n1
section
variable {h:Nat} {F:Machine→Trace→Prop} {E:Env} {w:World} {b₀:Frame} {a₀:Act} {ops₀:Array Oper} {i₀:Nat} {rest₀:List Nat} {k₀:List Item} {cl:List Frame}
noncomputable def q5:Code:=match q4 with | .seq _ x=>x | _=>.skip
noncomputable def q6:Code:=match q5 with | .seq x _=>x | _=>.skip
end
end Go.Proofs.Ytimlbbleblijnaa.Co

namespace Go.Proofs.Ytimlbbleblijnaa.Co
open Go Go.Conc Go.RowKit
open Go.ConcN (sumTo upd sumTo_upd upd_ne upd_same sumTo_congr le_sumTo)
abbrev Op3:=Int × Int × Int
structure OpsAt (E:Env) (w:World) (tv:Value) (ts:List (List Op3)):Prop where
  at_:∃ (ta:Option Addr) (ba bo cap:Nat) (LA:Nat→Option Addr) (LC:Nat→Nat),tv=.slice ta ts.length cap∧(0 < ts.length→ta=some ⟨ba,bo,none⟩)∧∀ i l,ts[i]?=some l →
    (w.cell? ⟨ba,bo+i,none⟩=some (.slice (LA i) l.length (LC i))∧E.H ba=none)∧(l≠[]→∃ la lo,LA i=some ⟨la,lo,none⟩∧E.H la=none∧∀ j op,l[j]?=some op →
      w.cell? ⟨la,lo+j * 3,none⟩=some (.int .i64 op.1)∧w.cell? ⟨la,lo+j * 3+1,none⟩=some (.int .i64 op.2.1)∧w.cell? ⟨la,lo+j * 3+2,none⟩=some (.int .i64 op.2.2))
structure IntsAt (E:Env) (w:World) (pv:Value) (ps:List Int):Prop where
  at_:∃ (pa:Option Addr) (pb po cap:Nat),pv=.slice pa ps.length cap∧(ps≠[]→pa=some ⟨pb,po,none⟩)∧∀ i p,ps[i]?=some p→w.cell? ⟨pb,po+i,none⟩=some (.int .i64 p)∧E.H pb=none
def Stands (E:Env) (w:World) (E':Env) (w':World):Prop:=∀ b o,E.H b=none→w.heap[b]?=some o→E'.H b=none∧w'.heap[b]?=some o
theorem Stands.cell {E E':Env} {w w':World} (S:Stands E w E' w') {a:Addr} {v:Value} (h:w.cell? a=some v) (hH:E.H a.block=none):w'.cell? a=some v∧E'.H a.block=none:=by
  have hl:=World.block_lt_of_cell? w _ h
  obtain ⟨s1,s2⟩:=S a.block _ hH (Array.getElem?_eq_getElem hl)
  exact ⟨(World.cell?_of_block (by rw [s2,Array.getElem?_eq_getElem hl])).trans h,s1⟩
theorem Stands.trans {E E' E2:Env} {w w' w2:World} (S:Stands E w E' w') (S2:Stands E' w' E2 w2):Stands E w E2 w2:=fun b o h1 h2=>by
  obtain ⟨a1,a2⟩:=S b o h1 h2
  exact S2 b o a1 a2
theorem OpsAt.stands {E E':Env} {w w':World} {tv:Value} {ts:List (List Op3)} (h:OpsAt E w tv ts) (S:Stands E w E' w'):OpsAt E' w' tv ts:=by
  obtain ⟨ta,ba,bo,cap,LA,LC,h1,h2,h3⟩:=h.at_
  refine ⟨ta,ba,bo,cap,LA,LC,h1,h2,fun i l hi=>?_⟩
  obtain ⟨⟨q1,q2⟩,q3⟩:=h3 i l hi
  refine ⟨S.cell q1 q2,fun hne=>?_⟩
  obtain ⟨la,lo,e1,e2,e3⟩:=q3 hne
  by_cases hE:E'.H la=none
  · exact ⟨la,lo,e1,hE,fun j op hj=>⟨(S.cell (e3 j op hj).1 e2).1,(S.cell (e3 j op hj).2.1 e2).1,(S.cell (e3 j op hj).2.2 e2).1⟩⟩
  · cases l with
    | nil=>exact absurd rfl hne
    | cons op l=>exact absurd (S.cell (e3 0 op rfl).1 e2).2 hE
theorem IntsAt.stands {E E':Env} {w w':World} {pv:Value} {ps:List Int} (h:IntsAt E w pv ps) (S:Stands E w E' w'):IntsAt E' w' pv ps:=by
  obtain ⟨pa,pb,po,cap,h1,h2,h3⟩:=h.at_
  exact ⟨pa,pb,po,cap,h1,h2,fun i p hi=>S.cell (h3 i p hi).1 (h3 i p hi).2⟩
structure PA where
  ms:List Mk
  cnt:Nat→Nat
def nOf (ts:List (List Op3)) (t i:Nat):Int:=(((ts[t]?).bind (·[i]?)).map (·.2.2)).getD 0
def lenOf (ts:List (List Op3)) (t:Nat):Nat:=((ts[t]?).map (·.length)).getD 0
def playG (ts:List (List Op3)):Game PA where
  n:=ts.length
  alive a t:=decide (a.cnt t < lenOf ts t)
  pick a t k:=⟨a.ms ++ [((t:Int),k,(a.cnt t:Int),nOf ts t (a.cnt t))],upd a.cnt t (a.cnt t+1)⟩
def ptOf (ts:List (List Op3)) (LB TB LA LO LC:Nat→Nat):List PT:=(List.range ts.length).map fun i=>⟨TB i,LB i,LA i,LO i,LC i,ts.getD i []⟩
theorem ptOf_get {ts:List (List Op3)} {LB TB LA LO LC:Nat→Nat} {i:Nat} (hi:i < ts.length):(ptOf ts LB TB LA LO LC)[i]?=some ⟨TB i,LB i,LA i,LO i,LC i,ts.getD i []⟩:=by
  unfold ptOf
  rw [List.getElem?_map,List.getElem?_range hi]
  rfl
theorem ptOf_len {ts:List (List Op3)} {LB TB LA LO LC:Nat→Nat}:(ptOf ts LB TB LA LO LC).length=ts.length:=by simp [ptOf]
theorem getD_of {ts:List (List Op3)} {i:Nat} {l:List Op3} (h:ts[i]?=some l):ts.getD i []=l:=by simp [List.getD,h]
theorem opLen_of (ts:List (List Op3)) (LB TB LA LO LC:Nat→Nat) (t:Nat):opLen (ptOf ts LB TB LA LO LC) t=lenOf ts t:=by
  unfold opLen lenOf
  by_cases h:t < ts.length
  · rw [ptOf_get h,List.getElem?_eq_getElem h]
    simp [List.getD,List.getElem?_eq_getElem h]
  · rw [List.getElem?_eq_none (by rw [ptOf_len]; omega),List.getElem?_eq_none (by omega)]
    rfl
end Go.Proofs.Ytimlbbleblijnaa.Co
