/- Lemmas for the laws of this seat, laid together of PGbr, PGbs, PGbt, PGbu, PGbv, PGca. -/
import Derived.Test.YtimlbbleblijnaaX15

set_option linter.unusedVariables false
set_option linter.unusedSimpArgs false
set_option maxRecDepth 100000
set_option maxHeartbeats 4000000
namespace Go.Proofs.Ytimlbbleblijnaa.Co
open Go Go.Conc
open Go.ConcN (sumTo upd sumTo_upd upd_ne upd_same sumTo_congr le_sumTo)
structure PT where
 tb:Nat
 lb:Nat
 la:Nat
 lo:Nat
 cap:Nat
 ops:List (Int × Int × Int)
structure PS where
 ms:List Mk
 obs:List (Nat × Int)
 cnt:Nat→Nat
structure PL where
 t:Nat
 i:Nat
 b:Nat
def opN (L:List PT) (t i:Nat):Option Int:=(L[t]?).bind fun p=>(p.ops[i]?).map (·.2.2)
def opLen (L:List PT) (t:Nat):Nat:=((L[t]?).map (·.ops.length)).getD 0
def KC (K:Nat→Obj→Prop) (a:Addr) (v:Value):Prop:=∃ o,K a.block o∧∀ w:World,w.heap[a.block]?=some o→w.cell? a=some v
structure PlayM (mb:Nat) (K:Nat→Obj→Prop) (L:List PT) (s:PS) (E:Env) (w:World):Prop where
 mbH:E.H mb=none
 kobj:∀ b o,K b o→w.heap[b]?=some o∧E.H b=none∧b≠mb
 row:∃ mv,w.heap[mb]?=some (.cells #[mv] 27)∧w.ownsRow (mb+1) 37 4 mv s.ms.length (mksV s.ms)∧∀ g,mv.ownBlock=some g→E.H g=none∧(∀ ob ∈ s.obs,ob.1≠g)∧∀ b o,K b o→b≠g
 obs:∀ ob ∈ s.obs,ob.1≠mb∧E.H ob.1=none∧w.cell? ⟨ob.1,2,none⟩=some (.int .i64 ob.2)
 len:s.ms.length=sumTo L.length s.cnt
 cnt:∀ t,s.cnt t≤opLen L t
theorem PlayM.konst {mb:Nat} {K:Nat→Obj→Prop} {L:List PT} {s:PS} {E:Env} {w:World} (m:PlayM mb K L s E w) (a:Addr) (v:Value) (h:KC K a v):w.cell? a=some v∧E.H a.block=none∧a.block≠mb:=by
 obtain ⟨o,h1,h2⟩:=h
 obtain ⟨k1,k2,k3⟩:=m.kobj _ _ h1
 exact ⟨h2 w k1,k2,k3⟩
theorem ownsRow_same {w w':World} {B e sz n:Nat} {v:Value} {xs:List Value} (h:w.ownsRow B e sz v n xs) (hs:∀ g,v.ownBlock=some g→w'.heap[g]?=w.heap[g]?):w'.ownsRow B e sz v n xs:=by
 refine ⟨h.1,h.2.imp id fun ⟨g,cap,cur,e1,e2,e3,r⟩=>⟨g,cap,cur,e1,e2,?_,r⟩⟩
 rw [hs g (by rw [e1]; rfl)]; exact e3
theorem cell_hp {w w':World} {a:Addr} (h:w'.heap[a.block]?=w.heap[a.block]?):w'.cell? a=w.cell? a:=by
 unfold World.cell?; rw [h]
theorem cell_lt {w:World} {a:Addr} {v:Value} (h:w.cell? a=some v):a.block < w.heap.size:=World.block_lt_of_cell? w a h
def adv (L:List PT) (t i:Nat) (s:PS) (z:PS × Option PL):Prop :=
 (∃ b n,opN L t i=some n∧z=({ s with obs:=s.obs ++ [(b,n)] },some ⟨t,i,b⟩))∨(opLen L t=i∧z=(s,none))
def mark (s:PS) (t i:Nat) (k n:Int):PS:={ s with ms:=s.ms ++ [((t:Int),k,(i:Int),n)],cnt:=upd s.cnt t (i+1) }
def playD (mb:Nat) (K:Nat→Obj→Prop) (L:List PT):Prot PS PL where
 M:=PlayM mb K L
 next ℓ k s z:=∃ n,opN L ℓ.t ℓ.i=some n∧adv L ℓ.t (ℓ.i+1) (mark s ℓ.t ℓ.i k n) z
 fits ℓ s:=s.cnt ℓ.t=ℓ.i∧∃ n,opN L ℓ.t ℓ.i=some n∧(ℓ.b,n) ∈ s.obs
 who ℓ:=ℓ.t
 init t s:=∀ t',t≤t'→s.cnt t'=0
 mono:=fun ℓ k s s' o l2 h1 ⟨c2,n2,e2,m2⟩ hw ⟨n,hn,ha⟩=>by
  rcases ha with ⟨b,n',h3,h4⟩ | ⟨h3,h4⟩
  ·cases h4
   exact ⟨(upd_ne _ _ hw).trans c2,n2,e2,List.mem_append_left _ m2⟩
  ·cases h4
   exact ⟨(upd_ne _ _ hw).trans c2,n2,e2,m2⟩
 fresh:=fun ℓ k s s' l' h1 ⟨n,hn,ha⟩=>by
  rcases ha with ⟨b,n',h3,h4⟩ | ⟨h3,h4⟩
  ·cases h4
   exact ⟨⟨upd_same ..,n',h3,List.mem_append_right _ (List.mem_singleton.2 rfl)⟩,rfl⟩
  ·cases h4
 tal ℓ:=((ℓ.i:Int),0,0)
 closed:=fun s E w E' w' m hb=>by
  have hc:∀ {a v},w.cell? a=some v→E.H a.block=none→w'.cell? a=some v:=fun {a v} e1 e2=>(cell_hp (hb a.block (cell_lt e1) e2).2).trans e1
  obtain ⟨mv,r1,r2,r3⟩:=m.row
  have hl:=(Array.getElem?_eq_some_iff.1 r1).1
  refine ⟨(hb mb hl m.mbH).1,fun b o hk=>?_,⟨mv,by rw [(hb mb hl m.mbH).2]; exact r1,ownsRow_same r2 (fun g hg=>(hb g (r2.lt g hg).2 (r3 g hg).1).2),fun g hg=>⟨(hb g (r2.lt g hg).2 (r3 g hg).1).1,(r3 g hg).2⟩⟩,fun ob ho=>?_,m.len,m.cnt⟩
  ·obtain ⟨k1,k2,k3⟩:=m.kobj b o hk
   have hl:=(Array.getElem?_eq_some_iff.1 k1).1
   exact ⟨(hb b hl k2).2.trans k1,(hb b hl k2).1,k3⟩
  ·obtain ⟨k1,k2,k3⟩:=m.obs ob ho
   exact ⟨k1,(hb ob.1 (cell_lt k3) k2).1,hc k3 k2⟩
theorem quiet_kept {E:Env} {w w':World} {j:Nat} {gb:Option Nat} (hF:Far E.H E.W w w') (hfit:Fit E.H E.W w) {S:Nat→Prop} (hS:∀ c,S c→E.H c=none) (hold:∀ c,c < w.heap.size→¬ S c→(vw E.H w').heap[c]?=(vw E.H w).heap[c]?) :
  Kept j gb E w E w'∧∀ c,c < w.heap.size→¬ S c→E.W c=false→w'.heap[c]?=w.heap[c]?:=by
 obtain ⟨q1,q2⟩:=quiet_heap hF hfit
 refine ⟨⟨.refl j E,hF.size,fun b n hb hw _ hl=>q1 b hl hw (hold b hl (fun z=>by rw [hS b z] at hb; cases hb)),fun b hW x st sm e hx=>q2 b hW (hold b (Array.getElem?_eq_some_iff.1 hx).1 (fun z=>by have:=hfit.sub b hW; rw [hS b z] at this; cases this)) x st sm e hx,fun _ _ h=>.inl h,fun _ h=>.inl h⟩,fun c hl hn hW=>q1 c hl hW (hold c hl hn)⟩
theorem sumTo_le {f g:Nat→Nat}:∀ (n:Nat),(∀ i,f i≤g i)→sumTo n f≤sumTo n g
 | 0,_=>Nat.le_refl _
 | n+1,h=>Nat.add_le_add (sumTo_le n h) (h n)
structure RegsP (T:Array Value) (gb:Nat) (p:PT) (mb i:Nat):Prop where
 sz:T.size=27
 t0:T[0]?=some (.pointer (some ⟨gb,0,none⟩))
 t2:T[2]?=some (.pointer (some ⟨mb,0,none⟩))
 t3:T[3]?=some (.pointer (some ⟨p.tb,0,none⟩))
 t7:T[7]?=some (.slice (some ⟨p.la,p.lo,none⟩) p.ops.length p.cap)∨p.ops=[]
 t8:T[8]?=some (.int .i64 (p.ops.length:Int))
 t9:T[9]?=some (.int .i64 (i:Int))
section
variable {h rb mb t i b:Nat} {home:Goroutine→Prop} {k n:Int} {th:Th} {F:Machine→Trace→Prop} {E:Env} {w:World} {s:PS} {K:Nat→Obj→Prop} {L:List PT} {p:PT} {T:Array Value} {c:Frame} {cl:List Frame}
theorem playM_mark {E1:Env} {w1 w' x x':World} {mv:Value} (m:PlayM mb K L s E1 w1) (hF:Far E1.H E1.W w1 w') (hfit:Fit E1.H E1.W w1) (hx:x.heap=(vw E1.H w1).heap) (hx':x'.heap=(vw E1.H w').heap) (hmv:w1.heap[mb]?=some (.cells #[mv] 27)) (hi:s.cnt t=i) (hn:i < opLen L t∧t < L.length) (M:Marked (mb+1) mb mv (mksV s.ms ++ mkV ((t:Int),k,(i:Int),n)) (s.ms.length+1) x x') :
  PlayM mb K L (mark s t i k n) E1 w'∧∀ {j:Nat} {gb:Option Nat},Kept j gb E1 w1 E1 w'∧∀ a,E1.H a=some 1→E1.W a=false→a < w1.heap.size→w'.heap[a]?=w1.heap[a]?:=by
 obtain ⟨mv0,r1,r2,r3⟩:=m.row
 have e0:mv0=mv:=by
  rw [hmv] at r1
  simpa using r1.symm
 subst e0
 have hxs:x.heap.size=w1.heap.size:=by rw [hx]; simp
 have hS:∀ c,(c=mb∨mv0.ownBlock=some c)→E1.H c=none:=fun c hc=>by
  rcases hc with rfl | hc
  ·exact m.mbH
  ·exact (r3 c hc).1
 have hvis:∀ c,E1.H c=none→w'.heap[c]?=x'.heap[c]?:=fun c hc=>by rw [hx',vw_get_none hc]
 have hold:∀ c,c < w1.heap.size→¬ (c=mb∨mv0.ownBlock=some c)→(vw E1.H w').heap[c]?=(vw E1.H w1).heap[c]?:=fun c hc hn=>by
  rw [← hx',← hx]
  exact M.old c (by omega) (fun e=>hn (.inl e)) (fun e=>hn (.inr e))
 have hk:=fun (j:Nat) (gb:Option Nat)=>quiet_kept (j:=j) (gb:=gb) hF hfit hS hold
 have hWn:∀ c,E1.H c=none→E1.W c=false:=fun c hc=>by
  cases e:E1.W c with
  | false=>rfl
  | true=>have:=hfit.sub c e; rw [hc] at this; cases this
 have hcell:∀ {a v},w1.cell? a=some v→E1.H a.block=none→a.block≠mb→mv0.ownBlock≠some a.block→w'.cell? a=some v:=fun {a v} e1 e2 e3 e4 =>
  (cell_hp ((hk 0 none).2 a.block (cell_lt e1) (fun z=>z.elim e3 e4) (hWn _ e2))).trans e1
 obtain ⟨mv',v1,v2,v3⟩:=M.new
 have hg':∀ g,mv'.ownBlock=some g→E1.H g=none:=fun g hg=>by
  rcases v3 g hg with z | z
  ·exact (r3 g z).1
  ·exact hfit.bound g (by omega)
 refine ⟨⟨m.mbH,fun b o hka=>?_,⟨mv',by rw [hvis mb m.mbH]; exact v1,?_,fun g hg=>⟨hg' g hg,fun ob ho=>?_,fun b o hka=>?_⟩⟩,fun ob ho=>?_,?_,fun t'=>?_⟩,fun {j gb}=>⟨(hk j gb).1,fun a h1 h2 h3=>(hk j gb).2 a h3 (fun z=>by rw [hS a z] at h1; cases h1) h2⟩⟩
 ·obtain ⟨k1,k2,k3⟩:=m.kobj b o hka
  have hl:=(Array.getElem?_eq_some_iff.1 k1).1
  exact ⟨((hk 0 none).2 b hl (fun z=>z.elim k3 (fun e=>(r3 _ e).2.2 b o hka rfl)) (hWn _ k2)).trans k1,k2,k3⟩
 ·have e1:(mark s t i k n).ms.length=s.ms.length+1:=by simp [mark]
  have e2:mksV (mark s t i k n).ms=mksV s.ms ++ mkV ((t:Int),k,(i:Int),n):=mksV_snoc _ _
  rw [e1,e2]
  exact ownsRow_same v2 (fun g hg=>hvis g (hg' g hg))
 ·rcases v3 g hg with z | z
  ·exact (r3 g z).2.1 ob ho
  ·have:=cell_lt (m.obs ob ho).2.2
   dsimp only at this
   omega
 ·rcases v3 g hg with z | z
  ·exact (r3 g z).2.2 b o hka
  ·have:=(Array.getElem?_eq_some_iff.1 (m.kobj b o hka).1).1
   omega
 ·obtain ⟨k1,k2,k3⟩:=m.obs ob ho
  exact ⟨k1,k2,hcell k3 k2 k1 (fun e=>(r3 _ e).2.1 ob ho rfl)⟩
 ·have h1:=sumTo_upd s.cnt (i+1) (fun x=>x) (j:=L.length) (i:=t) hn.2
  have h2:=m.len
  show (s.ms ++ [_]).length=sumTo L.length (upd s.cnt t (i+1))
  simp only [List.length_append,List.length_cons,List.length_nil]
  have h3:sumTo L.length (fun a=>upd s.cnt t (i+1) a)=sumTo L.length (upd s.cnt t (i+1)):=rfl
  have h4:sumTo L.length (fun a=>s.cnt a)=sumTo L.length s.cnt:=rfl
  omega
 ·show upd s.cnt t (i+1) t'≤_
  by_cases e:t'=t
  ·subst e
   rw [upd_same]; exact hn.1
  ·rw [upd_ne _ _ e]; exact m.cnt t'
end
section
variable {h rb mb t i b:Nat} {home:Goroutine→Prop} {k n:Int} {th:Th} {F:Machine→Trace→Prop} {E:Env} {w:World} {s:PS} {K:Nat→Obj→Prop} {L:List PT} {p:PT} {Tr:Array Value} {c:Frame} {cl:List Frame}
theorem runObj_first {x:Value} {st sm:Int} {e:TypeId} {w:World} {rb:Nat} {v:Value} (h:w.heap[rb]?=some (runObj x st sm e)) (hc:w.cell? ⟨rb,0,none⟩=some v):x=v:=by
 have:=obj_cell (o:=0) (v:=x) (by unfold runObj at h; exact h) rfl
 rw [this] at hc
 exact Option.some.inj hc
end
structure PTok (K:Nat→Obj→Prop) (L:List PT) (t:Nat) (p:PT):Prop where
 pt:L[t]?=some p
 kt:KC K ⟨p.tb,0,none⟩ (.int .i64 (t:Int))
 kl:∃ aa,KC K ⟨p.lb,0,none⟩ (.slice aa p.ops.length p.cap)∧(p.ops≠[]→aa=some ⟨p.la,p.lo,none⟩)
 ops:∀ i op,p.ops[i]?=some op→KC K ⟨p.la,p.lo+i * 3,none⟩ (.int .i64 op.1)∧KC K ⟨p.la,p.lo+i * 3+1,none⟩ (.int .i64 op.2.1)∧KC K ⟨p.la,p.lo+i * 3+2,none⟩ (.int .i64 op.2.2)
 len:p.ops.length≤1000000000000
theorem PTok.n {K:Nat→Obj→Prop} {L:List PT} {t:Nat} {p:PT} (P:PTok K L t p) {i:Nat} {op:Int × Int × Int} (h:p.ops[i]?=some op):opN L t i=some op.2.2:=by unfold opN; rw [P.pt]; simp [h]
theorem PTok.ln {K:Nat→Obj→Prop} {L:List PT} {t:Nat} {p:PT} (P:PTok K L t p):opLen L t=p.ops.length:=by unfold opLen; rw [P.pt]; rfl
section
variable {h rb mb t i b:Nat} {home:Goroutine→Prop} {k n:Int} {th:Th} {F:Machine→Trace→Prop} {E:Env} {w:World} {s:PS} {K:Nat→Obj→Prop} {L:List PT} {p:PT} {Tr:Array Value} {c:Frame} {cl:List Frame}
end
section
variable {h rb mb t i b:Nat} {home:Goroutine→Prop} {k n:Int} {th:Th} {F:Machine→Trace→Prop} {E:Env} {w:World} {s:PS} {K:Nat→Obj→Prop} {L:List PT} {p:PT} {Tr:Array Value}
variable {b₀:Frame} {a₀:Act} {ops₀:Array Oper} {i₀:Nat} {rest₀:List Nat} {k₀:List Item} {cl:List Frame}
theorem RegsP.up {T':Array Value} (R:RegsP Tr th.gb p mb i) (hs:T'.size=27) (h:∀ j,j < 14→T'[j]?=Tr[j]?):RegsP T' th.gb p mb i :=
 ⟨hs,(h 0 (by decide)).trans R.t0,(h 2 (by decide)).trans R.t2,(h 3 (by decide)).trans R.t3,R.t7.imp (fun z=>(h 7 (by decide)).trans z) id,(h 8 (by decide)).trans R.t8,(h 9 (by decide)).trans R.t9⟩
end
end Go.Proofs.Ytimlbbleblijnaa.Co

namespace Go.Proofs.Ytimlbbleblijnaa.Co
open Go Go.Conc
def nx (alive:Nat→Bool) (n:Nat):Nat→Nat→Option Nat
 | 0,_=>none
 | m+1,x=>if alive x then some x else nx alive n m ((x+1) % n)
theorem nx_snoc (alive:Nat→Bool) (n:Nat):∀ m x,x < n→nx alive n (m+1) x=match nx alive n m x with
  | some t=>some t
  | none=>if alive ((x+m) % n) then some ((x+m) % n) else none
 | 0,x,hx=>by simp [nx,Nat.mod_eq_of_lt hx]
 | m+1,x,hx=>by
   have hn:0 < n:=by omega
   rw [nx]
   cases ha:alive x with
   | true=>simp [nx,ha]
   | false =>
     have ih:=nx_snoc alive n m ((x+1) % n) (Nat.mod_lt _ hn)
     simp only [Bool.false_eq_true,if_false]
     rw [ih]
     have e:((x+1) % n+m) % n=(x+(m+1)) % n:=by rw [Nat.mod_add_mod]; congr 1; omega
     rw [e]
     have e2:nx alive n (m+1) x=nx alive n m ((x+1) % n):=by rw [nx,ha]; simp
     rw [e2]
theorem nx_skip {alive:Nat→Bool} {n x:Nat} (hx:x < n) (ha:alive x=false):nx alive n n x=nx alive n n ((x+1) % n):=by
 obtain ⟨m,rfl⟩:∃ m,n=m+1:=⟨n - 1,by omega⟩
 rw [nx_snoc alive (m+1) m ((x+1) % (m+1)) (Nat.mod_lt _ (by omega))]
 have e:((x+1) % (m+1)+m) % (m+1)=x:=by
  rw [Nat.mod_add_mod,show x+1+m=x+(m+1) by omega,Nat.add_mod_right,Nat.mod_eq_of_lt hx]
 rw [e,ha,nx,ha]
 simp only [Bool.false_eq_true,if_false]
 cases nx alive (m+1) m ((x+1) % (m+1)) <;> rfl
theorem nx_none {alive:Nat→Bool} {n:Nat}:∀ {m x:Nat},x < n→(∀ t,t < n→alive t=false)→nx alive n m x=none
 | 0,_,_,_=>rfl
 | m+1,x,hx,h=>by
   rw [nx,h x hx]
   simp only [Bool.false_eq_true,if_false]
   exact nx_none (Nat.mod_lt _ (by omega)) h
theorem nx_some {alive:Nat→Bool} {n t:Nat}:∀ {m x:Nat},x < n→nx alive n m x=some t→t < n∧alive t=true
 | 0,_,_,h=>by cases h
 | m+1,x,hx,h=>by
   rw [nx] at h
   by_cases ha:alive x=true
   ·rw [if_pos ha] at h
    cases h
    exact ⟨hx,ha⟩
   ·rw [if_neg ha] at h
    exact nx_some (Nat.mod_lt _ (by omega)) h
structure Game (A:Type) where
 n:Nat
 alive:A→Nat→Bool
 pick:A→Nat→Int→A
section
variable {A:Type} (G:Game A)
def Game.pk (a:A × Int) (t:Nat):A × Int:=(if G.alive a.1 t then G.pick a.1 t (a.2+1) else a.1,a.2+1)
def Game.picks (a:A × Int) (l:List Int):A × Int:=l.foldl (fun a p=>G.pk a (pickIx p G.n)) a
inductive Game.Drn:A × Int→Nat→A × Int→Prop
 | stop {a x} (h:nx (G.alive a.1) G.n G.n x=none):Drn a x a
 | go {a x t z} (h:nx (G.alive a.1) G.n G.n x=some t) (d:Drn (G.pick a.1 t (a.2+1),a.2+1) ((t+1) % G.n) z):Drn a x z
def Game.Run (picks:List Int) (drain:Bool) (a:A) (z:A × Int):Prop :=
 if G.n=0 then z=(a,0) else if drain then G.Drn (G.picks (a,0) picks) 0 z else z=G.picks (a,0) picks
variable {G}
theorem Game.Drn.det {a z z':A × Int} {x:Nat} (h:G.Drn a x z):G.Drn a x z'→z=z':=by
 induction h with
 | stop h =>
   intro h'
   cases h' with
   | stop _=>rfl
   | go h2 _=>rw [h] at h2; cases h2
 | go h d ih =>
   intro h'
   cases h' with
   | stop h2=>rw [h] at h2; cases h2
   | go h2 d2 =>
     rw [h] at h2; cases h2
     exact ih d2
theorem Game.Run.det {picks:List Int} {drain:Bool} {a:A} {z z':A × Int} (h:G.Run picks drain a z) (h':G.Run picks drain a z'):z=z':=by
 unfold Game.Run at h h'
 by_cases hn:G.n=0
 ·rw [if_pos hn] at h h'; rw [h,h']
 ·rw [if_neg hn] at h h'
  cases drain with
  | true =>
    simp only [if_true] at h h'
    exact h.det h'
  | false =>
    simp only [Bool.false_eq_true,if_false] at h h'
    rw [h,h']
theorem Game.Drn.ex (wt:A→Nat) (hw:∀ a t k,t < G.n→G.alive a t=true→wt (G.pick a t k) < wt a):∀ (f:Nat) (a:A × Int) (x:Nat),x < G.n→wt a.1 < f→∃ z,G.Drn a x z
 | 0,a,x,_,h=>absurd h (by omega)
 | f+1,a,x,hx,h=>by
   cases e:nx (G.alive a.1) G.n G.n x with
   | none=>exact ⟨a,.stop e⟩
   | some t =>
     obtain ⟨h1,h2⟩:=nx_some hx e
     have h3:=hw a.1 t (a.2+1) h1 h2
     obtain ⟨z,hz⟩:=Game.Drn.ex wt hw f (G.pick a.1 t (a.2+1),a.2+1) ((t+1) % G.n) (Nat.mod_lt _ (by omega)) (by dsimp only; omega)
     exact ⟨z,.go e hz⟩
theorem Game.Run.ex (wt:A→Nat) (hw:∀ a t k,t < G.n→G.alive a t=true→wt (G.pick a t k) < wt a) (picks:List Int) (drain:Bool) (a:A):∃ z,G.Run picks drain a z:=by
 unfold Game.Run
 by_cases hn:G.n=0
 ·exact ⟨_,by rw [if_pos hn]⟩
 ·simp only [if_neg hn]
  cases drain with
  | true =>
    simp only [if_true]
    exact Game.Drn.ex wt hw _ _ 0 (by omega) (Nat.lt_succ_self _)
  | false=>exact ⟨G.picks (a,0) picks,by simp⟩
theorem Game.Drn.skip {a z:A × Int} {x:Nat} (hx:x < G.n) (ha:G.alive a.1 x=false) (h:G.Drn a ((x+1) % G.n) z):G.Drn a x z:=by
 have e:=nx_skip hx ha
 cases h with
 | stop h=>exact .stop (by rw [e]; exact h)
 | go h d=>exact .go (by rw [e]; exact h) d
theorem Game.Drn.take {a z:A × Int} {x:Nat} (hx:x < G.n) (ha:G.alive a.1 x=true) (h:G.Drn (G.pick a.1 x (a.2+1),a.2+1) ((x+1) % G.n) z):G.Drn a x z:=by
 refine .go ?_ h
 obtain ⟨m,e⟩:∃ m,G.n=m+1:=⟨G.n - 1,by omega⟩
 rw [e,nx,if_pos ha]
end
section
variable {σ Λ A:Type}
structure Sim (D:Prot σ Λ) (G:Game A) (R:RS σ Λ→A→Prop):Prop where
 len:∀ x a,R x a→x.1.length=G.n
 alive:∀ x a,R x a→∀ t,t < G.n→aliveB x.1[t]?=G.alive a t
 pick:∀ x a x' t,R x a→t < G.n→aliveB x.1[t]?=true→PickR D t x x'→R x' (G.pick a t (x.2.2+1))
 idle:∀ x a,R x a→R (x.1,x.2.1,x.2.2+1) a
variable {D:Prot σ Λ} {G:Game A} {R:RS σ Λ→A→Prop}
theorem pickR_dead {t:Nat} {x x':RS σ Λ} (h:PickR D t x x') (ha:aliveB x.1[t]?=false):x'=(x.1,x.2.1,x.2.2+1):=by
 unfold PickR at h
 cases e:x.1[t]? with
 | none=>simpa [e] using h
 | some o =>
   cases o with
   | none=>simpa [e] using h
   | some y=>rw [e] at ha; cases ha
theorem pickR_other {t t':Nat} {x x':RS σ Λ} (h:PickR D t x x') (hne:t≠t'):x'.1[t']?=x.1[t']?:=by
 unfold PickR at h
 split at h
 ·obtain ⟨n,s',o,_,_,rfl⟩:=h
  simp [List.getElem?_set_ne hne]
 ·rw [h]
theorem Sim.pk (S:Sim D G R) {x x':RS σ Λ} {a:A} {t:Nat} (hr:R x a) (ht:t < G.n) (h:PickR D t x x'):R x' (G.pk (a,x.2.2) t).1∧x'.2.2=(G.pk (a,x.2.2) t).2:=by
 refine ⟨?_,pickR_k h⟩
 unfold Game.pk
 dsimp only
 cases e:aliveB x.1[t]? with
 | true =>
   rw [if_pos (by rw [← S.alive x a hr t ht]; exact e)]
   exact S.pick x a x' t hr ht e h
 | false =>
   rw [if_neg (by rw [← S.alive x a hr t ht,e]; simp),pickR_dead h e]
   exact S.idle x a hr
theorem Sim.picks (S:Sim D G R) {n:Nat} (hn:n=G.n) (hN:0 < n) {l:List Int} {x x':RS σ Λ} (h:PicksR D n l x x'):∀ a,R x a→R x' (G.picks (a,x.2.2) l).1∧x'.2.2=(G.picks (a,x.2.2) l).2:=by
 induction h with
 | nil x=>exact fun a hr=>⟨hr,rfl⟩
 | @cons p l x x' x'' h t ih =>
   intro a hr
   obtain ⟨h1,h2⟩:=S.pk hr (by rw [← hn]; exact pickIx_lt p hN) h
   obtain ⟨h3,h4⟩:=ih _ h1
   rw [h2] at h3 h4
   have e:G.picks (a,x.2.2) (p :: l)=G.picks ((G.pk (a,x.2.2) (pickIx p n)).1,(G.pk (a,x.2.2) (pickIx p n)).2) l:=by
    unfold Game.picks
    rw [List.foldl_cons,← hn]
   rw [e]
   exact ⟨h3,h4⟩
theorem Sim.turns (S:Sim D G R) {m:Nat}:∀ {i:Nat} {y y':RS σ Λ × Bool},i+m=G.n→TurnsR D (List.range' i m) y y'→∀ a,R y.1 a→(y.2=false→∀ t,t < i→aliveB y.1.1[t]?=false) →
  ∃ a',R y'.1 a'∧(y'.2=false→∀ t,t < G.n→aliveB y'.1.1[t]?=false)∧∀ z,G.Drn (a',y'.1.2.2) 0 z→G.Drn (a,y.1.2.2) (i % G.n) z:=by
 induction m with
 | zero =>
   intro i y y' hi h a hr hd
   cases h
   refine ⟨a,hr,fun e t ht=>hd e t (by omega),fun z hz=>?_⟩
   have:i % G.n=0:=by rw [show i=G.n by omega]; exact Nat.mod_self _
   rw [this]; exact hz
 | succ m ih =>
   intro i y y' hi h a hr hd
   rw [List.range'_succ] at h
   cases h with
   | @cons _ _ _ y1 _ h t =>
     have hin:i < G.n:=by omega
     have hm:i % G.n=i:=Nat.mod_eq_of_lt hin
     rcases h with ⟨ha,hp,hb⟩ | ⟨ha,rfl⟩
     ·have hr1:=S.pick _ _ _ _ hr hin ha hp
      obtain ⟨a',r1,r2,r3⟩:=ih (by omega) t _ hr1 (fun e t' ht=>by
       rw [hb,Bool.or_eq_false_iff] at e
       rcases Nat.lt_or_ge t' i with z | z
       ·rw [pickR_other hp (by omega)]; exact hd e.1 t' z
       ·rw [show t'=i by omega]; exact e.2)
      refine ⟨a',r1,r2,fun z hz=>?_⟩
      rw [hm]
      refine .take hin (by rw [← S.alive _ _ hr i hin]; exact ha) ?_
      have:=r3 z hz
      rw [pickR_k hp] at this
      exact this
     ·obtain ⟨a',r1,r2,r3⟩:=ih (by omega) t _ hr (fun e t' ht=>by
       rcases Nat.lt_or_ge t' i with z | z
       ·exact hd e t' z
       ·rw [show t'=i by omega]; exact ha)
      refine ⟨a',r1,r2,fun z hz=>?_⟩
      rw [hm]
      exact .skip hin (by rw [← S.alive _ _ hr i hin]; exact ha) (r3 z hz)
theorem Sim.drain (S:Sim D G R) {n:Nat} (hn:n=G.n) (hN:0 < n) {x x':RS σ Λ} (h:DrainR D n x x'):∀ a,R x a→∃ a',R x' a'∧G.Drn (a,x.2.2) 0 (a',x'.2.2):=by
 subst hn
 have e0:List.range G.n=List.range' 0 G.n:=List.range_eq_range'
 induction h with
 | @last x y h e =>
   intro a hr
   unfold RoundR at h
   rw [e0] at h
   obtain ⟨a',r1,r2,r3⟩:=S.turns (by omega) h a hr (fun _ t ht=>absurd ht (by omega))
   refine ⟨a',r1,?_⟩
   have:=r3 (a',y.1.2.2) (.stop (nx_none hN fun t ht=>by rw [← S.alive _ _ r1 t ht]; exact r2 e t ht))
   rw [Nat.zero_mod] at this
   exact this
 | @more x y z h e t ih =>
   intro a hr
   unfold RoundR at h
   rw [e0] at h
   obtain ⟨a',r1,r2,r3⟩:=S.turns (by omega) h a hr (fun _ t ht=>absurd ht (by omega))
   obtain ⟨a2,q1,q2⟩:=ih a' r1
   refine ⟨a2,q1,?_⟩
   have:=r3 _ q2
   rw [Nat.zero_mod] at this
   exact this
theorem Sim.run (S:Sim D G R) {bs:List (Body σ Λ)} {picks:List Int} {drain:Bool} {s:σ} {z:σ × Int} (hz:RunR D bs picks drain s z) (hn:bs.length=G.n) (a:A) (hst:∀ x0,StartR bs ([],s) x0→R (x0.1,x0.2,0) a) (h0:bs.length=0→R ([],s,0) a) :
  ∃ a' st,R (st,z.1,z.2) a'∧G.Run picks drain a (a',z.2):=by
 unfold RunR at hz
 by_cases hb:bs.length=0
 ·rw [if_pos hb] at hz
  subst hz
  refine ⟨a,[],h0 hb,?_⟩
  unfold Game.Run
  rw [if_pos (by omega)]
 ·rw [if_neg hb] at hz
  obtain ⟨x0,x1,x2,z0,z1,z2,rfl⟩:=hz
  obtain ⟨p1,p2⟩:=S.picks hn (by omega) z1 a (hst x0 z0)
  have hn0:¬ G.n=0:=by omega
  unfold Game.Run
  simp only [if_neg hn0]
  unfold DrainB at z2
  cases drain with
  | true =>
    simp only [if_true] at z2 ⊢
    obtain ⟨a',q1,q2⟩:=S.drain hn (by omega) z2 _ p1
    refine ⟨a',x2.1,q1,?_⟩
    rw [p2] at q2
    exact q2
  | false =>
    simp only [Bool.false_eq_true,if_false] at z2 ⊢
    subst z2
    exact ⟨(G.picks (a,0) picks).1,x2.1,p1,by rw [p2]⟩
end
end Go.Proofs.Ytimlbbleblijnaa.Co
