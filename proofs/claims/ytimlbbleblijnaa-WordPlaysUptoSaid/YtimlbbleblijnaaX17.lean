/- Lemmas for the laws of this seat, laid together of PGcb, PGcc, PGce, PGcf, PGda, PGdb. -/
import Derived.Test.YtimlbbleblijnaaX16
import Derived.Deep.AppendLies
import Derived.WalkKit
import Derived.Below
import Derived.WalkSmall
import Derived.Handy
import Derived.BigQuiet
import Derived.Deep.QuietTactic

set_option linter.unusedVariables false
set_option linter.unusedSimpArgs false
set_option maxRecDepth 100000
set_option maxHeartbeats 4000000
namespace Go.Proofs.Ytimlbbleblijnaa.Co
open Go Go.Conc Go.RowKit
noncomputable def qBody:Code:=Try.f21.body.getD .skip
noncomputable def q0:Code:=match qBody with | .seq x _=>x | _=>.skip
noncomputable def q1:Code:=match qBody with | .seq _ (.seq x _)=>x | _=>.skip
noncomputable def q2:Code:=match qBody with | .seq _ (.seq _ (.seq x _))=>x | _=>.skip
noncomputable def q3:Code:=match qBody with | .seq _ (.seq _ (.seq _ (.seq x _)))=>x | _=>.skip
noncomputable def q4:Code:=match qBody with | .seq _ (.seq _ (.seq _ (.seq _ x)))=>x | _=>.skip
theorem info52:∃ i:TypeInfo,Try.prog.info? 52=some i∧i.zero=some (.nilFunc)∧i.size=1∧i.bytes=8:=by
 have h:(Try.prog.info? 52).isSome=true:=by kernel_rfl
 obtain ⟨i,hi⟩:=Option.isSome_iff_exists.1 h
 have h2:(Try.prog.info? 52).map (fun i=>(i.zero,i.size,i.bytes))=some (some (.nilFunc),1,8):=by kernel_rfl
 rw [hi] at h2
 simp only [Option.map_some,Option.some.injEq,Prod.mk.injEq] at h2
 exact ⟨i,hi,h2.1,h2.2.1,h2.2.2⟩
def clo (LB TB:Nat→Nat) (mb i:Nat):Value:=.func (.func 67) #[] #[.pointer (some ⟨LB i,0,none⟩),.pointer (some ⟨mb,0,none⟩),.pointer (some ⟨TB i,0,none⟩)]
def natOfV:Value→Nat
 | .int _ i=>i.toNat
 | _=>0
end Go.Proofs.Ytimlbbleblijnaa.Co

namespace Go.Proofs.Ytimlbbleblijnaa.Co
open Go Go.Conc
theorem arrfv {n:Nat} (T:Array Value) (h:T.size=n):∃ f:Nat→Value,T=(List.map f (List.range n)).toArray∧∀ j v,T[j]?=some v→f j=v:=by
 obtain ⟨f,hf⟩:=arrf T h
 refine ⟨f,hf,fun j v e=>?_⟩
 have hj:j < n:=by rw [← h]; exact (Array.getElem?_eq_some_iff.1 e).1
 rw [hf,arrf_get f hj] at e
 exact Option.some.inj e
section
variable {P:Program} {h:Nat} {F:Machine→Trace→Prop} {E:Env} {w:World} {Fs:FuncId→Bool}
theorem HG.quietS (S:Nat→Prop) (hS:∀ b,S b→E.H b=none) (hC:Closed P Fs) {fr:Frame} {a:Act} {k:List Item} {cs:List Frame} {c:Code} {Q:Act→World→World→Prop} (hq:quietCode P Fs c=true) (hk:fr.kind=.normal) (ha:a.defers=[])
  (hwp:∀ x:World,x.heap.size=w.heap.size→(∀ b,E.H b=none→x.heap[b]?=w.heap[b]?)→c.wp P (fun e a' x'=>e=.normal∧a'.defers=[]∧(∀ b,b < x.heap.size→¬ S b→x'.heap[b]?=x.heap[b]?)∧Q a' x x') a x)
  (hg:∀ (E1:Env) (w':World) (a':Act) (x x':World),E.Eq h E1→a'.defers=[]→x.heap.size=w.heap.size→(∀ b,E.H b=none→x.heap[b]?=w.heap[b]?)→x'.heap.size=w'.heap.size→(∀ b,E.H b=none→w'.heap[b]?=x'.heap[b]?)→Kept h none E w E1 w'→(∀ b,w.heap.size≤b→E.H b=none)→(∀ b,b < x.heap.size→¬ S b→x'.heap[b]?=x.heap[b]?)→Q a' x x'→HG P h F E1 (G (fr.at a' k) cs) w'):HG P h F E (G (fr.at a (.code c :: k)) cs) w:=by
 refine HG.withH fun hWH _=>?_
 have hWn:∀ b,E.H b=none→E.W b=false:=fun b hb=>by
  cases e:E.W b with
  | false=>rfl
  | true=>have:=hWH b e; rw [hb] at this; cases this
 have pre:∀ E1 w1,AtE h E w E1 w1→∀ τ,(rt (vw E1.H w1) τ 0).heap.size=w.heap.size∧∀ b,E.H b=none→(rt (vw E1.H w1) τ 0).heap[b]?=w.heap[b]?:=fun E1 w1 hA τ=>by
  refine ⟨by show (vw E1.H w1).heap.size=_; simp [hA.2.size],fun b hb=>?_⟩
  show (vw E1.H w1).heap[b]?=_
  rw [vw_get_none (by rw [hA.1.H']; exact hb),hA.2.heap b (hWn b hb)]
 refine HG.quietF hC (Q:=fun a' w' E1 w1=>∃ x x':World,(x.heap.size=w.heap.size∧∀ b,E.H b=none→x.heap[b]?=w.heap[b]?)∧x.heap=(vw E1.H w1).heap∧x'.heap=(vw E1.H w').heap∧Far E1.H E1.W w1 w'∧Fit E1.H E1.W w1∧(∀ b,b < x.heap.size→¬ S b→x'.heap[b]?=x.heap[b]?)∧Q a' x x') hq hk ha (fun E1 w1 hA hf τ=>?_) (fun E1 w1 hA a' w' h1 h2 h3 hqq=>?_)
 ·obtain ⟨p1,p2⟩:=pre E1 w1 hA τ
  refine Code.wp_mono (fun e a' x' ⟨q1,q2,q3,q4⟩=>⟨q1,q2,fun w' τ' d he hF hf'=>⟨_,x',⟨p1,p2⟩,rfl,by rw [he]; rfl,hF,hf,q3,q4⟩⟩) (hwp _ p1 p2)
 ·obtain ⟨x,x',⟨p1,p2⟩,e1,e2,hF,hf,q3,q4⟩:=hqq
  have hH:E1.H=E.H:=hA.1.H'
  have hold:∀ c,c < w1.heap.size→¬ S c→(vw E1.H w').heap[c]?=(vw E1.H w1).heap[c]?:=fun c hc hn=>by
   rw [← e2,← e1]
   exact q3 c (by rw [e1]; simpa using hc) hn
  have hk2:=quiet_kept (j:=h) (gb:=none) hF hf (S:=S) (fun c hc=>by rw [hH]; exact hS c hc) hold
  refine hg E1 w' a' x x' hA.1 h1 p1 p2 (by rw [e2]; simp) (fun b hb=>by rw [e2,vw_get_none (by rw [hH]; exact hb)]) ((Kept.of_at hA).trans hk2.1) (fun b hb=>?_) q3 q4
  rw [← hH]
  exact hf.bound b (by rw [hA.2.size]; exact hb)
end
end Go.Proofs.Ytimlbbleblijnaa.Co

namespace Go.Proofs.Ytimlbbleblijnaa.Co
open Go Go.Conc Go.RowKit
noncomputable def nBody:Code:=Try.f29.body.getD .skip
noncomputable def n0:Code:=match nBody with | .seq x _=>x | _=>.skip
noncomputable def n1:Code:=match nBody with | .seq _ (.seq x _)=>x | _=>.skip
noncomputable def n2:Code:=match nBody with | .seq _ (.seq _ x)=>x | _=>.skip
noncomputable def y0:Code:=n0
noncomputable def y1:Code:=n1
section
variable {h:Nat} {F:Machine→Trace→Prop} {E:Env} {w:World} {b₀:Frame} {a₀:Act} {ops₀:Array Oper} {i₀:Nat} {rest₀:List Nat} {k₀:List Item} {cl:List Frame}
noncomputable def q5:Code:=match q4 with | .seq _ x=>x | _=>.skip
noncomputable def q6:Code:=match q5 with | .seq x _=>x | _=>.skip
end
end Go.Proofs.Ytimlbbleblijnaa.Co

namespace Go.Proofs.Ytimlbbleblijnaa.Co
open Go Go.Conc Go.RowKit
open Go.ConcN (sumTo upd sumTo_upd upd_ne upd_same sumTo_congr le_sumTo)
abbrev Op3:=Int × Int × Int
structure OpsAt (E:Env) (w:World) (tv:Value) (ts:List (List Op3)):Prop where
 at_:∃ (ta:Option Addr) (ba bo cap:Nat) (LA:Nat→Option Addr) (LC:Nat→Nat),tv=.slice ta ts.length cap∧(0 < ts.length→ta=some ⟨ba,bo,none⟩)∧∀ i l,ts[i]?=some l →
  (w.cell? ⟨ba,bo+i,none⟩=some (.slice (LA i) l.length (LC i))∧E.H ba=none)∧(l≠[]→∃ la lo,LA i=some ⟨la,lo,none⟩∧E.H la=none∧∀ j op,l[j]?=some op →
   w.cell? ⟨la,lo+j * 3,none⟩=some (.int .i64 op.1)∧w.cell? ⟨la,lo+j * 3+1,none⟩=some (.int .i64 op.2.1)∧w.cell? ⟨la,lo+j * 3+2,none⟩=some (.int .i64 op.2.2))
structure IntsAt (E:Env) (w:World) (pv:Value) (ps:List Int):Prop where
 at_:∃ (pa:Option Addr) (pb po cap:Nat),pv=.slice pa ps.length cap∧(ps≠[]→pa=some ⟨pb,po,none⟩)∧∀ i p,ps[i]?=some p→w.cell? ⟨pb,po+i,none⟩=some (.int .i64 p)∧E.H pb=none
def Stands (E:Env) (w:World) (E':Env) (w':World):Prop:=∀ b o,E.H b=none→w.heap[b]?=some o→E'.H b=none∧w'.heap[b]?=some o
theorem Stands.cell {E E':Env} {w w':World} (S:Stands E w E' w') {a:Addr} {v:Value} (h:w.cell? a=some v) (hH:E.H a.block=none):w'.cell? a=some v∧E'.H a.block=none:=by
 have hl:=World.block_lt_of_cell? w _ h
 obtain ⟨s1,s2⟩:=S a.block _ hH (Array.getElem?_eq_getElem hl)
 exact ⟨(World.cell?_of_block (by rw [s2,Array.getElem?_eq_getElem hl])).trans h,s1⟩
theorem Stands.trans {E E' E2:Env} {w w' w2:World} (S:Stands E w E' w') (S2:Stands E' w' E2 w2):Stands E w E2 w2:=fun b o h1 h2=>by
 obtain ⟨a1,a2⟩:=S b o h1 h2
 exact S2 b o a1 a2
theorem OpsAt.stands {E E':Env} {w w':World} {tv:Value} {ts:List (List Op3)} (h:OpsAt E w tv ts) (S:Stands E w E' w'):OpsAt E' w' tv ts:=by
 obtain ⟨ta,ba,bo,cap,LA,LC,h1,h2,h3⟩:=h.at_
 refine ⟨ta,ba,bo,cap,LA,LC,h1,h2,fun i l hi=>?_⟩
 obtain ⟨⟨q1,q2⟩,q3⟩:=h3 i l hi
 refine ⟨S.cell q1 q2,fun hne=>?_⟩
 obtain ⟨la,lo,e1,e2,e3⟩:=q3 hne
 by_cases hE:E'.H la=none
 ·exact ⟨la,lo,e1,hE,fun j op hj=>⟨(S.cell (e3 j op hj).1 e2).1,(S.cell (e3 j op hj).2.1 e2).1,(S.cell (e3 j op hj).2.2 e2).1⟩⟩
 ·cases l with
  | nil=>exact absurd rfl hne
  | cons op l=>exact absurd (S.cell (e3 0 op rfl).1 e2).2 hE
theorem IntsAt.stands {E E':Env} {w w':World} {pv:Value} {ps:List Int} (h:IntsAt E w pv ps) (S:Stands E w E' w'):IntsAt E' w' pv ps:=by
 obtain ⟨pa,pb,po,cap,h1,h2,h3⟩:=h.at_
 exact ⟨pa,pb,po,cap,h1,h2,fun i p hi=>S.cell (h3 i p hi).1 (h3 i p hi).2⟩
structure PA where
 ms:List Mk
 cnt:Nat→Nat
def nOf (ts:List (List Op3)) (t i:Nat):Int:=(((ts[t]?).bind (·[i]?)).map (·.2.2)).getD 0
def lenOf (ts:List (List Op3)) (t:Nat):Nat:=((ts[t]?).map (·.length)).getD 0
def playG (ts:List (List Op3)):Game PA where
 n:=ts.length
 alive a t:=decide (a.cnt t < lenOf ts t)
 pick a t k:=⟨a.ms ++ [((t:Int),k,(a.cnt t:Int),nOf ts t (a.cnt t))],upd a.cnt t (a.cnt t+1)⟩
def ptOf (ts:List (List Op3)) (LB TB LA LO LC:Nat→Nat):List PT:=(List.range ts.length).map fun i=>⟨TB i,LB i,LA i,LO i,LC i,ts.getD i []⟩
theorem ptOf_get {ts:List (List Op3)} {LB TB LA LO LC:Nat→Nat} {i:Nat} (hi:i < ts.length):(ptOf ts LB TB LA LO LC)[i]?=some ⟨TB i,LB i,LA i,LO i,LC i,ts.getD i []⟩:=by
 unfold ptOf
 rw [List.getElem?_map,List.getElem?_range hi]
 rfl
theorem ptOf_len {ts:List (List Op3)} {LB TB LA LO LC:Nat→Nat}:(ptOf ts LB TB LA LO LC).length=ts.length:=by simp [ptOf]
theorem getD_of {ts:List (List Op3)} {i:Nat} {l:List Op3} (h:ts[i]?=some l):ts.getD i []=l:=by simp [List.getD,h]
theorem opLen_of (ts:List (List Op3)) (LB TB LA LO LC:Nat→Nat) (t:Nat):opLen (ptOf ts LB TB LA LO LC) t=lenOf ts t:=by
 unfold opLen lenOf
 by_cases h:t < ts.length
 ·rw [ptOf_get h,List.getElem?_eq_getElem h]
  simp [List.getD,List.getElem?_eq_getElem h]
 ·rw [List.getElem?_eq_none (by rw [ptOf_len]; omega),List.getElem?_eq_none (by omega)]
  rfl
def cntT (l:List Mk) (t:Nat):Nat:=(l.filter (fun m=>m.1 == (t:Int))).length
def lastK (l:List Mk):Int:=(l.getLast?.map (·.2.1)).getD 0
theorem cntT_snoc (l:List Mk) (m:Mk) (t:Nat):cntT (l ++ [m]) t=cntT l t+if m.1=(t:Int) then 1 else 0:=by
 unfold cntT
 rw [List.filter_append,List.length_append]
 by_cases h:m.1=(t:Int)
 ·simp [h]
 ·simp [h]
theorem lastK_snoc (l:List Mk) (m:Mk):lastK (l ++ [m])=m.2.1:=by simp [lastK]
def okMk (ts:List (List Op3)) (picks:List Int) (l:List Mk) (m:Mk):Prop :=
 ∃ t q:Nat,t < ts.length∧m=((t:Int),((q+1:Nat):Int),(cntT l t:Int),nOf ts t (cntT l t))∧cntT l t < lenOf ts t∧lastK l < ((q+1:Nat):Int)∧∀ p,picks[q]?=some p→pickIx p ts.length=t
def okMs (ts:List (List Op3)) (picks:List Int) (ms:List Mk):Prop:=∀ i m,ms[i]?=some m→okMk ts picks (ms.take i) m
theorem okMs_snoc {ts:List (List Op3)} {picks:List Int} {ms:List Mk} {m:Mk} (h:okMs ts picks ms) (hm:okMk ts picks ms m):okMs ts picks (ms ++ [m]):=by
 intro i x hx
 rcases Nat.lt_or_ge i ms.length with z | z
 ·rw [List.getElem?_append_left z] at hx
  rw [List.take_append_of_le_length (Nat.le_of_lt z)]
  exact h i x hx
 ·have hi:i=ms.length:=by
   have:=(List.getElem?_eq_some_iff.1 hx).1
   simp at this; omega
  subst hi
  rw [List.getElem?_append_right (Nat.le_refl _)] at hx
  simp at hx
  subst hx
  simpa using hm
structure GI (ts:List (List Op3)) (picks:List Int) (a:PA) (k:Nat):Prop where
 ms:okMs ts picks a.ms
 cnt:∀ t,cntT a.ms t=a.cnt t
 le:∀ t,a.cnt t≤lenOf ts t
 last:lastK a.ms≤(k:Int)
theorem GI.up {ts:List (List Op3)} {picks:List Int} {a:PA} {k:Nat} (h:GI ts picks a k):GI ts picks a (k+1):=⟨h.ms,h.cnt,h.le,by have:=h.last; push_cast; omega⟩
theorem GI.pick {ts:List (List Op3)} {picks:List Int} {a:PA} {k t:Nat} (h:GI ts picks a k) (ht:t < ts.length) (ha:(playG ts).alive a t=true) (hp:∀ p,picks[k]?=some p→pickIx p ts.length=t):GI ts picks ((playG ts).pick a t ((k:Int)+1)) (k+1):=by
 have ha':a.cnt t < lenOf ts t:=of_decide_eq_true ha
 have hl:=h.last
 refine ⟨?_,fun t'=>?_,fun t'=>?_,?_⟩
 ·show okMs ts picks (a.ms ++ [_])
  refine okMs_snoc h.ms ⟨t,k,ht,?_,by rw [h.cnt]; exact ha',by push_cast; omega,hp⟩
  rw [h.cnt]
  push_cast
  rfl
 ·show cntT (a.ms ++ [_]) t'=upd a.cnt t (a.cnt t+1) t'
  rw [cntT_snoc,h.cnt]
  dsimp only
  by_cases e:t'=t
  ·subst e
   rw [upd_same,if_pos rfl]
  ·rw [upd_ne _ _ e,if_neg (by omega),Nat.add_zero]
 ·show upd a.cnt t (a.cnt t+1) t'≤_
  by_cases e:t'=t
  ·subst e
   rw [upd_same]; exact ha'
  ·rw [upd_ne _ _ e]; exact h.le t'
 ·show lastK (a.ms ++ [_])≤_
  rw [lastK_snoc]
  push_cast
  exact Int.le_refl _
end Go.Proofs.Ytimlbbleblijnaa.Co

namespace Go.Proofs.Ytimlbbleblijnaa.Co
open Go Go.Conc Go.RowKit
theorem round_eq (p:Int) (n:Nat) (hn:0 < n):(if p.tmod n < 0 then p.tmod n+n else p.tmod n)=(pickIx p n:Int):=by
 unfold pickIx
 have h1:-(n:Int) < p.tmod n:=Int.lt_tmod_of_pos p (by omega)
 have h2:p.tmod n < n:=Int.tmod_lt_of_pos p (by omega)
 split
 ·have e:(p.tmod n+n).tmod n=p.tmod n+n:=Int.tmod_eq_of_lt (by omega) (by omega)
  rw [e]
  omega
 ·have e:(p.tmod n+n).tmod n=p.tmod n:=by
   rw [Int.tmod_eq_emod_of_nonneg (by omega),Int.add_emod_right,Int.emod_eq_of_lt (by omega) h2]
  rw [e]
  omega
set_option maxHeartbeats 400000 in
theorem round_any (p:Int) (n:Nat) (hn:0 < n) (hn2:n≤1000000000000) (hp:-9223372036854775808≤p∧p≤9223372036854775807) (w:World) :
  Calls Try.prog 26 #[.int .i64 p,.int .i64 (n:Int)] w fun e w'=>e=.returned (.int .i64 (pickIx p n:Int))∧w'=w:=by
 have h1:-(n:Int) < p.tmod n:=Int.lt_tmod_of_pos p (by omega)
 have h2:p.tmod n < n:=Int.tmod_lt_of_pos p (by omega)
 have h0:¬ (n:Int)=0:=by omega
 have hr:=round_eq p n hn
 obtain ⟨r,hr'⟩:∃ r,r=p.tmod n:=⟨_,rfl⟩
 obtain ⟨z,hz⟩:∃ z:Int,z=(pickIx p n:Int):=⟨_,rfl⟩
 rw [← hz] at hr ⊢
 rw [← hr'] at hr h1 h2
 replace hz:=Lib.hid hz
 have hrr:p.tmod n=r:=hr'.symm
 clear hr'
 by_cases hneg:r < 0
 ·rw [if_pos hneg] at hr
  have hw:IntKind.i64.wrap (r+n)=z:=by rw [IntKind.wrap_i64]; omega
  replace hr:=Lib.hid hr
  go_enter Try.func26,Try.ntmps26
  go_wp2
  go_ret
  exact ⟨rfl,rfl⟩
 ·rw [if_neg hneg] at hr
  subst hr
  go_enter Try.func26,Try.ntmps26
  go_wp2
  go_ret
  exact ⟨rfl,rfl⟩
theorem mksV_get:∀ {ms:List Mk} {i:Nat} {m:Mk},ms[i]?=some m→∀ {j:Nat},j < 4→(mksV ms)[i * 4+j]?=(mkV m)[j]?
 | m0 :: ms,0,m,h,j,hj=>by
   cases h
   have e:mksV (m0 :: ms)=mkV m0 ++ mksV ms:=by simp [mksV]
   rw [e,List.getElem?_append_left (by simp [mkV]; omega),Nat.zero_mul,Nat.zero_add]
 | m0 :: ms,i+1,m,h,j,hj=>by
   have e:mksV (m0 :: ms)=mkV m0 ++ mksV ms:=by simp [mksV]
   have hl:(mkV m0).length=4:=rfl
   rw [e,List.getElem?_append_right (by rw [hl]; omega),hl,show (i+1) * 4+j - 4=i * 4+j by omega]
   exact mksV_get (by simpa using h) hj
 | [],_,_,h,_,_=>by simp at h
structure AtRow (x wr:World) (ab n:Nat) (c:Nat→Nat):Prop where
 size:wr.heap.size=x.heap.size
 old:∀ b,b≠ab→wr.heap[b]?=x.heap[b]?
 row:wr.heap[ab]?=some (.cells ((List.range n).map fun t=>.int .i64 (c t:Int)).toArray 3)
theorem AtRow.cell {x wr:World} {ab n t:Nat} {c:Nat→Nat} (h:AtRow x wr ab n c) (ht:t < n):wr.cell? ⟨ab,t,none⟩=some (.int .i64 (c t:Int)):=by
 refine obj_cell h.row ?_
 simp [ht]
theorem AtRow.set {x wr:World} {ab n t:Nat} {c:Nat→Nat} (h:AtRow x wr ab n c) (ht:t < n):AtRow x (wr.setCell ⟨ab,t,none⟩ (.int .i64 ((c t+1:Nat):Int))) ab n (fun t'=>c t'+if t'=t then 1 else 0):=by
 refine ⟨by rw [← h.size]; simp [World.setCell],fun b hb=>by rw [heap_setCell_ne (a:=⟨ab,t,none⟩) (fun e=>hb e.symm)]; exact h.old b hb,?_⟩
 have hl:=(Array.getElem?_eq_some_iff.1 h.row).1
 have e:(wr.setCell ⟨ab,t,none⟩ (.int .i64 ((c t+1:Nat):Int))).heap[ab]?=some (.cells ((((List.range n).map fun t=>Value.int .i64 (c t:Int)).toArray).setIfInBounds t (.int .i64 ((c t+1:Nat):Int))) 3):=heap_set (a:=⟨ab,t,none⟩) (w:=wr) rfl h.row
 rw [e]
 congr 2
 refine Array.ext_getElem? fun i=>?_
 rw [Array.getElem?_setIfInBounds]
 by_cases hi:t=i
 ·subst hi
  simp [ht]
 ·have hi':¬ i=t:=fun e=>hi e.symm
  rw [if_neg hi]
  by_cases hin:i < n
  ·simp [hin,hi']
  ·simp [hin]
end Go.Proofs.Ytimlbbleblijnaa.Co
