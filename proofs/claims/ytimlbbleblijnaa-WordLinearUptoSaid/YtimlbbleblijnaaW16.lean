/- Lemmas for the laws of this seat, laid together of PGbo, PGbq, PGbr, PGbs, PGbt, PGbu. -/
import Derived.Test.YtimlbbleblijnaaW15

set_option linter.unusedVariables false
set_option linter.unusedSimpArgs false
set_option maxRecDepth 100000
set_option maxHeartbeats 4000000
namespace Go.Proofs.Ytimlbbleblijnaa.Co
open Go Go.Conc
theorem arrf {n:Nat} (T:Array Value) (h:T.size=n):∃ f:Nat→Value,T=(List.map f (List.range n)).toArray:=by
  refine ⟨fun i=>T.getD i undef,?_⟩
  apply Array.ext
  · rw [h]; simp
  · intro i h1 h2
    simp [Array.getD,h1]
theorem arrf_get (f:Nat→Value) {n i:Nat} (hi:i < n):(List.map f (List.range n)).toArray[i]?=some (f i):=by simp [hi]
theorem info37:∃ i:TypeInfo,Try.prog.info? 37=some i∧i.zero=some (.agg #[.int .i64 0,.int .i64 0,.int .i64 0,.int .i64 0])∧i.size=4∧i.bytes=32:=by
  have h:(Try.prog.info? 37).isSome=true:=by kernel_rfl
  obtain ⟨i,hi⟩:=Option.isSome_iff_exists.1 h
  have h2:(Try.prog.info? 37).map (fun i=>(i.zero,i.size,i.bytes))=some (some (.agg #[.int .i64 0,.int .i64 0,.int .i64 0,.int .i64 0]),4,32):=by kernel_rfl
  rw [hi] at h2
  simp only [Option.map_some,Option.some.injEq,Prod.mk.injEq] at h2
  exact ⟨i,hi,h2.1,h2.2.1,h2.2.2⟩
abbrev Mk:=Int × Int × Int × Int
def mkV (m:Mk):List Value:=[.int .i64 m.1,.int .i64 m.2.1,.int .i64 m.2.2.1,.int .i64 m.2.2.2]
def mksV (l:List Mk):List Value:=(l.map mkV).flatten
theorem mksV_snoc (l:List Mk) (m:Mk):mksV (l ++ [m])=mksV l ++ mkV m:=by simp [mksV]
structure Marked (B mb:Nat) (mv:Value) (xs:List Value) (n:Nat) (x x':World):Prop where
  size:x.heap.size≤x'.heap.size
  old:∀ c,c < x.heap.size→c≠mb→mv.ownBlock≠some c→x'.heap[c]?=x.heap[c]?
  new:∃ mv',x'.heap[mb]?=some (.cells #[mv'] 27)∧x'.ownsRow B 37 4 mv' n xs∧∀ g,mv'.ownBlock=some g→mv.ownBlock=some g∨x.heap.size≤g
theorem kept_set {j gb o:Nat} {E:Env} {w:World} {v:Value} (gW:E.W gb=false):Kept j (some gb) E w E (w.setCell ⟨gb,o,none⟩ v) :=
  ⟨.refl j E,by simp [World.setCell],fun b n _ _ hg _=>heap_setCell_ne (a:=⟨gb,o,none⟩) (fun e=>hg (congrArg some e)),fun b hW x st sm e hx=>⟨st,sm,by rw [heap_setCell_ne (a:=⟨gb,o,none⟩) (fun z=>by have z':gb=b:=z; rw [z',hW] at gW; cases gW)]; exact hx⟩,fun _ _ h=>.inl h,fun _ h=>.inl h⟩
theorem kept_alloc {j:Nat} {gb:Option Nat} {E:Env} {w:World} {o:Obj}:Kept j gb E w E (w.alloc o) :=
  ⟨.refl j E,by rw [alloc_size]; omega,fun b n _ _ _ hl=>alloc_old hl,fun b hW x st sm e hx=>⟨st,sm,by rw [alloc_old (Array.getElem?_eq_some_iff.1 hx).1]; exact hx⟩,fun _ _ h=>.inl h,fun _ h=>.inl h⟩
section
variable {σ Λ:Type} {D:Prot σ Λ} {h rb:Nat} {home:Goroutine→Prop} {k:Int} {th:Th} {F:Machine→Trace→Prop} {E E1:Env} {w w1:World} {s:σ} {o:Option Λ} {r:Role}
theorem Prot.at (m:D.M s E w) {j:Nat} (hWH:∀ b,E.W b=true→E.H b=some 1) (a:AtE j E w E1 w1):D.M s E1 w1 :=
  D.closed _ _ _ _ _ m fun b _ hn=>⟨by rw [a.1.H']; exact hn,a.2.heap b (by
    cases e:E.W b with
    | false=>rfl
    | true=>rw [hWH b e] at hn; cases hn)⟩
theorem Prot.set (m:D.M s E w) {gb x n:Nat} {v:Value} (gH:E.H gb=some n):D.M s E (w.setCell ⟨gb,x,none⟩ v) :=
  D.closed _ _ _ _ _ m fun b _ hn=>⟨hn,heap_setCell_ne (a:=⟨gb,x,none⟩) (fun e=>by have e':gb=b:=e; rw [e',hn] at gH; cases gH)⟩
theorem Prot.alloc (m:D.M s E w) {x:Obj}:D.M s E (w.alloc x):=D.closed _ _ _ _ _ m fun b hb hn=>⟨hn,alloc_old hb⟩
theorem TKn.gct (T:TKn h rb home k th E w):th.gb≠th.ct:=fun e=>by have h1:=T.gH; rw [e,T.ctH] at h1; cases h1
theorem Back.kept (B:Back D h rb home th F E w s o r) (a:Kept th.j (some th.gb) E w E1 w1):Back D h rb home th F E1 w1 s o r :=
  fun E2 w2 kk g₂ hk hm hg hc hh=>B E2 w2 kk g₂ (a.trans hk) hm hg hc hh
theorem GA.at {j:Nat} {en fr:Bool} {tl:Int × Int × Int} (g:GA w rb th en fr tl) (gW:E.W th.gb=false) (a:AtE j E w E1 w1):GA w1 rb th en fr tl:=by
  unfold GA at g ⊢
  rw [a.2.heap _ gW]; exact g
def OffAt (gb box rb:Nat) (b₀:Frame) (a₀:Act) (ops₀:Array Oper) (i₀:Nat) (rest₀:List Nat) (k₀:List Item) (cl:List Frame):Prop :=
  ∀ {j hr ct cs:Nat} {en fr:Bool} {s p q:Int} {ty:TypeId} {E:Env} {w:World} {F:Machine→Trace→Prop} {home:Goroutine→Prop},w.heap[gb]?=some (gateObj rb ct cs en fr s p q ty)→E.W gb=false→w.cell? ⟨box,0,none⟩=some (.pointer (some ⟨gb,0,none⟩))→E.W box=false→E.role hr=.seat cs home→hr≠j→0 < j→E.wg j=some rb →
    E.role j=.gone→E.W w.heap.size=false →
    (∀ E1 w1 k g₂,AtE j E (w.alloc (.cells #[] 111)) E1 w1→w1.heap[cs]?=some (.chan 0 #[] false k k false)→home g₂→HG Try.prog hr F (E1.setRole j (.ender rb)) (Go.Conc.served g₂ (.bool false)) (w1.setChan cs 0 #[] false (k+1) (k+1) false)) →
    HG Try.prog j F E (G { b₀.at a₀ (.inRegion ops₀ (i₀ :: rest₀) :: k₀) with mode:=.panicking [{ v:=letGoV,recovered:=false }] } cl) w
variable {b₀:Frame} {a₀:Act} {ops₀:Array Oper} {i₀:Nat} {rest₀:List Nat} {k₀:List Item} {cl:List Frame}
theorem LiveRet.offAt {gb box:Nat} (L:LiveRet gb box rb b₀ a₀ ops₀ i₀ rest₀ k₀ cl):OffAt gb box rb b₀ a₀ ops₀ i₀ rest₀ k₀ cl:=L.off
theorem OffAt.up {gb box f:Nat} {fn:Func} {a:Act} {ops:Array Oper} {i:Nat} {rest:List Nat} {k:List Item} (O:OffAt gb box rb b₀ a₀ ops₀ i₀ rest₀ k₀ cl) (hf:Try.prog.funcs[f]?=some fn) (ha:a.defers=[]) :
    OffAt gb box rb (base f) a ops i rest k (b₀.at a₀ (.inRegion ops₀ (i₀ :: rest₀) :: k₀) :: cl):=by
  intro j hr ct cs en fr s p q ty E w F home h1 h2 h3 h4 h5 h6 h7 h8 h9 h10 h11
  refine Idl.unwindNone (n:=1) (idl_hg Try.prog j F E w) ha hf rfl ?_
  exact O h1 h2 h3 h4 h5 h6 h7 h8 h9 h10 h11
theorem offAt_end {fr:Bool} {tl:Int × Int × Int} (O:OffAt th.gb th.box rb b₀ a₀ ops₀ i₀ rest₀ k₀ cl) (T:TKn h rb home k th E w) (g:GA w rb th false fr tl) (m:D.M s E w) (B:Back D h rb home th F E w s none (.ender rb)) :
    HG Try.prog th.j F E (G { b₀.at a₀ (.inRegion ops₀ (i₀ :: rest₀) :: k₀) with mode:=.panicking [{ v:=letGoV,recovered:=false }] } cl) w:=by
  refine HG.open fun E1 w1 hA ⟨gs,T',q,C,_⟩=>?_
  have hWH:∀ b,E1.W b=true→E1.H b=some 1:=C.fit.sub
  have hWH0:∀ b,E.W b=true→E.H b=some 1:=fun b hb=>by rw [← hA.1.H']; exact hWH b (by rw [hA.1.W']; exact hb)
  have T1:=T.kept (Kept.of_at hA) T.gct
  have g1:=GA.at g T.gW hA
  have hn:E1.W w1.heap.size=false:=by
    cases e:E1.W w1.heap.size with
    | false=>rfl
    | true=>have:=hWH _ e; rw [C.fit.bound _ (Nat.le_refl _)] at this; cases this
  refine O g1 T1.gW (C.keep th.j _ _ T1.stB) T1.bW T1.run T1.hj T1.j0 T1.wg T1.role hn (fun E2 w2 kk g₂ hA2 hcs hh=>?_)
  have m2:=Prot.at (D:=D) (Prot.alloc (Prot.at m hWH0 hA) (x:=.cells #[] 111)) hWH hA2
  refine B E2 w2 kk g₂ ((Kept.of_at hA).trans (kept_alloc.trans (Kept.of_at hA2))) m2 ⟨fr,tl,GA.at ?_ T1.gW hA2⟩ hcs hh
  unfold GA at g1 ⊢
  rw [alloc_old T1.gL]; exact g1
theorem body_ret {fr:Bool} {tl:Int × Int × Int} (L:LiveRet th.gb th.box rb b₀ a₀ ops₀ i₀ rest₀ k₀ cl) (T:TKn h rb home k th E w) (g:GA w rb th false fr tl) (m:D.M s E w) (B:Back D h rb home th F E w s none (.ender rb)) :
    HG Try.prog th.j F E (G (b₀.at (a₀.put ((ops₀[i₀]?).bind (·.dst)) (.tuple #[])) (.inRegion ops₀ rest₀ :: k₀)) cl) w:=by
  refine HG.open fun E1 w1 hA ⟨gs,T',q,C,_⟩=>?_
  have hWH:∀ b,E1.W b=true→E1.H b=some 1:=C.fit.sub
  have hWH0:∀ b,E.W b=true→E.H b=some 1:=fun b hb=>by rw [← hA.1.H']; exact hWH b (by rw [hA.1.W']; exact hb)
  have T1:=T.kept (Kept.of_at hA) T.gct
  have g1:=GA.at g T.gW hA
  refine L.ret g1 T1.gW (C.keep th.j _ _ T1.stB) T1.bW T1.run T1.hj T1.j0 T1.wg (fun E2 w2 kk g₂ hA2 hcs hh=>?_)
  exact B E2 w2 kk g₂ (Kept.of_at (hA.trans hA2)) (Prot.at m hWH0 (hA.trans hA2)) ⟨fr,tl,GA.at g T.gW (hA.trans hA2)⟩ hcs hh
theorem body_step {n:Nat} {ℓ:Λ} (T:TKn h rb home k th E w) (g:GA w rb th false false (D.tal ℓ)) (m:D.M s E w) (O:OffAt th.gb th.box rb b₀ a₀ ops₀ i₀ rest₀ k₀ cl)
    (B:Back D h rb home th F E w s (some ℓ) (.seat th.ct (Srv D rb th (n+1) ℓ)))
    (hgo:∀ (h':Nat) (home':Goroutine→Prop) (k':Int) (F':Machine→Trace→Prop) (E':Env) (w':World) (s':σ),TKn h' rb home' k' th E' w'→GA w' rb th false false (IntKind.i64.wrap ((D.tal ℓ).1+1),(D.tal ℓ).2.1,(D.tal ℓ).2.2)→D.M s' E' w'→D.fits ℓ s' →
      (∀ s'' o,D.next ℓ k' s' (s'',o)→Back D h' rb home' th F' E' w' s'' o (roleOf (Srv D rb th n) rb th o))→HG Try.prog th.j F' E' (G (b₀.at (a₀.put ((ops₀[i₀]?).bind (·.dst)) (.tuple #[])) (.inRegion ops₀ rest₀ :: k₀)) cl) w') :
    HGn Try.prog th.j F E w 100 (entry 33 Try.f33 #[.pointer (some ⟨th.gb,0,none⟩)] (b₀.at a₀ (.inRegion ops₀ (i₀ :: rest₀) :: k₀) :: cl)):=by
  refine HG.withH fun hWH _=>?_
  obtain ⟨k0,hct⟩:=T.ctC
  refine step_in (home':=Srv D rb th (n+1) ℓ) g T.gW T.run T.hj T.stT hct T.ctH T.noT (fun g₂ A=>?_) (fun E1 w1 kk g₂ hA hcs hh=>?_)
  · intro h' home' k' F' E' w' s' T' g' m' f'
    refine ⟨fun hb=>A.go g' T'.gW T'.role T'.noSt ?_,fun hb=>A.off g' T'.gW T'.role T'.noSt ?_⟩
    · have hk:=kept_set (j:=th.j) (o:=5) (w:=w') (v:=.int .i64 (IntKind.i64.wrap ((D.tal ℓ).1+1))) T'.gW
      refine hgo h' home' k' F' E' _ s' (T'.kept hk T'.gct) ?_ (Prot.set m' T'.gH) f' (fun s'' o hn=>(hb s'' o hn).kept hk)
      exact heap_set (a:=⟨th.gb,5,none⟩) (w:=w') rfl g'
    · have hk:=kept_set (j:=th.j) (o:=4) (w:=w') (v:=.bool true) T'.gW
      refine offAt_end (fr:=true) (tl:=D.tal ℓ) O (T'.kept hk T'.gct) ?_ (Prot.set m' T'.gH) (hb.kept hk)
      exact heap_set (a:=⟨th.gb,4,none⟩) (w:=w') rfl g'
  · exact B E1 w1 kk g₂ (Kept.of_at hA) (Prot.at m hWH hA) (GA.at g T.gW hA) hcs hh
end
end Go.Proofs.Ytimlbbleblijnaa.Co

namespace Go.Proofs.Ytimlbbleblijnaa.Co
open Go Go.Conc
open Go.ConcN (sumTo upd sumTo_upd upd_ne upd_same sumTo_congr le_sumTo)
structure PT where
  tb:Nat
  lb:Nat
  la:Nat
  lo:Nat
  cap:Nat
  ops:List (Int × Int × Int)
structure PS where
  ms:List Mk
  obs:List (Nat × Int)
  cnt:Nat→Nat
structure PL where
  t:Nat
  i:Nat
  b:Nat
def opN (L:List PT) (t i:Nat):Option Int:=(L[t]?).bind fun p=>(p.ops[i]?).map (·.2.2)
def opLen (L:List PT) (t:Nat):Nat:=((L[t]?).map (·.ops.length)).getD 0
def KC (K:Nat→Obj→Prop) (a:Addr) (v:Value):Prop:=∃ o,K a.block o∧∀ w:World,w.heap[a.block]?=some o→w.cell? a=some v
structure PlayM (mb:Nat) (K:Nat→Obj→Prop) (L:List PT) (s:PS) (E:Env) (w:World):Prop where
  mbH:E.H mb=none
  kobj:∀ b o,K b o→w.heap[b]?=some o∧E.H b=none∧b≠mb
  row:∃ mv,w.heap[mb]?=some (.cells #[mv] 27)∧w.ownsRow (mb+1) 37 4 mv s.ms.length (mksV s.ms)∧∀ g,mv.ownBlock=some g→E.H g=none∧(∀ ob ∈ s.obs,ob.1≠g)∧∀ b o,K b o→b≠g
  obs:∀ ob ∈ s.obs,ob.1≠mb∧E.H ob.1=none∧w.cell? ⟨ob.1,2,none⟩=some (.int .i64 ob.2)
  len:s.ms.length=sumTo L.length s.cnt
  cnt:∀ t,s.cnt t≤opLen L t
theorem PlayM.konst {mb:Nat} {K:Nat→Obj→Prop} {L:List PT} {s:PS} {E:Env} {w:World} (m:PlayM mb K L s E w) (a:Addr) (v:Value) (h:KC K a v):w.cell? a=some v∧E.H a.block=none∧a.block≠mb:=by
  obtain ⟨o,h1,h2⟩:=h
  obtain ⟨k1,k2,k3⟩:=m.kobj _ _ h1
  exact ⟨h2 w k1,k2,k3⟩
theorem ownsRow_same {w w':World} {B e sz n:Nat} {v:Value} {xs:List Value} (h:w.ownsRow B e sz v n xs) (hs:∀ g,v.ownBlock=some g→w'.heap[g]?=w.heap[g]?):w'.ownsRow B e sz v n xs:=by
  refine ⟨h.1,h.2.imp id fun ⟨g,cap,cur,e1,e2,e3,r⟩=>⟨g,cap,cur,e1,e2,?_,r⟩⟩
  rw [hs g (by rw [e1]; rfl)]; exact e3
theorem cell_hp {w w':World} {a:Addr} (h:w'.heap[a.block]?=w.heap[a.block]?):w'.cell? a=w.cell? a:=by
  unfold World.cell?; rw [h]
theorem cell_lt {w:World} {a:Addr} {v:Value} (h:w.cell? a=some v):a.block < w.heap.size:=World.block_lt_of_cell? w a h
def adv (L:List PT) (t i:Nat) (s:PS) (z:PS × Option PL):Prop :=
  (∃ b n,opN L t i=some n∧z=({ s with obs:=s.obs ++ [(b,n)] },some ⟨t,i,b⟩))∨(opLen L t=i∧z=(s,none))
def mark (s:PS) (t i:Nat) (k n:Int):PS:={ s with ms:=s.ms ++ [((t:Int),k,(i:Int),n)],cnt:=upd s.cnt t (i+1) }
def playD (mb:Nat) (K:Nat→Obj→Prop) (L:List PT):Prot PS PL where
  M:=PlayM mb K L
  next ℓ k s z:=∃ n,opN L ℓ.t ℓ.i=some n∧adv L ℓ.t (ℓ.i+1) (mark s ℓ.t ℓ.i k n) z
  fits ℓ s:=s.cnt ℓ.t=ℓ.i∧∃ n,opN L ℓ.t ℓ.i=some n∧(ℓ.b,n) ∈ s.obs
  who ℓ:=ℓ.t
  init t s:=∀ t',t≤t'→s.cnt t'=0
  mono:=fun ℓ k s s' o l2 h1 ⟨c2,n2,e2,m2⟩ hw ⟨n,hn,ha⟩=>by
    rcases ha with ⟨b,n',h3,h4⟩ | ⟨h3,h4⟩
    · cases h4
      exact ⟨(upd_ne _ _ hw).trans c2,n2,e2,List.mem_append_left _ m2⟩
    · cases h4
      exact ⟨(upd_ne _ _ hw).trans c2,n2,e2,m2⟩
  fresh:=fun ℓ k s s' l' h1 ⟨n,hn,ha⟩=>by
    rcases ha with ⟨b,n',h3,h4⟩ | ⟨h3,h4⟩
    · cases h4
      exact ⟨⟨upd_same ..,n',h3,List.mem_append_right _ (List.mem_singleton.2 rfl)⟩,rfl⟩
    · cases h4
  tal ℓ:=((ℓ.i:Int),0,0)
  closed:=fun s E w E' w' m hb=>by
    have hc:∀ {a v},w.cell? a=some v→E.H a.block=none→w'.cell? a=some v:=fun {a v} e1 e2=>(cell_hp (hb a.block (cell_lt e1) e2).2).trans e1
    obtain ⟨mv,r1,r2,r3⟩:=m.row
    have hl:=(Array.getElem?_eq_some_iff.1 r1).1
    refine ⟨(hb mb hl m.mbH).1,fun b o hk=>?_,⟨mv,by rw [(hb mb hl m.mbH).2]; exact r1,ownsRow_same r2 (fun g hg=>(hb g (r2.lt g hg).2 (r3 g hg).1).2),fun g hg=>⟨(hb g (r2.lt g hg).2 (r3 g hg).1).1,(r3 g hg).2⟩⟩,fun ob ho=>?_,m.len,m.cnt⟩
    · obtain ⟨k1,k2,k3⟩:=m.kobj b o hk
      have hl:=(Array.getElem?_eq_some_iff.1 k1).1
      exact ⟨(hb b hl k2).2.trans k1,(hb b hl k2).1,k3⟩
    · obtain ⟨k1,k2,k3⟩:=m.obs ob ho
      exact ⟨k1,(hb ob.1 (cell_lt k3) k2).1,hc k3 k2⟩
theorem quiet_kept {E:Env} {w w':World} {j:Nat} {gb:Option Nat} (hF:Far E.H E.W w w') (hfit:Fit E.H E.W w) {S:Nat→Prop} (hS:∀ c,S c→E.H c=none) (hold:∀ c,c < w.heap.size→¬ S c→(vw E.H w').heap[c]?=(vw E.H w).heap[c]?) :
    Kept j gb E w E w'∧∀ c,c < w.heap.size→¬ S c→E.W c=false→w'.heap[c]?=w.heap[c]?:=by
  obtain ⟨q1,q2⟩:=quiet_heap hF hfit
  refine ⟨⟨.refl j E,hF.size,fun b n hb hw _ hl=>q1 b hl hw (hold b hl (fun z=>by rw [hS b z] at hb; cases hb)),fun b hW x st sm e hx=>q2 b hW (hold b (Array.getElem?_eq_some_iff.1 hx).1 (fun z=>by have:=hfit.sub b hW; rw [hS b z] at this; cases this)) x st sm e hx,fun _ _ h=>.inl h,fun _ h=>.inl h⟩,fun c hl hn hW=>q1 c hl hW (hold c hl hn)⟩
theorem sumTo_le {f g:Nat→Nat}:∀ (n:Nat),(∀ i,f i≤g i)→sumTo n f≤sumTo n g
  | 0,_=>Nat.le_refl _
  | n+1,h=>Nat.add_le_add (sumTo_le n h) (h n)
structure RegsP (T:Array Value) (gb:Nat) (p:PT) (mb i:Nat):Prop where
  sz:T.size=27
  t0:T[0]?=some (.pointer (some ⟨gb,0,none⟩))
  t2:T[2]?=some (.pointer (some ⟨mb,0,none⟩))
  t3:T[3]?=some (.pointer (some ⟨p.tb,0,none⟩))
  t7:T[7]?=some (.slice (some ⟨p.la,p.lo,none⟩) p.ops.length p.cap)∨p.ops=[]
  t8:T[8]?=some (.int .i64 (p.ops.length:Int))
  t9:T[9]?=some (.int .i64 (i:Int))
section
variable {h rb mb t i b:Nat} {home:Goroutine→Prop} {k n:Int} {th:Th} {F:Machine→Trace→Prop} {E:Env} {w:World} {s:PS} {K:Nat→Obj→Prop} {L:List PT} {p:PT} {T:Array Value} {c:Frame} {cl:List Frame}
theorem playM_mark {E1:Env} {w1 w' x x':World} {mv:Value} (m:PlayM mb K L s E1 w1) (hF:Far E1.H E1.W w1 w') (hfit:Fit E1.H E1.W w1) (hx:x.heap=(vw E1.H w1).heap) (hx':x'.heap=(vw E1.H w').heap) (hmv:w1.heap[mb]?=some (.cells #[mv] 27)) (hi:s.cnt t=i) (hn:i < opLen L t∧t < L.length) (M:Marked (mb+1) mb mv (mksV s.ms ++ mkV ((t:Int),k,(i:Int),n)) (s.ms.length+1) x x') :
    PlayM mb K L (mark s t i k n) E1 w'∧∀ {j:Nat} {gb:Option Nat},Kept j gb E1 w1 E1 w'∧∀ a,E1.H a=some 1→E1.W a=false→a < w1.heap.size→w'.heap[a]?=w1.heap[a]?:=by
  obtain ⟨mv0,r1,r2,r3⟩:=m.row
  have e0:mv0=mv:=by
    rw [hmv] at r1
    simpa using r1.symm
  subst e0
  have hxs:x.heap.size=w1.heap.size:=by rw [hx]; simp
  have hS:∀ c,(c=mb∨mv0.ownBlock=some c)→E1.H c=none:=fun c hc=>by
    rcases hc with rfl | hc
    · exact m.mbH
    · exact (r3 c hc).1
  have hvis:∀ c,E1.H c=none→w'.heap[c]?=x'.heap[c]?:=fun c hc=>by rw [hx',vw_get_none hc]
  have hold:∀ c,c < w1.heap.size→¬ (c=mb∨mv0.ownBlock=some c)→(vw E1.H w').heap[c]?=(vw E1.H w1).heap[c]?:=fun c hc hn=>by
    rw [← hx',← hx]
    exact M.old c (by omega) (fun e=>hn (.inl e)) (fun e=>hn (.inr e))
  have hk:=fun (j:Nat) (gb:Option Nat)=>quiet_kept (j:=j) (gb:=gb) hF hfit hS hold
  have hWn:∀ c,E1.H c=none→E1.W c=false:=fun c hc=>by
    cases e:E1.W c with
    | false=>rfl
    | true=>have:=hfit.sub c e; rw [hc] at this; cases this
  have hcell:∀ {a v},w1.cell? a=some v→E1.H a.block=none→a.block≠mb→mv0.ownBlock≠some a.block→w'.cell? a=some v:=fun {a v} e1 e2 e3 e4 =>
    (cell_hp ((hk 0 none).2 a.block (cell_lt e1) (fun z=>z.elim e3 e4) (hWn _ e2))).trans e1
  obtain ⟨mv',v1,v2,v3⟩:=M.new
  have hg':∀ g,mv'.ownBlock=some g→E1.H g=none:=fun g hg=>by
    rcases v3 g hg with z | z
    · exact (r3 g z).1
    · exact hfit.bound g (by omega)
  refine ⟨⟨m.mbH,fun b o hka=>?_,⟨mv',by rw [hvis mb m.mbH]; exact v1,?_,fun g hg=>⟨hg' g hg,fun ob ho=>?_,fun b o hka=>?_⟩⟩,fun ob ho=>?_,?_,fun t'=>?_⟩,fun {j gb}=>⟨(hk j gb).1,fun a h1 h2 h3=>(hk j gb).2 a h3 (fun z=>by rw [hS a z] at h1; cases h1) h2⟩⟩
  · obtain ⟨k1,k2,k3⟩:=m.kobj b o hka
    have hl:=(Array.getElem?_eq_some_iff.1 k1).1
    exact ⟨((hk 0 none).2 b hl (fun z=>z.elim k3 (fun e=>(r3 _ e).2.2 b o hka rfl)) (hWn _ k2)).trans k1,k2,k3⟩
  · have e1:(mark s t i k n).ms.length=s.ms.length+1:=by simp [mark]
    have e2:mksV (mark s t i k n).ms=mksV s.ms ++ mkV ((t:Int),k,(i:Int),n):=mksV_snoc _ _
    rw [e1,e2]
    exact ownsRow_same v2 (fun g hg=>hvis g (hg' g hg))
  · rcases v3 g hg with z | z
    · exact (r3 g z).2.1 ob ho
    · have:=cell_lt (m.obs ob ho).2.2
      dsimp only at this
      omega
  · rcases v3 g hg with z | z
    · exact (r3 g z).2.2 b o hka
    · have:=(Array.getElem?_eq_some_iff.1 (m.kobj b o hka).1).1
      omega
  · obtain ⟨k1,k2,k3⟩:=m.obs ob ho
    exact ⟨k1,k2,hcell k3 k2 k1 (fun e=>(r3 _ e).2.1 ob ho rfl)⟩
  · have h1:=sumTo_upd s.cnt (i+1) (fun x=>x) (j:=L.length) (i:=t) hn.2
    have h2:=m.len
    show (s.ms ++ [_]).length=sumTo L.length (upd s.cnt t (i+1))
    simp only [List.length_append,List.length_cons,List.length_nil]
    have h3:sumTo L.length (fun a=>upd s.cnt t (i+1) a)=sumTo L.length (upd s.cnt t (i+1)):=rfl
    have h4:sumTo L.length (fun a=>s.cnt a)=sumTo L.length s.cnt:=rfl
    omega
  · show upd s.cnt t (i+1) t'≤_
    by_cases e:t'=t
    · subst e
      rw [upd_same]; exact hn.1
    · rw [upd_ne _ _ e]; exact m.cnt t'
end
section
variable {h rb mb t i b:Nat} {home:Goroutine→Prop} {k n:Int} {th:Th} {F:Machine→Trace→Prop} {E:Env} {w:World} {s:PS} {K:Nat→Obj→Prop} {L:List PT} {p:PT} {Tr:Array Value} {c:Frame} {cl:List Frame}
theorem runObj_first {x:Value} {st sm:Int} {e:TypeId} {w:World} {rb:Nat} {v:Value} (h:w.heap[rb]?=some (runObj x st sm e)) (hc:w.cell? ⟨rb,0,none⟩=some v):x=v:=by
  have:=obj_cell (o:=0) (v:=x) (by unfold runObj at h; exact h) rfl
  rw [this] at hc
  exact Option.some.inj hc
end
structure PTok (K:Nat→Obj→Prop) (L:List PT) (t:Nat) (p:PT):Prop where
  pt:L[t]?=some p
  kt:KC K ⟨p.tb,0,none⟩ (.int .i64 (t:Int))
  kl:∃ aa,KC K ⟨p.lb,0,none⟩ (.slice aa p.ops.length p.cap)∧(p.ops≠[]→aa=some ⟨p.la,p.lo,none⟩)
  ops:∀ i op,p.ops[i]?=some op→KC K ⟨p.la,p.lo+i * 3,none⟩ (.int .i64 op.1)∧KC K ⟨p.la,p.lo+i * 3+1,none⟩ (.int .i64 op.2.1)∧KC K ⟨p.la,p.lo+i * 3+2,none⟩ (.int .i64 op.2.2)
  len:p.ops.length≤1000000000000
theorem PTok.n {K:Nat→Obj→Prop} {L:List PT} {t:Nat} {p:PT} (P:PTok K L t p) {i:Nat} {op:Int × Int × Int} (h:p.ops[i]?=some op):opN L t i=some op.2.2:=by unfold opN; rw [P.pt]; simp [h]
theorem PTok.ln {K:Nat→Obj→Prop} {L:List PT} {t:Nat} {p:PT} (P:PTok K L t p):opLen L t=p.ops.length:=by unfold opLen; rw [P.pt]; rfl
section
variable {h rb mb t i b:Nat} {home:Goroutine→Prop} {k n:Int} {th:Th} {F:Machine→Trace→Prop} {E:Env} {w:World} {s:PS} {K:Nat→Obj→Prop} {L:List PT} {p:PT} {Tr:Array Value} {c:Frame} {cl:List Frame}
end
end Go.Proofs.Ytimlbbleblijnaa.Co
