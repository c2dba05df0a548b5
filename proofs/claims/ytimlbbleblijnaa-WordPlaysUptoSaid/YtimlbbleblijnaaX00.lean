/- Lemmas for the laws of this seat, laid together of PG1, PG2, PG3, PG4, PG5. -/
import Derived.Conc.Events
import GoSem.Dispatch

set_option linter.unusedVariables false
set_option linter.unusedSimpArgs false
set_option maxRecDepth 100000
set_option maxHeartbeats 4000000
namespace Go.Proofs.Ytimlbbleblijnaa.Co
def hideObj (n:Nat):Obj→Obj
 | .cells c e f=>.cells (c.extract 0 n) e f
 | .pending ..=>.coro none
 | .chan ..=>.coro none
 | .view _ t=>.view ⟨0,0,some 0⟩ t
 | o=>o
def hideAt (D:Nat→Option Nat) (b:Nat) (o:Obj):Obj:=match D b with
 | none=>o
 | some n=>hideObj n o
def vw (D:Nat→Option Nat) (w:World):World:={ w with heap:=w.heap.mapIdx (hideAt D) }
section
variable {D:Nat→Option Nat} {w:World}
@[simp] theorem vw_size:(vw D w).heap.size=w.heap.size:=by simp [vw]
@[simp] theorem vw_tape:(vw D w).tape=w.tape:=rfl
@[simp] theorem vw_drawn:(vw D w).drawn=w.drawn:=rfl
@[simp] theorem vw_os:(vw D w).os=w.os:=rfl
@[simp] theorem vw_output:(vw D w).output=w.output:=rfl
theorem vw_get (b:Nat):(vw D w).heap[b]?=(w.heap[b]?).map (hideAt D b):=by simp [vw]
theorem vw_get_none {b:Nat} (h:D b=none):(vw D w).heap[b]?=w.heap[b]?:=by
 rw [vw_get]; unfold hideAt; rw [h]; cases w.heap[b]? <;> rfl
theorem vw_get_some {b n:Nat} (h:D b=some n):(vw D w).heap[b]?=(w.heap[b]?).map (hideObj n):=by
 rw [vw_get]; unfold hideAt; rw [h]
def Vis (D:Nat→Option Nat) (a:Addr):Prop:=∀ n,D a.block=some n→a.off < n
theorem vw_cell {a:Addr} {v:Value} (h:(vw D w).cell? a=some v):w.cell? a=some v∧Vis D a:=by
 cases hD:D a.block with
 | none =>
   refine ⟨?_,fun n hn=>by rw [hD] at hn; cases hn⟩
   unfold World.cell? at *
   rw [vw_get_none hD] at h
   exact h
 | some n =>
   unfold World.cell? at *
   rw [vw_get_some hD] at h
   cases ho:w.heap[a.block]? with
   | none=>rw [ho] at h; cases h
   | some o =>
     rw [ho] at h
     cases o with
     | cells c e f =>
       simp only [Option.map_some,hideObj] at h
       split at h
       ·cases h
       ·rename_i hs
        simp only [hs,if_false]
        rw [Array.getElem?_extract] at h
        split at h
        ·rename_i hlt
         refine ⟨by simpa using h,fun m hm=>?_⟩
         rw [hD] at hm; cases hm; omega
        ·cases h
     | _=>simp [hideObj] at h
theorem vw_frozen {a:Addr}:(vw D w).frozen? a=w.frozen? a:=by
 cases hD:D a.block with
 | none=>unfold World.frozen?; rw [vw_get_none hD]
 | some n =>
   unfold World.frozen?
   rw [vw_get_some hD]
   cases ho:w.heap[a.block]? with
   | none=>rfl
   | some o=>cases o <;> rfl
theorem vw_shape (b:Nat):(vw D w).shape? b=w.shape? b∨∃ e n n',w.shape? b=some (e,n')∧(vw D w).shape? b=some (e,n)∧n≤n':=by
 cases hD:D b with
 | none=>left; unfold World.shape?; rw [vw_get_none hD]
 | some n =>
   unfold World.shape?
   rw [vw_get_some hD]
   cases ho:w.heap[b]? with
   | none=>left; rfl
   | some o =>
     cases o with
     | cells c e f=>right; exact ⟨e,_,_,rfl,rfl,by simp; omega⟩
     | _=>left; rfl
theorem vw_setCell {a:Addr} {v0:Value} (h:(vw D w).cell? a=some v0) (v:Value):(vw D w).setCell a v=vw D (w.setCell a v):=by
 obtain ⟨hc,hv⟩:=vw_cell h
 unfold World.setCell vw
 congr 1
 apply Array.ext_getElem?
 intro i
 simp only [Array.getElem?_modify,Array.getElem?_mapIdx]
 by_cases hi:a.block=i
 ·subst hi
  simp only [if_true]
  cases ho:w.heap[a.block]? with
  | none=>rfl
  | some o =>
    simp only [Option.map_some]
    congr 1
    unfold hideAt
    cases hD:D a.block with
    | none=>rfl
    | some n =>
      have hn:=hv n hD
      cases o with
      | cells c e f =>
        simp only [hideObj]
        split
        ·rfl
        ·congr 1
         apply Array.ext_getElem?
         intro j
         simp only [Array.getElem?_setIfInBounds,Array.getElem?_extract,Array.size_extract,Array.size_setIfInBounds]
         by_cases hj:a.off=j
         ·subst hj; simp only [if_true]; grind
         ·simp [hj]
      | _=>rfl
 ·simp [hi]
theorem hide_new (D:Nat→Option Nat) (h:Array Obj) (o:Obj) (hD:D h.size=none):(h.push o).mapIdx (hideAt D)=(h.mapIdx (hideAt D)).push o:=by
 rw [Array.mapIdx_push]; unfold hideAt; rw [hD]
theorem hide_set (D:Nat→Option Nat) (h:Array Obj) (r:Nat) (o:Obj) (hD:D r=none):(h.mapIdx (hideAt D)).setIfInBounds r o=(h.setIfInBounds r o).mapIdx (hideAt D):=by
 apply Array.ext_getElem?
 intro i
 simp only [Array.getElem?_setIfInBounds,Array.getElem?_mapIdx,Array.size_mapIdx]
 by_cases hi:r=i
 ·subst hi
  simp only [if_true]
  split
  ·simp [hideAt,hD]
  ·rfl
 ·simp [hi]
end
def _root_.Go.Halt.final:Halt→Bool
 | .stuck _=>true
 | .unsupported (.initOrder _)=>false
 | .unsupported _=>true
 | _=>false
def _root_.Go.Halt.fair:Halt→Bool
 | .panic _=>true
 | h=>h.final
def _root_.Go.Obj.fair:Obj→Bool
 | .pending ..=>false
 | .view a _=>a.spot.isSome
 | _=>true
def Dead (P:Program) {α:Type}:Sem α→Prop
 | .pure _=>False
 | .load _ _ k=>∀ v,Dead P (k v)
 | .store _ _ _ k=>Dead P k
 | .new o k=>o.fair=true∧∀ r,Dead P (k r)
 | .shape _ k=>∀ s,Dead P (k s)
 | .freeze _ _ k=>Dead P k
 | .frozen _ k=>∀ b,Dead P (k b)
 | .getObj _ k=>∀ o,Dead P (k o)
 | .setObj _ o k=>o.fair=true∧Dead P k
 | .choose _ k=>∀ n,Dead P (k n)
 | .sys _ k=>∀ r,Dead P (k r)
 | .program k=>Dead P (k P)
 | .mark _ k=>Dead P k
 | .halt h=>h.final=true
def Calm (P:Program) {α:Type}:List Nat→Sem α→Prop
 | _,.pure _=>True
 | S,.load _ _ k=>∀ v,Calm P S (k v)
 | S,.store _ _ _ k=>Calm P S k
 | S,.new o k=>o.fair=true∧∀ r,Calm P (r :: S) (k r)
 | S,.shape _ k=>(∀ s,Calm P S (k s)∨Dead P (k s))∧∀ e n n',n≤n'→Dead P (k (some (e,n)))∨∀ v es,(k (some (e,n))).runT P v es=(k (some (e,n'))).runT P v es
 | _,.freeze ..=>False
 | S,.frozen _ k=>∀ b,Calm P S (k b)
 | S,.getObj r k=>(∀ o,Calm P (r :: S) (k o))∧(∀ a a' t,Dead P (k (.view a t))∨(Calm P S (k (.view a t))∧k (.view a t)=k (.view a' t)))∧(Dead P (k (.coro none))∨(Calm P S (k (.coro none))∧(∀ c e,k (.pending c e)=k (.coro none))∧(∀ c b l s r m,k (.chan c b l s r m)=k (.coro none))))
 | S,.setObj r o k=>r ∈ S∧o.fair=true∧Calm P S k
 | S,.choose _ k=>∀ n,Calm P S (k n)
 | _,.sys ..=>False
 | S,.program k=>Calm P S (k P)
 | S,.mark m k=>(m=.noRoom∨∃ f,m=.extern f)∧Calm P S k
 | _,.halt h=>h.fair=true
theorem Calm.more {P:Program} {α:Type} (s:Sem α):∀ {S S':List Nat},Calm P S s→(∀ r ∈ S,r ∈ S')→Calm P S' s:=by
 induction s with
 | pure a=>intro S S' _ _; trivial
 | load m a k ih=>exact fun h hs v=>ih v (h v) hs
 | store m a u k ih=>exact fun h hs=>ih h hs
 | new o k ih=>exact fun h hs=>⟨h.1,fun r=>ih r (h.2 r) (fun x hx=>by
   rcases List.mem_cons.1 hx with rfl | hx
   ·exact List.mem_cons_self ..
   ·exact List.mem_cons_of_mem _ (hs x hx))⟩
 | shape r k ih=>exact fun h hs=>⟨fun s=>(h.1 s).imp (fun a=>ih s a hs) id,h.2⟩
 | freeze a n k ih=>exact fun h _=>h.elim
 | frozen a k ih=>exact fun h hs v=>ih v (h v) hs
 | getObj r k ih=>exact fun h hs=>⟨fun o=>ih o (h.1 o) (fun x hx=>by
   rcases List.mem_cons.1 hx with rfl | hx
   ·exact List.mem_cons_self ..
   ·exact List.mem_cons_of_mem _ (hs x hx)),fun a a' t=>(h.2.1 a a' t).imp id fun ⟨x,y⟩=>⟨ih _ x hs,y⟩,h.2.2.imp id fun ⟨a,b⟩=>⟨ih _ a hs,b⟩⟩
 | setObj r o k ih=>exact fun h hs=>⟨hs _ h.1,h.2.1,ih h.2.2 hs⟩
 | choose q k ih=>exact fun h hs v=>ih v (h v) hs
 | sys c k ih=>exact fun h _=>h.elim
 | program k ih=>exact fun h hs=>ih _ h hs
 | mark m k ih=>exact fun h hs=>⟨h.1,ih h.2 hs⟩
 | halt x=>exact fun h _=>h
def Fair (v:World):Prop:=∀ (b:Nat) (o:Obj),v.heap[b]?=some o→o.fair=true
theorem Fair.noCell {v:World} (h:Fair v) (a:Addr) (s:String):(v.noCell a s).final=true:=by
 unfold World.noCell
 cases ho:v.heap[a.block]? with
 | none=>rfl
 | some o=>have:=h _ _ ho; cases o <;> first | rfl | cases this
theorem Fair.farLoad {v:World} (h:Fair v) (P:Program) (a:Addr) (m:Bool):∃ e,v.farLoad P a m=.error e∧e.final=true:=by
 unfold World.farLoad
 cases ho:v.heap[a.block]? with
 | none=>exact ⟨_,rfl,h.noCell a _⟩
 | some o =>
   have:=h _ _ ho
   cases o with
   | view at_ u =>
     have hs:at_.spot.isSome=true:=this
     have:∃ e,v.viewLoad P at_ u a m=.error e:=by
      unfold World.viewLoad World.seen
      simp only [hs,Bool.or_true,if_true]
      exact ⟨_,rfl⟩
     obtain ⟨e,he⟩:=this
     simp only [he]
     exact ⟨_,rfl,rfl⟩
   | _=>exact ⟨_,rfl,h.noCell a _⟩
theorem Fair.farStore {v:World} (h:Fair v) (P:Program) (a:Addr) (x:Value) (m:Bool):∃ e,v.farStore P a x m=.error e∧e.final=true:=by
 unfold World.farStore
 cases ho:v.heap[a.block]? with
 | none=>exact ⟨_,rfl,h.noCell a _⟩
 | some o =>
   have:=h _ _ ho
   cases o with
   | view at_ u =>
     have hs:at_.spot.isSome=true:=this
     have:∃ e,v.viewStore P at_ u a x m=.error e:=by
      unfold World.viewStore World.seen
      by_cases ht:(!tight P P.depth u)=true
      ·simp only [ht,if_true]; exact ⟨_,rfl⟩
      ·simp only [ht,if_false,hs,Bool.or_true,if_true]; exact ⟨_,rfl⟩
     obtain ⟨e,he⟩:=this
     simp only [he]
     exact ⟨_,rfl,rfl⟩
   | _=>exact ⟨_,rfl,h.noCell a _⟩
theorem Fair.setCell {v:World} (h:Fair v) (a:Addr) (u:Value):Fair (v.setCell a u):=by
 intro b o ho
 unfold World.setCell at ho
 simp only [Array.getElem?_modify] at ho
 split at ho
 ·cases hx:v.heap[b]? with
  | none=>rw [hx] at ho; cases ho
  | some x =>
    rw [hx] at ho
    have:=h _ _ hx
    simp only [Option.map_some,Option.some.injEq] at ho
    subst ho
    cases x <;> first | rfl | exact this
 ·exact h _ _ ho
theorem Fair.new {v:World} (h:Fair v) {o:Obj} (ho:o.fair=true):Fair { v with heap:=v.heap.push o }:=by
 intro b x hx
 simp only [Array.getElem?_push] at hx
 split at hx
 ·cases hx; exact ho
 ·exact h _ _ hx
theorem Fair.set {v:World} (h:Fair v) (r:Nat) {o:Obj} (ho:o.fair=true):Fair { v with heap:=v.heap.setIfInBounds r o }:=by
 intro b x hx
 simp only [Array.getElem?_setIfInBounds] at hx
 split at hx
 ·split at hx
  ·cases hx; exact ho
  ·cases hx
 ·exact h _ _ hx
structure Keeps (D:Nat→Option Nat) (w w':World):Prop where
 os:w'.os=w.os
 output:w'.output=w.output
 tape:w'.tape=w.tape
 size:w.heap.size≤w'.heap.size
 kind:∀ (b n:Nat),D b=some n→b < w.heap.size→(∃ c c' e f,w.heap[b]?=some (.cells c e f)∧w'.heap[b]?=some (.cells c' e f)∧c'.size=c.size∧∀ i,n≤i→c'[i]?=c[i]?)∨w'.heap[b]?=w.heap[b]?
theorem Keeps.refl (D:Nat→Option Nat) (w:World):Keeps D w w:=⟨rfl,rfl,rfl,Nat.le_refl _,fun _ _ _ _=>.inr rfl⟩
theorem Keeps.trans {D:Nat→Option Nat} {w w' w'':World} (h:Keeps D w w') (h':Keeps D w' w''):Keeps D w w'':=by
 refine ⟨h'.os.trans h.os,h'.output.trans h.output,h'.tape.trans h.tape,Nat.le_trans h.size h'.size,fun b n hD hb=>?_⟩
 rcases h.kind b n hD hb with ⟨c,c',e,f,h1,h2,h3,h4⟩ | h1
 ·rcases h'.kind b n hD (Nat.lt_of_lt_of_le hb h.size) with ⟨c1,c2,e1,f1,k1,k2,k3,k4⟩ | k1
  ·rw [h2] at k1
   simp only [Option.some.injEq,Obj.cells.injEq] at k1
   obtain ⟨rfl,rfl,rfl⟩:=k1
   exact .inl ⟨c,c2,e,f,h1,k2,k3.trans h3,fun i hi=>(k4 i hi).trans (h4 i hi)⟩
  ·exact .inl ⟨c,c',e,f,h1,k1.trans h2,h3,h4⟩
 ·rcases h'.kind b n hD (Nat.lt_of_lt_of_le hb h.size) with ⟨c1,c2,e1,f1,k1,k2,k3,k4⟩ | k1
  ·exact .inl ⟨c1,c2,e1,f1,h1 ▸ k1,k2,k3,k4⟩
  ·exact .inr (k1.trans h1)
def EvV (D:Nat→Option Nat) (n:Nat) (e:Event):Prop:=match e.loc with
 | .cell a=>a.block < n∧Vis D a
 | .obj r=>r < n∧(e.write=false∨D r=none)
 | .mark m=>m=.noRoom∨∃ f,m=.extern f
 | _=>False
theorem EvV.mono {D:Nat→Option Nat} {n n':Nat} {e:Event} (h:EvV D n e) (hn:n≤n'):EvV D n' e:=by
 obtain ⟨l,wr,sy⟩:=e
 unfold EvV at *
 cases l <;> first | exact ⟨Nat.lt_of_lt_of_le h.1 hn,h.2⟩ | exact h
theorem Fair.freeze {v:World} (h:Fair v) (a:Addr) (n:Nat):Fair (v.freeze a n):=by
 intro b o ho
 unfold World.freeze at ho
 split at ho
 ·exact h _ _ ho
 ·simp only [Array.getElem?_modify] at ho
  split at ho
  ·cases hx:v.heap[b]? with
   | none=>rw [hx] at ho; cases ho
   | some x =>
     rw [hx] at ho
     have:=h _ _ hx
     simp only [Option.map_some,Option.some.injEq] at ho
     subst ho
     cases x <;> first | rfl | exact this
  ·exact h _ _ ho
theorem ask_heap {α:Type}:∀ (a:Ask α) (w:World),(w.ask a).2.heap=w.heap
 | .done a,w=>rfl
 | .ask what range k,w=>by
   unfold World.ask
   dsimp only
   split
   ·exact ask_heap _ _
   ·exact (ask_heap _ _).trans rfl
theorem sys_heap (w:World) (c:Sys):(w.sys c).2.heap=w.heap:=by
 have:=ask_heap (Kernel.perform c w.os) w
 unfold World.sys
 split
 ·rfl
 ·rename_i h
  rw [h] at this
  exact this
theorem runT_store {α:Type} {P:Program} {m:Mode} {a:Addr} {u:Value} {k:Sem α} (hg:¬ ((∃ c,u=.agg c)∨∃ c,u=.tuple c)) (x:World) (es:Array Event):(Sem.store m a u k).runT P x es=match x.cell? a with
  | some _=>if x.frozen? a then (.halt (.unsupported (.unsafePointer "a write to bytes that a string shares")) x,es) else k.runT P (x.setCell a u) (es.push ⟨.cell a,true,m == .atomic⟩)
  | none=>match x.farStore P a u (m == .atomic) with
    | .ok (w,touched)=>k.runT P w (es ++ touched.toArray.map (⟨.cell ·,true,m == .atomic⟩))
    | .error h=>(.halt h x,es):=by
 cases u <;> first | rfl | (exact absurd (.inl ⟨_,rfl⟩) hg) | (exact absurd (.inr ⟨_,rfl⟩) hg)
theorem dead_run {α:Type} {P:Program} (s:Sem α):∀ (v:World) (es:Array Event),Dead P s→Fair v→∃ h v' es',s.runT P v es=(.halt h v',es')∧h.final=true:=by
 induction s with
 | pure a=>intro v es h _; exact h.elim
 | load m a k ih =>
   intro v es h hf
   simp only [Sem.runT]
   split
   ·exact ih _ _ _ (h _) hf
   ·obtain ⟨e,he,h2⟩:=hf.farLoad P a (m == .atomic)
    rw [he]
    exact ⟨_,_,_,rfl,h2⟩
 | store m a u k ih =>
   intro v es h hf
   by_cases hg:(∃ c,u=.agg c)∨∃ c,u=.tuple c
   ·rcases hg with ⟨c,rfl⟩ | ⟨c,rfl⟩
    ·exact ⟨.stuck "store: not the value of one cell",v,es,rfl,rfl⟩
    ·exact ⟨.stuck "store: not the value of one cell",v,es,rfl,rfl⟩
   ·rw [runT_store hg]
    split
    ·split
     ·exact ⟨_,_,_,rfl,rfl⟩
     ·exact ih _ _ h (hf.setCell _ _)
    ·obtain ⟨e,he,h2⟩:=hf.farStore P a u (m == .atomic)
     rw [he]
     exact ⟨_,_,_,rfl,h2⟩
 | new o k ih=>intro v es h hf; exact ih _ _ _ (h.2 _) (hf.new h.1)
 | shape r k ih=>intro v es h hf; exact ih _ _ _ (h _) hf
 | freeze a n k ih=>intro v es h hf; exact ih _ _ h (hf.freeze _ _)
 | frozen a k ih=>intro v es h hf; exact ih _ _ _ (h _) hf
 | getObj r k ih =>
   intro v es h hf
   simp only [Sem.runT]
   split
   ·exact ⟨_,_,_,rfl,rfl⟩
   ·exact ih _ _ _ (h _) hf
   ·exact ⟨_,_,_,rfl,rfl⟩
 | setObj r o k ih =>
   intro v es h hf
   simp only [Sem.runT]
   split
   ·exact ⟨_,_,_,rfl,rfl⟩
   ·exact ih _ _ h.2 (hf.set _ h.1)
   ·exact ⟨_,_,_,rfl,rfl⟩
 | choose q k ih =>
   intro v es h hf
   simp only [Sem.runT]
   split
   ·exact ih _ _ _ (h _) hf
   ·exact ih _ _ _ (h _) hf
 | sys c k ih =>
   intro v es h hf
   exact ih _ _ _ (h _) (fun b o ho=>hf b o (by rw [← sys_heap v c]; exact ho))
 | program k ih=>intro v es h hf; exact ih _ _ _ h hf
 | mark m k ih=>intro v es h hf; exact ih _ _ h hf
 | halt h=>intro v es h' _; exact ⟨_,_,_,rfl,h'⟩
def Bounded (D:Nat→Option Nat) (w:World):Prop:=∀ b,w.heap.size≤b→D b=none
def Hides (D:Nat→Option Nat) (w:World):Prop:=∀ (b n:Nat) (o:Obj),D b=some n→w.heap[b]?=some o→(∃ c e f,o=.cells c e f)∨(∃ c e,o=.pending c e)∨(∃ c b l s r m,o=.chan c b l s r m)∨∃ a t,o=.view a t
theorem Keeps.hides {D:Nat→Option Nat} {w w':World} (h:Keeps D w w') (hb:Bounded D w) (hH:Hides D w):Hides D w':=by
 intro b n o hD ho
 have hlt:b < w.heap.size:=Nat.lt_of_not_le fun hle=>by rw [hb b hle] at hD; cases hD
 rcases h.kind b n hD hlt with ⟨c,c',e,f,_,h2,_⟩ | h1
 ·rw [h2] at ho; cases ho; exact .inl ⟨_,_,_,rfl⟩
 ·rw [h1] at ho; exact hH b n o hD ho
def SimR {α:Type} (D:Nat→Option Nat) (w:World) (es:Array Event) (r:Result α) (q:Result α × Array Event):Prop :=
 match r with
 | .ok a v'=>∃ w' new,q=(.ok a w',es ++ new)∧v'=vw D w'∧Keeps D w w'∧Fair (vw D w')∧∀ e ∈ new,EvV D w'.heap.size e
 | .halt h v'=>h.fair=true∧(h.final=false→∃ w' new,q=(.halt h w',es ++ new)∧v'=vw D w'∧Keeps D w w'∧Fair (vw D w')∧∀ e ∈ new,EvV D w'.heap.size e)
theorem SimR.ends {α:Type} {D:Nat→Option Nat} {w v':World} {es:Array Event} {h:Halt} {q:Result α × Array Event} (hf:h.final=true):SimR D w es (.halt h v') q:=by
 refine ⟨?_,fun h2=>by rw [hf] at h2; cases h2⟩
 cases h <;> first | exact hf | rfl
theorem SimR.after {α:Type} {D:Nat→Option Nat} {w w1:World} {es:Array Event} {r:Result α} {q:Result α × Array Event} {l:Array Event} (hk:Keeps D w w1) (hl:∀ e ∈ l,EvV D w1.heap.size e) (h:SimR D w1 (es ++ l) r q):SimR D w es r q:=by
 cases r with
 | ok a v' =>
   obtain ⟨w',new,h1,h3,h4,h5,h6⟩:=h
   exact ⟨w',l ++ new,by rw [h1,Array.append_assoc],h3,hk.trans h4,h5,fun e he=>(Array.mem_append.1 he).elim (fun x=>(hl e x).mono h4.size) (h6 e)⟩
 | halt x v' =>
   refine ⟨h.1,fun hx=>?_⟩
   obtain ⟨w',new,h1,h3,h4,h5,h6⟩:=h.2 hx
   exact ⟨w',l ++ new,by rw [h1,Array.append_assoc],h3,hk.trans h4,h5,fun e he=>(Array.mem_append.1 he).elim (fun x=>(hl e x).mono h4.size) (h6 e)⟩
theorem SimR.after0 {α:Type} {D:Nat→Option Nat} {w w1:World} {es:Array Event} {r:Result α} {q:Result α × Array Event} (hk:Keeps D w w1) (h:SimR D w1 es r q):SimR D w es r q :=
 SimR.after (l:=#[]) hk (fun e he=>by simp at he) (by simpa using h)
theorem lt_of_cell {w:World} {a:Addr} {v:Value} (h:w.cell? a=some v):a.block < w.heap.size:=by
 unfold World.cell? at h
 cases ho:w.heap[a.block]? with
 | none=>rw [ho] at h; cases h
 | some o=>exact (Array.getElem?_eq_some_iff.1 ho).1
theorem Keeps.setCell {D:Nat→Option Nat} {w:World} {a:Addr} (hv:Vis D a) (u:Value):Keeps D w (w.setCell a u):=by
 refine ⟨rfl,rfl,rfl,by simp [World.setCell],fun b n hD hb=>?_⟩
 by_cases hi:a.block=b
 ·subst hi
  have hn:=hv n hD
  obtain ⟨o,ho⟩:∃ o,w.heap[a.block]?=some o:=⟨_,Array.getElem?_eq_getElem hb⟩
  cases o with
  | cells c e f =>
    refine .inl ⟨c,if a.spot.isSome then c else c.setIfInBounds a.off u,e,f,ho,?_,?_,?_⟩
    ·simp [World.setCell,Array.getElem?_modify,ho]
    ·split <;> simp
    ·intro i hi
     split
     ·rfl
     ·rw [Array.getElem?_setIfInBounds_ne (by omega)]
  | _=>exact .inr (by simp [World.setCell,Array.getElem?_modify,ho])
 ·exact .inr (by simp [World.setCell,Array.getElem?_modify,hi])
theorem Keeps.new {D:Nat→Option Nat} {w:World} (o:Obj):Keeps D w { w with heap:=w.heap.push o } :=
 ⟨rfl,rfl,rfl,by simp,fun b n hD hb=>.inr (by simp only [Array.getElem?_push]; rw [if_neg (by omega)])⟩
theorem Keeps.set {D:Nat→Option Nat} {w:World} {r:Nat} (o:Obj) (hr:D r=none):Keeps D w { w with heap:=w.heap.setIfInBounds r o } :=
 ⟨rfl,rfl,rfl,by simp,fun b n hD hb=>.inr (Array.getElem?_setIfInBounds_ne (fun e=>by subst e; rw [hr] at hD; cases hD))⟩
theorem Keeps.drawn {D:Nat→Option Nat} {w:World} (d:Nat):Keeps D w { w with drawn:=d }:=⟨rfl,rfl,rfl,Nat.le_refl _,fun b n hD hb=>.inr rfl⟩
theorem run_vw {α:Type} {P:Program} {D:Nat→Option Nat} (s:Sem α):∀ (S:List Nat) (w:World) (es1 es:Array Event),Calm P S s→(∀ r ∈ S,D r=none)→Fair (vw D w)→Bounded D w→Hides D w→SimR D w es (s.runT P (vw D w) es1).1 (s.runT P w es):=by
 induction s with
 | pure a =>
   intro S w es1 es h hS hf hb hH
   exact ⟨w,#[],by simp [Sem.runT],rfl,Keeps.refl _ _,hf,fun e he=>by simp at he⟩
 | load m a k ih =>
   intro S w es1 es h hS hf hb hH
   simp only [Sem.runT]
   cases hc:(vw D w).cell? a with
   | some u =>
     obtain ⟨hc',hv⟩:=vw_cell hc
     simp only [hc']
     rw [← Array.append_singleton (as:=es)]
     exact (ih u S w _ _ (h u) hS hf hb hH).after (Keeps.refl _ _) (fun e he=>by
      simp only [List.mem_toArray,List.mem_cons,List.not_mem_nil,or_false] at he
      subst he
      exact ⟨lt_of_cell hc',hv⟩)
   | none =>
     obtain ⟨e,he,h2⟩:=hf.farLoad P a (m == .atomic)
     simp only [he]
     exact SimR.ends h2
 | store m a u k ih =>
   intro S w es1 es h hS hf hb hH
   by_cases hg:(∃ c,u=.agg c)∨∃ c,u=.tuple c
   ·rcases hg with ⟨c,rfl⟩ | ⟨c,rfl⟩ <;> exact SimR.ends rfl
   ·rw [runT_store hg,runT_store hg]
    cases hc:(vw D w).cell? a with
    | some u0 =>
      obtain ⟨hc',hv⟩:=vw_cell hc
      simp only [hc',vw_frozen]
      split
      ·exact SimR.ends rfl
      ·rw [vw_setCell hc,← Array.append_singleton (as:=es)]
       exact (ih S (w.setCell a u) _ _ h hS (by rw [← vw_setCell hc]; exact hf.setCell _ _) (fun b hb'=>hb b (by simpa [World.setCell] using hb')) ((Keeps.setCell hv u).hides hb hH)).after (Keeps.setCell hv u) (fun e he=>by
        simp only [List.mem_toArray,List.mem_cons,List.not_mem_nil,or_false] at he
        subst he
        exact ⟨by have:=lt_of_cell hc'; simpa [World.setCell] using this,hv⟩)
    | none =>
      obtain ⟨e,he,h2⟩:=hf.farStore P a u (m == .atomic)
      simp only [he]
      exact SimR.ends h2
 | new o k ih =>
   intro S w es1 es h hS hf hb hH
   simp only [Sem.runT,vw_size]
   have e:({ vw D w with heap:=(vw D w).heap.push o }:World)=vw D { w with heap:=w.heap.push o }:=by
    unfold vw
    rw [hide_new D w.heap o (hb _ (Nat.le_refl _))]
   rw [e]
   exact (ih _ _ _ _ _ (h.2 _) (fun r hr=>(List.mem_cons.1 hr).elim (fun e=>by rw [e]; exact hb _ (Nat.le_refl _)) (hS r)) (by rw [← e]; exact hf.new h.1) (fun b hb'=>hb b (by simp at hb'; omega)) ((Keeps.new o).hides hb hH)).after0 (Keeps.new o)
 | shape r k ih =>
   intro S w es1 es h hS hf hb hH
   simp only [Sem.runT]
   have hdead:Dead P (k ((vw D w).shape? r))→SimR D w es ((k ((vw D w).shape? r)).runT P (vw D w) es1).1 ((k (w.shape? r)).runT P w es):=fun hd=>by
    obtain ⟨x,v',es',hr,hx⟩:=dead_run (P:=P) (k ((vw D w).shape? r)) (vw D w) es1 hd hf
    rw [hr]
    exact SimR.ends hx
   rcases h.1 ((vw D w).shape? r) with h1 | hd
   ·rcases vw_shape (D:=D) (w:=w) r with e | ⟨t,n,n',e1,e2,hn⟩
    ·rw [e] at h1 ⊢; exact ih _ _ _ _ _ h1 hS hf hb hH
    ·rcases h.2 t n n' hn with hd | he
     ·exact hdead (by rw [e2]; exact hd)
     ·rw [e2] at h1
      rw [e1,e2,← he w es]; exact ih _ _ _ _ _ h1 hS hf hb hH
   ·exact hdead hd
 | freeze a n k ih=>intro S w es1 es h hS hf hb hH; exact h.elim
 | frozen a k ih =>
   intro S w es1 es h hS hf hb hH
   simp only [Sem.runT,vw_frozen]
   exact ih _ _ _ _ _ (h _) hS hf hb hH
 | getObj r k ih =>
   intro S w es1 es h hS hf hb hH
   simp only [Sem.runT]
   have hev:∀ (s:Bool),r < w.heap.size→∀ e ∈ (#[⟨.obj r,false,s⟩]:Array Event),EvV D w.heap.size e:=fun s hlt e he=>by
    simp only [List.mem_toArray,List.mem_cons,List.not_mem_nil,or_false] at he
    subst he
    exact ⟨hlt,.inl rfl⟩
   cases hD:D r with
   | none =>
     rw [vw_get_none hD]
     cases ho:w.heap[r]? with
     | none=>exact SimR.ends rfl
     | some o =>
       have hlt:r < w.heap.size:=(Array.getElem?_eq_some_iff.1 ho).1
       have hgo:SimR D w es ((k o).runT P (vw D w) (es1.push ⟨.obj r,false,o.isChan⟩)).1 ((k o).runT P w (es.push ⟨.obj r,false,o.isChan⟩)):=by
        rw [← Array.append_singleton (as:=es)]
        exact (ih o _ w _ _ (h.1 o) (fun x hx=>(List.mem_cons.1 hx).elim (fun e=>by rw [e]; exact hD) (hS x)) hf hb hH).after (Keeps.refl _ _) (hev _ hlt)
       cases o <;> first | exact SimR.ends rfl | exact hgo
   | some n =>
     rw [vw_get_some hD]
     cases ho:w.heap[r]? with
     | none=>exact SimR.ends rfl
     | some o =>
       have hlt:r < w.heap.size:=(Array.getElem?_eq_some_iff.1 ho).1
       have hsame:∀ (o o':Obj) (b b':Bool),Dead P (k o')∨(Calm P S (k o')∧k o=k o')→SimR D w es ((k o').runT P (vw D w) (es1.push ⟨.obj r,false,b⟩)).1 ((k o).runT P w (es.push ⟨.obj r,false,b'⟩)):=fun o o' b b' hx=>by
        rcases hx with hd | ⟨hc,e⟩
        ·obtain ⟨x,v',es',hr,hx⟩:=dead_run (P:=P) (k o') (vw D w) (es1.push ⟨.obj r,false,b⟩) hd hf
         rw [hr]
         exact SimR.ends hx
        ·rw [e,← Array.append_singleton (as:=es)]
         exact (ih o' S w _ _ hc hS hf hb hH).after (Keeps.refl _ _) (hev _ hlt)
       rcases hH r n o hD ho with ⟨c,e,f,rfl⟩ | ⟨c,e,rfl⟩ | ⟨c,b,l,s,r',m,rfl⟩ | ⟨a,t,rfl⟩
       ·exact SimR.ends rfl
       ·exact hsame (.pending c e) (.coro none) _ _ (h.2.2.imp id fun ⟨x,y,_⟩=>⟨x,y c e⟩)
       ·exact hsame (.chan c b l s r' m) (.coro none) _ _ (h.2.2.imp id fun ⟨x,_,y⟩=>⟨x,y c b l s r' m⟩)
       ·exact hsame (.view a t) (.view ⟨0,0,some 0⟩ t) _ _ ((h.2.1 ⟨0,0,some 0⟩ a t).imp id fun ⟨x,y⟩=>⟨x,y.symm⟩)
 | setObj r o k ih =>
   intro S w es1 es h hS hf hb hH
   simp only [Sem.runT]
   have hD:=hS r h.1
   rw [vw_get_none hD]
   cases ho:w.heap[r]? with
   | none=>exact SimR.ends rfl
   | some o1 =>
     have hlt:r < w.heap.size:=(Array.getElem?_eq_some_iff.1 ho).1
     have e:({ vw D w with heap:=(vw D w).heap.setIfInBounds r o }:World)=vw D { w with heap:=w.heap.setIfInBounds r o }:=by
      unfold vw
      rw [hide_set D w.heap r o hD]
     have hgo:SimR D w es (k.runT P { vw D w with heap:=(vw D w).heap.setIfInBounds r o } (es1.push ⟨.obj r,true,o.isChan⟩)).1 (k.runT P { w with heap:=w.heap.setIfInBounds r o } (es.push ⟨.obj r,true,o.isChan⟩)):=by
      rw [← Array.append_singleton (as:=es),e]
      exact (ih S _ _ _ h.2.2 hS (by rw [← e]; exact hf.set r h.2.1) (fun b hb'=>hb b (by simpa using hb')) ((Keeps.set o hD).hides hb hH)).after (Keeps.set o hD) (fun e he=>by
       simp only [List.mem_toArray,List.mem_cons,List.not_mem_nil,or_false] at he
       subst he
       exact ⟨by simpa using hlt,.inr hD⟩)
     cases o1 <;> first | exact SimR.ends rfl | exact hgo
 | choose q k ih =>
   intro S w es1 es h hS hf hb hH
   simp only [Sem.runT,vw_tape,vw_drawn]
   split
   ·exact ih _ _ _ _ _ (h _) hS hf hb hH
   ·exact (ih _ S { w with drawn:=w.drawn+1 } _ es (h _) hS hf hb hH).after0 (Keeps.drawn _)
 | sys c k ih=>intro S w es1 es h hS hf hb hH; exact h.elim
 | program k ih=>intro S w es1 es h hS hf hb hH; exact ih _ _ _ _ _ h hS hf hb hH
 | mark m k ih =>
   intro S w es1 es h hS hf hb hH
   simp only [Sem.runT]
   rw [← Array.append_singleton (as:=es)]
   exact (ih _ _ _ _ h.2 hS hf hb hH).after (Keeps.refl _ _) (fun e he=>by
    simp only [List.mem_toArray,List.mem_cons,List.not_mem_nil,or_false] at he
    subst he
    exact h.1)
 | halt x =>
   intro S w es1 es h hS hf hb hH
   refine ⟨h,fun hx=>⟨w,#[],by simp [Sem.runT],rfl,Keeps.refl _ _,hf,fun e he=>by simp at he⟩⟩
section
variable {P:Program} {α β:Type}
theorem Dead.bind (s:Sem α) (f:α→Sem β):Dead P s→Dead P (s.bind f):=by
 induction s with
 | pure a=>exact fun h=>h.elim
 | load m a k ih=>exact fun h v=>ih v (h v)
 | store m a u k ih=>exact fun h=>ih h
 | new o k ih=>exact fun h=>⟨h.1,fun r=>ih r (h.2 r)⟩
 | shape r k ih=>exact fun h v=>ih v (h v)
 | freeze a n k ih=>exact fun h=>ih h
 | frozen a k ih=>exact fun h v=>ih v (h v)
 | getObj r k ih=>exact fun h v=>ih v (h v)
 | setObj r o k ih=>exact fun h=>⟨h.1,ih h.2⟩
 | choose q k ih=>exact fun h v=>ih v (h v)
 | sys c k ih=>exact fun h v=>ih v (h v)
 | program k ih=>exact fun h=>ih _ h
 | mark m k ih=>exact fun h=>ih h
 | halt x=>exact fun h=>h
theorem Calm.bind (s:Sem α) (f:α→Sem β):∀ {S:List Nat},Calm P S s→(∀ a S',(∀ r ∈ S,r ∈ S')→Calm P S' (f a))→Calm P S (s.bind f):=by
 induction s with
 | pure a=>exact fun h hf=>hf a _ (fun _ h=>h)
 | load m a k ih=>exact fun h hf v=>ih v (h v) hf
 | store m a u k ih=>exact fun h hf=>ih h hf
 | new o k ih=>exact fun h hf=>⟨h.1,fun r=>ih r (h.2 r) (fun a S' hs=>hf a S' (fun x hx=>hs x (List.mem_cons_of_mem _ hx)))⟩
 | shape r k ih=>exact fun h hf=>⟨fun s=>(h.1 s).imp (fun x=>ih s x hf) (fun x=>x.bind _ _),fun e n n' hn=>(h.2 e n n' hn).imp (fun x=>x.bind _ _) (fun x v es=>by rw [Sem.runT_bind',Sem.runT_bind',x v es])⟩
 | freeze a n k ih=>exact fun h _=>h.elim
 | frozen a k ih=>exact fun h hf v=>ih v (h v) hf
 | getObj r k ih =>
   exact fun h hf=>⟨fun o=>ih o (h.1 o) (fun a S' hs=>hf a S' (fun x hx=>hs x (List.mem_cons_of_mem _ hx))),
    fun a a' t=>(h.2.1 a a' t).imp (fun x=>x.bind _ _) (fun ⟨x,y⟩=>⟨ih _ x hf,congrArg (·.bind f) y⟩),
    h.2.2.imp (fun x=>x.bind _ _) (fun ⟨x,y,z⟩=>⟨ih _ x hf,fun c e=>congrArg (·.bind f) (y c e),fun c b l s r m=>congrArg (·.bind f) (z c b l s r m)⟩)⟩
 | setObj r o k ih=>exact fun h hf=>⟨h.1,h.2.1,ih h.2.2 hf⟩
 | choose q k ih=>exact fun h hf v=>ih v (h v) hf
 | sys c k ih=>exact fun h _=>h.elim
 | program k ih=>exact fun h hf=>ih _ h hf
 | mark m k ih=>exact fun h hf=>⟨h.1,ih h.2 hf⟩
 | halt x=>exact fun h _=>h
def CalmA (P:Program) (s:Sem α):Prop:=∀ S,Calm P S s
theorem ca_bind {s:Sem α} {f:α→Sem β} (h:CalmA P s) (hf:∀ a,CalmA P (f a)):CalmA P (s >>= f):=fun S=>Calm.bind s f (h S) (fun a S' _=>hf a S')
theorem ca_map {s:Sem α} {f:α→β} (h:CalmA P s):CalmA P (f <$> s):=fun S=>Calm.bind s _ (h S) (fun a S' _=>trivial)
theorem ca_pure (a:α):CalmA P (pure a:Sem α):=fun _=>trivial
theorem ca_stuck (s:String):CalmA P (stuck s:Sem α):=fun _=>rfl
theorem ca_panic (v:Value):CalmA P (goPanic v:Sem α):=fun _=>rfl
theorem ca_uns1 (s:String):CalmA P (unsupported (.noEntry s):Sem α):=fun _=>rfl
theorem ca_uns2 (s:String):CalmA P (unsupported (.unsafePointer s):Sem α):=fun _=>rfl
theorem ca_uns3 (s:String):CalmA P (unsupported (.resourceLimit s):Sem α):=fun _=>rfl
theorem ca_uns4:CalmA P (unsupported .addressObserved:Sem α):=fun _=>rfl
theorem ca_program:CalmA P program:=fun _=>trivial
theorem ca_choose (q:Question):CalmA P (choose q):=fun _ _=>trivial
theorem ca_load (a:Addr) (m:Mode):CalmA P (load a m):=fun _ _=>trivial
theorem ca_store (a:Addr) (v:Value) (m:Mode):CalmA P (store a v m):=fun _=>trivial
theorem ca_cells (c:Array Value) (e:TypeId):CalmA P (newObj (.cells c e)):=fun _=>⟨rfl,fun _=>trivial⟩
theorem ca_room (n:Nat):CalmA P (askRoom n):=fun _=>by unfold askRoom; split <;> first | exact ⟨.inl rfl,trivial⟩ | trivial
theorem ca_typeInfo (t:TypeId):CalmA P (typeInfo t):=by unfold typeInfo; refine ca_bind ca_program fun _=>?_; split <;> first | exact ca_pure _ | exact ca_stuck _
theorem ca_underlying (t:TypeId):CalmA P (underlying t):=by unfold underlying; refine ca_bind ca_program fun _=>?_; split <;> first | exact ca_pure _ | exact ca_stuck _
theorem ca_sizeOf (t:TypeId):CalmA P (sizeOf t):=ca_bind (ca_typeInfo t) fun _=>ca_pure _
theorem ca_zero (t:TypeId):CalmA P (zeroValue t):=by unfold zeroValue; refine ca_bind (ca_typeInfo t) fun _=>?_; split <;> first | exact ca_pure _ | exact ca_uns3 _
theorem ca_isAgg (t:TypeId):CalmA P (isAgg t):=by unfold isAgg; refine ca_bind (ca_underlying t) fun _=>?_; split <;> exact ca_pure _
theorem ca_loadFrom (a:Addr):∀ (n i:Nat) (acc:Array Value),CalmA P (loadCellsFrom a i n acc)
 | 0,_,_=>ca_pure _
 | n+1,i,acc=>ca_bind (ca_load _ _) fun _=>ca_loadFrom a n _ _
theorem ca_loadCells (a:Addr) (n:Nat):CalmA P (loadCells a n):=ca_loadFrom a n 0 _
theorem ca_storeCells (a:Addr):∀ (vs:List Value) (i:Nat),CalmA P (storeCells a vs i)
 | [],_=>ca_pure _
 | v :: vs,i=>ca_bind (ca_store _ _ _) fun _=>ca_storeCells a vs _
theorem ca_loadVar (t:TypeId) (a:Addr):CalmA P (loadVar t a):=by
 unfold loadVar; refine ca_bind (ca_isAgg t) fun _=>?_
 split
 ·exact ca_bind (ca_sizeOf t) fun _=>ca_bind (ca_loadCells _ _) fun _=>ca_pure _
 ·exact ca_load _ _
theorem ca_storeVar (t:TypeId) (a:Addr) (v:Value):CalmA P (storeVar t a v):=by
 unfold storeVar; refine ca_bind (ca_sizeOf t) fun _=>?_
 dsimp only
 split
 ·exact ca_bind (ca_stuck _) fun _=>ca_storeCells _ _ _
 ·exact ca_storeCells _ _ _
theorem ca_newRow (e:TypeId) (c:Array Value):CalmA P (newRow e c):=ca_bind (ca_cells _ _) fun _=>ca_pure _
theorem ca_newVar (t:TypeId) (v:Value):CalmA P (newVar t v):=ca_newRow _ _
theorem ca_elemOf (t:TypeId):CalmA P (elemOf t):=by unfold elemOf; refine ca_bind (ca_underlying t) fun _=>?_; split <;> first | exact ca_pure _ | exact ca_stuck _
theorem ca_part (t:TypeId) (c:Array Value) (o:Nat):CalmA P (part t c o):=by
 unfold part; refine ca_bind (ca_isAgg t) fun _=>?_
 split
 ·exact ca_bind (ca_sizeOf t) fun _=>ca_pure _
 ·split <;> first | exact ca_pure _ | exact ca_stuck _
theorem ca_asIntOf (v:Value):CalmA P (asIntOf v):=by unfold asIntOf; split <;> first | exact ca_pure _ | exact ca_uns4 | exact ca_stuck _
theorem ca_asInt (v:Value):CalmA P (asInt v):=ca_bind (ca_asIntOf v) fun _=>ca_pure _
theorem ca_asBool (v:Value):CalmA P (asBool v):=by unfold asBool; split <;> first | exact ca_pure _ | exact ca_stuck _
theorem ca_asAgg (v:Value):CalmA P (asAgg v):=by unfold asAgg; split <;> first | exact ca_pure _ | exact ca_stuck _
theorem ca_rtPanic (e:RuntimeError):CalmA P (runtimePanic e:Sem α):=by
 unfold runtimePanic
 refine ca_bind ca_program fun _=>?_
 cases e <;> first
  | exact ca_panic _
  | exact ca_bind (ca_elemOf _) fun _=>ca_bind (ca_newVar _ _) fun _=>ca_panic _
theorem ca_bounds (k:IntKind) (x y:Int) (c:BoundsCode):CalmA P (boundsPanic k x y c:Sem α):=by
 unfold boundsPanic
 dsimp only
 split
 ·exact ca_bind (ca_map (ca_choose _)) fun _=>ca_rtPanic _
 ·exact ca_bind (ca_pure _) fun _=>ca_rtPanic _
theorem ca_asAddr (v:Value):CalmA P (asAddr v):=by unfold asAddr; split <;> first | exact ca_pure _ | exact ca_rtPanic _ | exact ca_stuck _
theorem ca_sureAddr (v:Value):CalmA P (Instr.sureAddr v):=by unfold Instr.sureAddr; split <;> first | exact ca_pure _ | exact ca_stuck _
theorem ca_numberAt (r:Nat):CalmA P (numberAt r):=by
 intro S
 refine ⟨fun s=>.inl ?_,fun e n n' _=>.inr fun _ _=>rfl⟩
 cases s with
 | some x=>trivial
 | none=>exact ⟨fun o=>by cases o <;> trivial,fun a a' t=>.inr ⟨trivial,rfl⟩,.inr ⟨trivial,fun _ _=>rfl,fun _ _ _ _ _ _=>rfl⟩⟩
theorem ca_behind (a:Addr):CalmA P (behindNumber a):=ca_bind (ca_numberAt _) fun _=>ca_pure _
theorem ca_noView (a:Addr):CalmA P (noView a):=by
 intro S
 refine ⟨fun s=>.inl ?_,fun e n n' _=>.inr fun _ _=>rfl⟩
 cases s with
 | some x=>trivial
 | none=>exact ⟨fun o=>by cases o <;> first | trivial | exact rfl,fun a a' t=>.inr ⟨rfl,rfl⟩,.inr ⟨trivial,fun _ _=>rfl,fun _ _ _ _ _ _=>rfl⟩⟩
theorem ca_shape1 {r:Nat} {f:Option (TypeId × Nat)→Sem β} (h:∀ s,CalmA P (f s)) (he:∀ e n n',f (some (e,n))=f (some (e,n'))):CalmA P (shape r >>= f) :=
 fun S=>⟨fun s=>.inl (h s S),fun e n n' _=>.inr fun v es=>congrArg (fun s=>Sem.runT P s v es) (he e n n')⟩
theorem ca_byteOf (a:Addr):CalmA P (byteOf a):=by
 unfold byteOf
 split
 ·exact ca_pure _
 ·refine ca_bind ca_program fun _=>ca_bind (ca_noView _) fun _=>ca_shape1 (fun s=>?_) (fun e n n'=>rfl)
  split
  ·dsimp only
   split
   ·exact ca_pure _
   ·split <;> first | exact ca_pure _ | exact ca_stuck _
  ·exact ca_stuck _
theorem ca_partAt (a:Addr) (c b:Nat):CalmA P (partAt a c b):=ca_bind (ca_byteOf _) fun _=>ca_bind (ca_byteOf _) fun _=>ca_pure _
theorem ca_fieldPlace (a:Addr) (f:Field):CalmA P (fieldPlace a f):=by
 unfold fieldPlace; refine ca_bind (ca_sizeOf _) fun _=>?_
 split
 ·exact ca_partAt _ _ _
 ·exact ca_pure _
end
section
variable {P:Program} {α β:Type}
theorem ca_alloc (e:TypeId) (v:Value):CalmA P (Instr.alloc e true v):=by
 unfold Instr.alloc
 refine ca_bind (ca_zero _) fun z=>?_
 split
 ·rename_i h; cases h
 ·exact ca_bind (ca_newVar _ _) fun _=>ca_pure _
theorem ca_box (e:TypeId) (v:Value):CalmA P (Instr.box e v):=ca_bind (ca_newVar _ _) fun _=>ca_pure _
theorem ca_listMapM (f:α→Sem β) (h:∀ a,CalmA P (f a)):∀ l:List α,CalmA P (l.mapM f)
 | []=>ca_pure _
 | a :: l=>by rw [List.mapM_cons]; exact ca_bind (h a) fun _=>ca_bind (ca_listMapM f h l) fun _=>ca_pure _
theorem ca_mapM (f:α→Sem β) (h:∀ a,CalmA P (f a)) (l:Array α):CalmA P (l.mapM f):=by
 rw [Array.mapM_eq_mapM_toList]; exact ca_map (ca_listMapM f h _)
theorem ca_build (t:TypeId) (ps:Array (Nat × Value)):CalmA P (Instr.build t ps):=by
 unfold Instr.build
 refine ca_bind (ca_zero _) fun z=>ca_bind (ca_underlying _) fun d=>?_
 split
 ·refine ca_bind (ca_mapM _ (fun f=>ca_bind (ca_sizeOf _) fun _=>ca_pure _) _) fun _=>?_
  split <;> first | exact ca_pure _ | exact ca_stuck _
 ·refine ca_bind (ca_sizeOf _) fun _=>?_
  split <;> first | exact ca_pure _ | exact ca_stuck _
 ·exact ca_stuck _
theorem ca_buildSlice (t:TypeId) (n:Nat) (ps:Array (Nat × Value)):CalmA P (Instr.buildSlice t n ps):=by
 have key:∀ (e:TypeId) (size:Nat) (zero:Array Value),CalmA P (match Instr.fill (fun i=>some (i * size,size)) ((Array.range (n * size)).map (zero[· % zero.size]!)) ps.toList with
   | some cells=>do pure (.slice (some (← newRow e cells)) n n)
   | _=>stuck "buildSlice: a part of the wrong size" : Sem Value):=fun e size zero=>by
  split
  ·exact ca_bind (ca_newRow _ _) fun _=>ca_pure _
  ·exact ca_stuck _
 unfold Instr.buildSlice
 refine ca_bind (ca_underlying _) fun d=>?_
 split
 ·refine ca_bind (ca_sizeOf _) fun size=>?_
  dsimp only
  split
  ·refine ca_bind (ca_uns3 _) fun _=>?_
   split
   ·exact ca_bind (ca_pure _) fun _=>key _ _ _
   ·exact ca_bind (ca_zero _) fun _=>ca_bind (ca_pure _) fun _=>key _ _ _
  ·split
   ·exact ca_bind (ca_pure _) fun _=>key _ _ _
   ·exact ca_bind (ca_zero _) fun _=>ca_bind (ca_pure _) fun _=>key _ _ _
 ·exact ca_stuck _
theorem ca_loadAt (t:TypeId) (v:Value):CalmA P (Instr.loadAt t v):=ca_bind (ca_sureAddr _) fun _=>ca_loadVar _ _
theorem ca_storeAt (t:TypeId) (v x:Value):CalmA P (Instr.storeAt t v x):=ca_bind (ca_sureAddr _) fun _=>ca_storeVar _ _ _
theorem ca_fieldAt (t:TypeId) (v:Value) (f:Nat):CalmA P (Instr.fieldAt t v f):=by
 unfold Instr.fieldAt
 refine ca_bind (ca_underlying _) fun d=>?_
 split
 ·split
  ·exact ca_bind (ca_sureAddr _) fun _=>ca_bind (ca_fieldPlace _ _) fun _=>ca_pure _
  ·exact ca_stuck _
 ·exact ca_stuck _
theorem ca_indexAt (t:TypeId) (x i:Value):CalmA P (Instr.indexAt t x i):=by
 unfold Instr.indexAt
 refine ca_bind (ca_asIntOf _) fun ⟨k,i⟩=>ca_bind (ca_underlying _) fun d=>?_
 have key : ∀ (r : Option Addr × Nat × TypeId), CalmA P (do
    let d ← underlying t
    match r.1 with
    | some a =>
      if 0≤i∧i < r.2.1 then pure (.pointer (some (a.add (i.toNat * (← sizeOf r.2.2)))))
      else if (decide (r.2.1≤1) && (match d with | .array ..=>true | _=>false))=true then unsupported (.noEntry "op/indexAddr.an index out of range at an array of length 0 or 1 (ledger 616)")
      else boundsPanic k i r.2.1 .index
    | none=>boundsPanic k i 0 .index:Sem Value):=fun r=>by
  refine ca_bind (ca_underlying _) fun d=>?_
  split
  ·split
   ·exact ca_bind (ca_sizeOf _) fun _=>ca_pure _
   ·generalize (decide (r.2.1≤1) && (match d with | .array ..=>true | _=>false))=b
    cases b
    ·exact ca_bounds _ _ _ _
    ·exact ca_uns1 _
  ·exact ca_bounds _ _ _ _
 dsimp only
 split
 ·exact ca_bind (ca_sureAddr _) fun _=>ca_bind (ca_pure _) key
 ·exact ca_bind (ca_pure _) key
 ·exact ca_bind (ca_stuck _) key
theorem ca_sliceBound (x:Value) (y:Nat) (c:BoundsCode):CalmA P (Instr.sliceBound x y c):=by
 unfold Instr.sliceBound
 refine ca_bind (ca_asIntOf _) fun ⟨k,i⟩=>?_
 dsimp only
 split
 ·exact ca_pure _
 ·exact ca_bounds _ _ _ _
theorem ca_sliceBounds (s:Bool) (l c:Nat) (a b m:Option Value):CalmA P (Instr.sliceBounds s l c a b m):=by
 have k3:∀ (h m':Nat),CalmA P (do
   let l ← match a with
    | some v=>Instr.sliceBound v h (if m.isSome then .slice3C else .sliceB)
    | none=>pure 0
   pure (l,h,m'):Sem (Nat × Nat × Nat)):=fun h m'=>by
  cases a with
  | none=>exact ca_bind (ca_pure _) fun _=>ca_pure _
  | some v=>exact ca_bind (ca_sliceBound _ _ _) fun _=>ca_pure _
 have k2:∀ m':Nat,CalmA P (do
   let h ← match b,m with
    | some v,some _=>Instr.sliceBound v m' .slice3B
    | some v,none=>Instr.sliceBound v m' (if s then .sliceAcap else .sliceAlen)
    | none,none=>pure l
    | none,some _=>stuck "Slice: max without high"
   let l ← match a with
    | some v=>Instr.sliceBound v h (if m.isSome then .slice3C else .sliceB)
    | none=>pure 0
   pure (l,h,m'):Sem (Nat × Nat × Nat)):=fun m'=>by
  cases b <;> cases m
  ·exact ca_bind (ca_pure _) fun _=>k3 _ _
  ·exact ca_bind (ca_stuck _) fun _=>k3 _ _
  ·exact ca_bind (ca_sliceBound _ _ _) fun _=>k3 _ _
  ·exact ca_bind (ca_sliceBound _ _ _) fun _=>k3 _ _
 unfold Instr.sliceBounds
 cases m with
 | none=>exact ca_bind (ca_pure _) fun _=>k2 _
 | some v=>exact ca_bind (ca_sliceBound _ _ _) fun _=>k2 _
theorem ca_slice (t:TypeId) (x:Value) (a b m:Option Value):CalmA P (Instr.slice t x a b m):=by
 unfold Instr.slice
 refine ca_bind (ca_underlying _) fun d=>?_
 split
 ·dsimp only
  split
  ·exact ca_bind (ca_stuck _) fun _=>ca_bind (ca_sliceBounds _ _ _ _ _ _) fun _=>ca_pure _
  ·exact ca_bind (ca_sliceBounds _ _ _ _ _ _) fun _=>ca_pure _
 ·exact ca_bind (ca_sliceBounds _ _ _ _ _ _) fun _=>ca_bind (ca_sizeOf _) fun _=>ca_pure _
 ·refine ca_bind (ca_asAddr _) fun _=>ca_bind (ca_underlying _) fun _=>?_
  split
  ·exact ca_bind (ca_sliceBounds _ _ _ _ _ _) fun _=>ca_bind (ca_sizeOf _) fun _=>ca_pure _
  ·exact ca_stuck _
 ·exact ca_stuck _
theorem ca_sliceAt (t:TypeId) (x:Value) (a b m:Option Value):CalmA P (Instr.sliceAt t x a b m):=by
 unfold Instr.sliceAt
 refine ca_bind (ca_underlying _) fun d=>?_
 split
 ·exact ca_bind (ca_sureAddr _) fun _=>ca_bind (ca_sliceBounds _ _ _ _ _ _) fun _=>ca_bind (ca_sizeOf _) fun _=>ca_pure _
 ·exact ca_slice _ _ _ _ _
theorem ca_index (t:TypeId) (x i:Value):CalmA P (Instr.index t x i):=by
 unfold Instr.index
 refine ca_bind (ca_asIntOf _) fun ⟨k,i⟩=>ca_bind (ca_underlying _) fun d=>?_
 split
 ·split
  ·exact ca_bind (ca_sizeOf _) fun _=>ca_part _ _ _
  ·exact ca_bounds _ _ _ _
 ·split <;> first | exact ca_pure _ | exact ca_bounds _ _ _ _
 ·exact ca_stuck _
theorem ca_field (t:TypeId) (x:Value) (f:Nat):CalmA P (Instr.field t x f):=by
 unfold Instr.field
 refine ca_bind (ca_underlying _) fun d=>?_
 split
 ·split
  ·exact ca_bind (ca_asAgg _) fun _=>ca_part _ _ _
  ·exact ca_stuck _
 ·exact ca_stuck _
theorem ca_extract (x:Value) (i:Nat):CalmA P (Instr.extract x i):=by
 unfold Instr.extract
 split
 ·split <;> first | exact ca_pure _ | exact ca_stuck _
 ·exact ca_stuck _
theorem ca_makeInterface (t:TypeId) (x:Value):CalmA P (Instr.makeInterface t x):=by
 unfold Instr.makeInterface
 refine ca_bind (ca_underlying _) fun d=>?_
 split <;> first | exact ca_pure _ | exact ca_stuck _
theorem ca_makeFunc (f:Fn) (a b:Array Value):CalmA P (Instr.makeFunc f a b):=ca_pure _
theorem ca_chan (n:Nat):CalmA P (newObj (.chan n #[] false 0 0 false)):=fun _=>⟨rfl,fun _=>trivial⟩
theorem ca_map0:CalmA P (newObj (.map #[] 0)):=fun _=>⟨rfl,fun _=>trivial⟩
theorem ca_makeChan (t:TypeId) (s:Value):CalmA P (Instr.makeChan t s):=by
 unfold Instr.makeChan
 refine ca_bind (ca_asInt _) fun n=>ca_bind (ca_underlying _) fun d=>?_
 split
 ·refine ca_bind (ca_typeInfo _) fun i=>?_
  dsimp only
  split
  ·exact ca_bind (ca_rtPanic _) fun _=>ca_bind (ca_chan _) fun _=>ca_pure _
  ·exact ca_bind (ca_chan _) fun _=>ca_pure _
 ·exact ca_stuck _
theorem ca_makeSlice (t:TypeId) (l c:Value):CalmA P (Instr.makeSlice t l c):=by
 have key:∀ (e:TypeId) (l c:Int) (bytes:Nat),CalmA P (do
   askRoom (c.toNat * bytes)
   let n:=c.toNat * (← sizeOf e)
   let zero ← if n=0 then pure #[] else do pure (← zeroValue e).cells
   let a ← newRow e ((Array.range n).map (zero[· % zero.size]!))
   pure (.slice (some a) l.toNat c.toNat):Sem Value):=fun e l c bytes=>by
  refine ca_bind (ca_room _) fun _=>ca_bind (ca_sizeOf _) fun s=>?_
  dsimp only
  split
  ·exact ca_bind (ca_pure _) fun _=>ca_bind (ca_newRow _ _) fun _=>ca_pure _
  ·exact ca_bind (ca_zero _) fun _=>ca_bind (ca_pure _) fun _=>ca_bind (ca_newRow _ _) fun _=>ca_pure _
 unfold Instr.makeSlice
 refine ca_bind (ca_underlying _) fun d=>?_
 split
 ·rename_i e
  refine ca_bind (ca_asInt _) fun l=>ca_bind (ca_asInt _) fun c=>ca_bind (ca_typeInfo _) fun i=>?_
  dsimp only
  split
  ·split
   ·exact ca_bind (ca_rtPanic _) fun _=>key _ _ _ _
   ·split
    ·exact ca_bind (ca_rtPanic _) fun _=>key _ _ _ _
    ·exact ca_bind (ca_choose _) fun _=>ca_bind (ca_rtPanic _) fun _=>key _ _ _ _
  ·exact key _ _ _ _
 ·exact ca_stuck _
theorem ca_intArith (o:BinOp) (k:IntKind) (x y:Int):CalmA P (Op.intArith o k x y):=by unfold Op.intArith; split <;> first | exact ca_pure _ | exact ca_stuck _
theorem ca_intBits (o:BinOp) (k:IntKind) (x y:Int):CalmA P (Op.intBits o k x y):=by unfold Op.intBits; dsimp only; split <;> first | exact ca_pure _ | exact ca_stuck _
theorem ca_intCmp (o:BinOp) (x y:Int):CalmA P (Op.intCmp o x y):=by unfold Op.intCmp; split <;> first | exact ca_pure _ | exact ca_stuck _
theorem ca_intDiv (o:BinOp) (k:IntKind) (x y:Int):CalmA P (Op.intDiv o k x y):=by
 unfold Op.intDiv
 split
 ·exact ca_rtPanic _
 ·split <;> first | exact ca_pure _ | exact ca_stuck _
theorem ca_shift (o:BinOp) (k:IntKind) (x:Int) (k':IntKind) (y:Int):CalmA P (Op.shift o k x k' y):=by
 unfold Op.shift
 split
 ·exact ca_rtPanic _
 ·dsimp only; split <;> first | exact ca_pure _ | exact ca_stuck _
theorem ca_stringOp (o:BinOp) (x y:ByteArray):CalmA P (Op.stringOp o x y):=by
 unfold Op.stringOp
 dsimp only
 split <;> first
  | exact ca_pure _
  | exact ca_stuck _
  | (split <;> first | exact ca_uns3 _ | exact ca_pure _)
theorem ca_floatArith (o:BinOp) (k:FloatKind) (x y:Nat):CalmA P (Op.floatArith o k x y):=by
 have key:∀ r:Option Nat,CalmA P (match r with | some r=>pure (.float k r) | none=>do pure (.float k (← choose (.nanBits k x y))):Sem Value):=fun r=>by
  cases r with
  | none=>exact ca_bind (ca_choose _) fun _=>ca_pure _
  | some r=>exact ca_pure _
 unfold Op.floatArith
 dsimp only
 split <;> first | exact ca_bind (ca_pure _) key | exact ca_bind (ca_stuck _) key
theorem ca_floatCmp (o:BinOp) (k:FloatKind) (x y:Nat):CalmA P (Op.floatCmp o k x y):=by unfold Op.floatCmp; dsimp only; split <;> first | exact ca_pure _ | exact ca_stuck _
theorem ca_unary (o:UnOp) (x:Value):CalmA P (Op.unary o x):=by
 unfold Op.unary
 split <;> first | exact ca_pure _ | exact ca_stuck _ | exact ca_uns4 | exact ca_intArith _ _ _ _ | exact ca_intBits _ _ _ _
end
section
variable {P:Program} {α β:Type}
theorem ca_underlying_bind {t:TypeId} {f:TypeDesc→Sem β} (h:∀ d,P.underlying t=some d→CalmA P (f d)):CalmA P (underlying t >>= f):=by
 intro S
 show Calm P S (((match P.underlying t with | some d=>Pure.pure d | none=>stuck "no such type" : Sem TypeDesc)).bind f)
 cases e:P.underlying t with
 | none=>exact rfl
 | some d=>exact h d e S
theorem ca_listForIn (f:α→β→Sem (ForInStep β)) (h:∀ a b,CalmA P (f a b)):∀ (l:List α) (b:β),CalmA P (forIn l b f)
 | [],b=>ca_pure _
 | a :: l,b=>by
   rw [List.forIn_cons]
   refine ca_bind (h a b) fun r=>?_
   cases r with
   | done b=>exact ca_pure _
   | yield b=>exact ca_listForIn f h l b
theorem ca_arrForIn (f:α→β→Sem (ForInStep β)) (h:∀ a b,CalmA P (f a b)) (l:Array α) (b:β):CalmA P (forIn l b f):=by
 rw [← Array.forIn_toList]; exact ca_listForIn f h _ b
theorem ca_rangeForIn (f:Nat→β→Sem (ForInStep β)) (h:∀ a b,CalmA P (f a b)) (r:Std.Legacy.Range) (b:β):CalmA P (forIn r b f):=by
 rw [Std.Legacy.Range.forIn_eq_forIn_range']; exact ca_listForIn f h _ b
def plainEq (P:Program):Nat→TypeId→Bool
 | 0,_=>true
 | d+1,t=>match P.underlying t with
   | some (.pointer _) | some (.interface _) | some .unsafePointer=>false
   | some (.struct fs)=>fs.toList.all fun f=>f.name == "_" || plainEq P d f.type
   | some (.array _ e)=>plainEq P d e
   | _=>true
theorem ca_arrForInM (f:α→β→Sem (ForInStep β)) (l:Array α) (h:∀ a ∈ l.toList,∀ b,CalmA P (f a b)) (b:β):CalmA P (forIn l b f):=by
 rw [← Array.forIn_toList]
 generalize l.toList=l at h
 induction l generalizing b with
 | nil=>exact ca_pure _
 | cons a l ih =>
   rw [List.forIn_cons]
   refine ca_bind (h a (List.mem_cons_self ..) b) fun r=>?_
   cases r with
   | done b=>exact ca_pure _
   | yield b=>exact ih b (fun x hx=>h x (List.mem_cons_of_mem _ hx))
theorem ca_equalIn:∀ (d:Nat) (t:TypeId) (x y:Value),plainEq P d t=true→CalmA P (Op.equalIn d t x y)
 | 0,_,_,_,_=>ca_uns3 _
 | d+1,t,x,y,h=>by
   unfold Op.equalIn
   refine ca_underlying_bind fun u hu=>?_
   unfold plainEq at h
   rw [hu] at h
   split
   ·exact ca_pure _
   ·split <;> first | exact ca_pure _ | exact ca_stuck _
   ·exact ca_pure _
   ·exact ca_pure _
   ·refine ca_bind (ca_behind _) fun a=>ca_bind (ca_behind _) fun b=>ca_bind ca_program fun p=>?_
    split
    ·exact ca_bind (ca_byteOf _) fun _=>ca_bind (ca_byteOf _) fun _=>ca_pure _
    ·refine ca_bind (ca_typeInfo _) fun i=>?_
     split
     ·split <;> first | exact ca_pure _ | exact ca_uns4
     ·exact ca_uns4
   ·exact ca_uns4
   ·exact ca_uns4
   ·split <;> first | exact ca_pure _ | exact ca_stuck _
   ·split <;> first | exact ca_pure _ | exact ca_stuck _
   ·exact ca_pure _
   ·cases h
   ·cases h
   ·cases h
   ·cases h
   ·exact ca_pure _
   ·cases h
   ·cases h
   ·cases h
   ·cases h
   ·rename_i fields xs ys
    simp only [List.all_eq_true,Bool.or_eq_true,beq_iff_eq] at h
    have key:CalmA P (do
      for f in fields do
       if f.name≠"_" then
        if !(← Op.equalIn d f.type (← part f.type xs f.offset) (← part f.type ys f.offset)) then return false
      pure true:Sem Bool):=by
     refine ca_bind (ca_arrForInM _ _ (fun f hf b=>?_) _) fun r=>?_
     ·split
      ·rename_i hn
       refine ca_bind (ca_part _ _ _) fun _=>ca_bind (ca_part _ _ _) fun _=>ca_bind (ca_equalIn d _ _ _ ((h f hf).resolve_left hn)) fun _=>?_
       split <;> exact ca_pure _
      ·exact ca_pure _
     ·dsimp only; split <;> exact ca_pure _
    refine ca_bind ca_program fun p=>?_
    split
    ·exact ca_bind (ca_uns1 _) fun _=>key
    ·exact key
   ·refine ca_bind (ca_sizeOf _) fun n=>ca_bind (ca_rangeForIn _ (fun i b=>?_) _ _) fun r=>?_
    ·refine ca_bind (ca_part _ _ _) fun _=>ca_bind (ca_part _ _ _) fun _=>ca_bind (ca_equalIn d _ _ _ h) fun _=>?_
     split <;> exact ca_pure _
    ·dsimp only; split <;> exact ca_pure _
   all_goals first | exact ca_pure _ | exact ca_stuck _
theorem ca_eqGuardIn:∀ (d:Nat) (t:TypeId) (x y:Value),CalmA P (Op.eqGuardIn d t x y)
 | 0,_,_,_=>ca_uns3 _
 | d+1,t,x,y=>by
   unfold Op.eqGuardIn
   refine ca_bind (ca_underlying _) fun u=>?_
   split
   ·exact ca_pure _
   ·refine ca_bind (ca_arrForIn _ (fun f b=>?_) _ _) fun r=>?_
    ·split
     ·refine ca_bind (ca_part _ _ _) fun _=>ca_bind (ca_part _ _ _) fun _=>ca_bind (ca_eqGuardIn d _ _ _) fun _=>?_
      split <;> exact ca_pure _
     ·exact ca_pure _
    ·dsimp only; split <;> exact ca_pure _
   ·refine ca_bind (ca_sizeOf _) fun n=>ca_bind (ca_rangeForIn _ (fun i b=>?_) _ _) fun r=>?_
    ·refine ca_bind (ca_part _ _ _) fun _=>ca_bind (ca_part _ _ _) fun _=>ca_bind (ca_eqGuardIn d _ _ _) fun _=>?_
     split <;> exact ca_pure _
    ·dsimp only; split <;> exact ca_pure _
   ·exact ca_pure _
theorem ca_eqGuard (o:BinOp) (t:TypeId) (x y:Operand) (a b:Value):CalmA P (eqGuard o t x y a b):=by
 unfold eqGuard
 have key:CalmA P (match a,b with
  | .nilIface,.nilIface=>do
    if (x matches .const _) || (y matches .const _) then return
    if ← Op.eqGuardIn Op.maxDepth t a b then unsupported (.noEntry "binop/eql: two nil values of an interface type with methods, neither of them the literal nil")
  | .agg _,.agg _=>do
    if !(← program).eqGuardType (← program).depth t then return
    if ← Op.eqGuardIn Op.maxDepth t a b then unsupported (.noEntry "binop/eql: two nil values of an interface type with methods, in a part of a struct or an array")
  | _,_=>pure ():Sem Unit):=by
  split
  ·generalize ((x matches .const _) || (y matches .const _))=bb
   cases bb
   ·refine ca_bind (ca_eqGuardIn _ _ _ _) fun r=>?_
    split <;> first | exact ca_uns1 _ | exact ca_pure _
   ·exact ca_pure _
  ·refine ca_bind ca_program fun p=>ca_bind ca_program fun q=>?_
   split
   ·exact ca_pure _
   ·refine ca_bind (ca_eqGuardIn _ _ _ _) fun r=>?_
    split <;> first | exact ca_uns1 _ | exact ca_pure _
  ·exact ca_pure _
 generalize hb:(!(o matches .eql | .neq))=bb
 cases bb
 ·exact key
 ·exact ca_pure _
theorem ca_viewAt {r:Nat} {f:Option (Addr × TypeId)→Sem β} (h:∀ o,CalmA P (f o)) (he:∀ x y,f (some x)=f (some y)):CalmA P (viewAt r >>= f):=by
 intro S
 refine ⟨fun s=>.inl ?_,fun e n n' _=>.inr fun _ _=>rfl⟩
 cases s with
 | some x=>exact h none S
 | none =>
   refine ⟨fun o=>?_,fun a a' t=>.inr ⟨h (some (a,t)) S,he _ _⟩,.inr ⟨h none S,fun _ _=>rfl,fun _ _ _ _ _ _=>rfl⟩⟩
   cases o <;> first | exact h none _ | exact h (some _) _
theorem cellAtBytes_mono {p:Program} {d:Nat} {e:TypeId} {c c' o:Nat} {n:Int} {r:Nat} (hc:c≤c') (h:cellAtBytes p d e c o n=some r):cellAtBytes p d e c' o n=some r:=by
 unfold cellAtBytes at *
 dsimp only at *
 split at h
 ·cases h
 ·rename_i hs
  rw [if_neg hs]
  cases hb:byteOfCell p d e (o % p.cellsOf e) with
  | none=>rw [hb] at h; cases h
  | some x =>
    rw [hb] at h
    simp only [Option.bind_eq_bind,Option.bind_some] at h ⊢
    split at h
    ·cases h
    ·rename_i ht
     rw [if_neg]
     ·exact h
     ·intro hx
      apply ht
      simp only [Bool.or_eq_true,decide_eq_true_eq] at hx ⊢
      refine hx.imp id fun h2=>?_
      have:(c * p.bytesOf e:Nat)≤c' * p.bytesOf e:=Nat.mul_le_mul_right _ hc
      have h3:Int.ofNat (c * p.bytesOf e)≤Int.ofNat (c' * p.bytesOf e):=Int.ofNat_le.2 this
      omega
theorem ca_unsafeAdd (a:Array TypeId) (t:TypeId) (xs:Array Value):CalmA P (Builtin.unsafeAdd_ a t xs):=by
 by_cases hx:∃ ptr len,xs=#[.pointer ptr,len]
 ·obtain ⟨ptr,len,rfl⟩:=hx
  unfold Builtin.unsafeAdd_
  dsimp only
  refine ca_bind (ca_asInt _) fun n=>?_
  split
  ·split
   ·exact ca_viewAt (fun o=>by split <;> first | exact ca_uns2 _ | exact ca_pure _) (fun x y=>rfl)
   ·exact ca_uns2 _
  ·have key : CalmA P (match ptr with
     | some a=>do
       let some (e,cells) ← shape a.block | unsupported (.unsafePointer "Add")
       let p ← program
       match cellAtBytes p p.depth e (cells / p.cellsOf e) a.off n with
       | some off=>pure (.pointer (some { a with off }))
       | none=>unsupported (.unsafePointer "Add")
     | none=>unsupported (.unsafePointer "Add"):Sem Value):=by
    cases ptr with
    | none=>exact ca_uns2 _
    | some a =>
      intro S
      refine ⟨fun s=>.inl ?_,fun e n1 n2 hn=>?_⟩
      ·cases s with
       | none=>exact rfl
       | some x =>
         obtain ⟨e,c⟩:=x
         show Calm P S ((match cellAtBytes P P.depth e (c / P.cellsOf e) a.off n with | some off=>pure (.pointer (some { a with off })) | none=>unsupported (.unsafePointer "Add"):Sem Value))
         split <;> first | trivial | exact rfl
      ·cases hc:cellAtBytes P P.depth e (n1 / P.cellsOf e) a.off n with
       | none =>
         refine .inl ?_
         show Dead P ((match cellAtBytes P P.depth e (n1 / P.cellsOf e) a.off n with | some off=>pure (.pointer (some { a with off })) | none=>unsupported (.unsafePointer "Add"):Sem Value))
         rw [hc]; exact rfl
       | some r =>
         refine .inr fun v es=>?_
         have h2:=cellAtBytes_mono (Nat.div_le_div_right (c:=P.cellsOf e) hn) hc
         show (((match cellAtBytes P P.depth e (n1 / P.cellsOf e) a.off n with | some off=>pure (.pointer (some { a with off })) | none=>unsupported (.unsafePointer "Add"):Sem Value))).runT P v es =
          (((match cellAtBytes P P.depth e (n2 / P.cellsOf e) a.off n with | some off=>pure (.pointer (some { a with off })) | none=>unsupported (.unsafePointer "Add"):Sem Value))).runT P v es
         rw [hc,h2]
   cases ptr with
   | none =>
     split
     ·exact ca_bind (ca_uns2 _) fun _=>key
     ·exact key
   | some a =>
     split
     ·exact ca_bind (ca_uns2 _) fun _=>key
     ·exact key
 ·have e:Builtin.unsafeAdd_ a t xs=stuck "unsafe.Add: a pointer and an integer expected" := by
   obtain ⟨l⟩:=xs
   unfold Builtin.unsafeAdd_
   rcases l with _ | ⟨x,_ | ⟨y,_ | ⟨z,l⟩⟩⟩
   ·rfl
   ·cases x <;> rfl
   ·cases x <;> first | rfl | exact absurd ⟨_,_,rfl⟩ hx
   ·cases x <;> rfl
  rw [e]
  exact ca_stuck _
end
end Go.Proofs.Ytimlbbleblijnaa.Co
