/- Lemmas for the laws of this seat, laid together of PGcg, PGch, PGcj, PHa, PGci, PGck. -/
import Derived.Test.YtimlbbleblijnaaW17
import Derived.Conc.LeavingOf
import Derived.Below
import Derived.JoinedCond
import Derived.Conc.AtomicLaws2

open Go.ConcR.Gen (base_kind baseD_kind)
set_option linter.unusedVariables false
set_option linter.unusedSimpArgs false
set_option maxRecDepth 100000
set_option maxHeartbeats 4000000
namespace Go.Proofs.Ytimlbbleblijnaa.Co
open Go Go.Conc Go.RowKit
open Go.ConcN (sumTo upd sumTo_upd upd_ne upd_same sumTo_congr le_sumTo)
theorem sumTo_bound {f:Nat→Nat} {B:Nat}:∀ n,(∀ i,i < n→f i≤B)→sumTo n f≤n * B
  | 0,_=>Nat.zero_le _
  | n+1,h=>by
    have h1:=sumTo_bound n (fun i hi=>h i (by omega))
    have h2:=h n (by omega)
    have e:sumTo (n+1) f=sumTo n f+f n:=rfl
    rw [e,Nat.add_mul,Nat.one_mul]
    omega
theorem sumTo_zero:∀ n,sumTo n (fun _=>0)=0
  | 0=>rfl
  | n+1=>by
    have e:sumTo (n+1) (fun _=>0)=sumTo n (fun _=>0)+0:=rfl
    rw [e,sumTo_zero n]
theorem owns_form {x:World} {B e n:Nat} {v:Value} {xs:List Value} (h:x.ownsRow B e 1 v n xs):∃ aa cap,v=.slice aa n cap∧(0 < n→∃ g,aa=some ⟨g,0,none⟩∧B≤g∧∀ i u,xs[i]?=some u→x.cell? ⟨g,0+i,none⟩=some u):=by
  obtain ⟨h1,h2⟩:=h
  rcases h2 with ⟨rfl,rfl⟩ | ⟨g,cap,cur,rfl,hb,hg,c1,c2,c3,c4⟩
  · exact ⟨none,0,rfl,fun h=>absurd h (by omega)⟩
  · refine ⟨_,cap,rfl,fun _=>⟨g,rfl,hb,fun i u hu=>?_⟩⟩
    refine obj_cell hg ?_
    rw [← c4,List.getElem?_take] at hu
    split at hu
    · rw [Nat.zero_add]
      simpa using hu
    · cases hu
theorem owns_slice {x:World} {B e sz n:Nat} {v:Value} {xs:List Value} (h:x.ownsRow B e sz v n xs):∃ A cap,v=.slice A n cap:=by
  obtain ⟨h1,h2⟩:=h
  rcases h2 with ⟨rfl,rfl⟩ | ⟨g,cap,cur,rfl,hb,hg,c1,c2,c3,c4⟩
  · exact ⟨none,0,rfl⟩
  · exact ⟨_,cap,rfl⟩
theorem owns_lower {x:World} {B B' e sz n:Nat} {v:Value} {xs:List Value} (h:x.ownsRow B e sz v n xs) (hB:B'≤B):x.ownsRow B' e sz v n xs:=by
  obtain ⟨h1,h2⟩:=h
  refine ⟨h1,h2.imp id ?_⟩
  rintro ⟨g,cap,cur,e1,e2,r⟩
  exact ⟨g,cap,cur,e1,Nat.le_trans hB e2,r⟩
section
variable {h:Nat} {F:Machine→Trace→Prop} {E:Env} {w:World} {b₀:Frame} {a₀:Act} {ops₀:Array Oper} {i₀:Nat} {rest₀:List Nat} {k₀:List Item} {cl:List Frame}
end
section
variable {P:Program} {h:Nat} {F:Machine→Trace→Prop} {E:Env} {w:World} {n:Nat} {fr:Frame} {a:Act} {k:List Item} {cs:List Frame} {ops:Array Oper} {i:Nat} {rest:List Nat} {o:Oper}
theorem HGn.mkV {c:Array Value} {t:TypeId} (val:Nat→Value) (hrole:E.role h=.gone) (ho:ops[i]?=some o) (hw:Region.wanted o (yielded ops a.tmps)=true) (hk:fr.kind≠.early)
    (hr:∀ w₁:World,(execOp a.eval o).run P w₁=.ok (.value (val w₁.heap.size)) (w₁.alloc (.cells c t))∧(execOp a.eval o).events P w₁ #[]=#[]) (hg:(∀ b,w.heap.size≤b→E.H b=none)→E.W w.heap.size=false→HGn P h F E (w.alloc (.cells c t)) n (G (fr.at (a.put o.dst (val w.heap.size)) (.inRegion ops rest :: k)) cs)) :
    HGn P h F E w (n+1) (G (fr.at a (.inRegion ops (i :: rest) :: k)) cs):=by
  refine HG.withB fun hB _ _=>HG.withH fun hWH _=>?_
  have hWn:E.W w.heap.size=false:=by
    cases e:E.W w.heap.size with
    | false=>rfl
    | true=>have:=hWH _ e; rw [hB _ (Nat.le_refl _)] at this; cases this
  replace hg:=hg hB hWn
  refine HG.open fun E1 w1 hA ⟨gs,T,q,C,_⟩=>?_
  have hAw:=hA.2
  have hW1:E1.W=E.W:=hA.1.W'
  refine (HG.clo P h F E1).own rfl fun w₂ h2=>?_
  obtain ⟨e1,e2⟩:=hr w₂
  have hsz:w₂.heap.size=w.heap.size:=h2.size.trans hAw.size
  have hget:∀ b,b < w₂.heap.size→(w₂.alloc (.cells c t)).heap[b]?=w₂.heap[b]?:=fun b hb=>alloc_old hb
  refine ⟨G (fr.at (a.put o.dst (val w.heap.size)) (.inRegion ops rest :: k)) cs,w₂.alloc (.cells c t),#[],?_,⟨by rw [alloc_size]; omega,fun a' ⟨i,hi⟩=>?_,fun c' ⟨i,home,hi⟩=>?_,fun b hb x st sm e' hx=>?_,fit_alloc,fun ev he=>by simp at he,⟨rfl,rfl⟩⟩,?_⟩
  · rw [stepG_value ho hw hk e1]
    unfold listed
    rw [e2,seen_none,hsz]
  · have hl:a'.block < w₂.heap.size:=by rw [h2.size]; exact C.S_lt hi
    unfold World.cell?
    rw [hget _ hl]
  · have hih:i≠h:=fun z=>by
      subst z
      have:=hA.1.roleH
      rw [hi,hrole] at this
      cases this
    obtain ⟨k',hk'⟩:=C.chans i c' home hih (C.seat_lt hi) hi
    exact hget _ (by rw [h2.size]; exact (Array.getElem?_eq_some_iff.1 hk').1)
  · exact ⟨x,by rw [hget _ (Array.getElem?_eq_some_iff.1 hx).1]; exact hx⟩
  · have hA2:Aw E.W (w.alloc (.cells c t)) (w₂.alloc (.cells c t)):=aw_alloc (hAw.trans _ _ _ (by rw [← hW1]; exact h2)) hWn
    exact (show HG P h F E _ _ from hg).at ⟨hA.1,hA2⟩
end
section
variable {h:Nat} {F:Machine→Trace→Prop} {E:Env} {w:World} {b₀:Frame} {a₀:Act} {ops₀:Array Oper} {i₀:Nat} {rest₀:List Nat} {k₀:List Item} {cl:List Frame}
end
end Go.Proofs.Ytimlbbleblijnaa.Co

namespace Go.Proofs.Ytimlbbleblijnaa.Co
open Go Go.Conc Go.RowKit
theorem stepG_done {P:Program} {b:Frame} {a:Act} {fn:Func} {todo:List Item} {w:World} {t:Tmp} (hn:b.kind=.normal) (hd:a.defers=[]) (hf:P.funcs[b.fn]?=some fn) (hr:fn.results=#[.tmp t]) (hin:P.inits.idxOf? b.fn=none) :
    stepG P true (G { b.at a todo with mode:=.returning } []) w=.ended (.done (a.tmps.getD t undef)) w #[]:=by
  have h1:=results_tmp (fn:=fn) hr a.tmps P w
  have h2:=fun es=>events_results_tmp (fn:=fn) (P:=P) (w:=w) hr a.tmps es
  simp [G,stepG,unwind,doReturn,Frame.at,hn,hd,hf,h1,h2,hin,seen,GStep.after]
def FinF (P:Program) (Post:Value→World→Prop) (m:Machine) (T:Trace):Prop :=
  ∃ N last o w' t',runNT P (N+1) m T=(.ended o w',t')∧runN P N m=.next last∧step P last=.ended o w'∧Go.Conc.Good P Post last o w' t'
section
variable {P:Program} {E:Env} {w:World} {Post:Value→World→Prop}
theorem HG.done {b:Frame} {a:Act} {fn:Func} {todo:List Item} {t:Tmp} {v:Value} (hn:b.kind=.normal) (hd:a.defers=[]) (hf:P.funcs[b.fn]?=some fn) (hr:fn.results=#[.tmp t]) (hin:P.inits.idxOf? b.fn=none) (hv:a.tmps[t]?=some v) (hgone:∀ i,0 < i→E.role i=.gone)
    (hpost:∀ w',SameIo E.io w'→Aw E.W w w'→Post v w'):HG P 0 (FinF P Post) E (G { b.at a todo with mode:=.returning } []) w:=by
  intro E' w' gs T q sl hA C ha
  have hret:AtRet P Post E' (G { b.at a todo with mode:=.returning } []) w':=by
    refine ⟨rfl,fun i hi=>hA.1.gone i (hgone i hi),fun w2 h2=>⟨_,_,stepG_done hn hd hf hr hin,fun e he=>by simp at he,?_⟩⟩
    rw [show a.tmps.getD t undef=v by simp [Array.getD_eq_getD_getElem?,hv]]
    have hW:E'.W=E.W:=hA.1.W'
    rw [hW] at h2
    refine hpost w2 ?_ (hA.2.trans _ _ _ h2)
    have h3:=C.io
    rw [hA.1.io] at h3
    exact h3.trans ⟨h2.os,h2.output⟩
  obtain ⟨N,last,o,w2,t2,h1,h2,h3,h4⟩:=C.ends ha hret (sl:=sl)
  exact ⟨0,_,_,rfl,N,last,o,w2,t2,h1,h2,h3,h4⟩
theorem hg_run {g:Goroutine} {W:World} (hg:HG P 0 (FinF P Post) (Env.zero W) g W):∃ M last o w' t',runNT P (M+1) (solo g W) #[]=(.ended o w',t')∧runN P M (solo g W)=.next last∧step P last=.ended o w'∧Go.Conc.Good P Post last o w' t':=by
  obtain ⟨N,m',T',h1,N2,last,o,w',t',k1,k2,k3,k4⟩:=hg (Env.zero W) W #[g] #[] (fun _=>0) none ⟨.refl 0 _,Aw.refl _ _⟩ (Co.start P g W) rfl
  refine ⟨N+N2,last,o,w',t',?_,?_,k3,k4⟩
  · have:=runNT_add P N (N2+1) (crowd #[g] W none) #[]
    rw [h1] at this
    show runNT P (N+(N2+1)) (crowd #[g] W none) #[]=_
    rw [this]
    exact k1
  · have h5:runN P N (crowd #[g] W none)=.next m':=by rw [← runNT_fst _ _ _ #[],h1]
    show runN P (N+N2) (crowd #[g] W none)=_
    rw [runN_add,h5]
    exact k2
theorem below_end {W w' w2:World} {E':Env} (hk:Kept 0 none (Env.zero W) W E' w') (hs:Stands (Env.zero W) W E' w') (hio:SameIo E'.io w2) (hA:Aw E'.W w' w2):Below W.heap.size W { w2 with tape:=W.tape }:=by
  have h1:E'.io=W:=hk.le.io
  rw [h1] at hio
  have hWn:∀ b,b < W.heap.size→E'.W b=false:=fun b hb=>by
    cases e:E'.W b with
    | false=>rfl
    | true =>
      rcases hk.WN b e with z | z
      · cases z
      · omega
  refine ⟨hio.1,rfl,hio.2,?_,fun b hb=>?_⟩
  · show W.heap.size≤w2.heap.size
    rw [hA.size]; exact hk.size
  · show w2.heap[b]?=_
    rw [hA.heap b (hWn b hb)]
    cases e:(Env.zero W).H b with
    | some n=>exact hk.heap b n e rfl (by simp) hb
    | none=>rw [(hs b _ e (Array.getElem?_eq_getElem hb)).2,Array.getElem?_eq_getElem hb]
theorem law_good {f:FuncId} {fn:Func} {t:Tmp} {args:Array Value} {W:World} {v:Value} (hf:P.funcs[f]?=some fn) (hb:fn.body.isSome=true) (hr:fn.results=#[.tmp t]) (hin:P.inits.idxOf? f=none)
    (hg:∀ F,(∀ E' w' T todo,Kept 0 none (Env.zero W) W E' w'→Stands (Env.zero W) W E' w'→T[t]?=some v→HG P 0 F E' (G { (base f).at ⟨T,[]⟩ todo with mode:=.returning } []) w')→HG P 0 F (Env.zero W) (entry f fn args []) W)
    (hpost:∀ w2,Below W.heap.size W { w2 with tape:=W.tape }→Post v w2) :
    ∃ M last o w' t',runNT P (M+1) (solo (G (Frame.enter P f args .normal) []) W) #[]=(.ended o w',t')∧runN P M (solo (G (Frame.enter P f args .normal) []) W)=.next last∧step P last=.ended o w'∧Go.Conc.Good P Post last o w' t':=by
  cases hb':fn.body with
  | none=>rw [hb'] at hb; cases hb
  | some c =>
    rw [enter_at args hf hb']
    refine hg_run ?_
    have:=hg (FinF P Post) (fun E' w' T todo hk hs hv=>HG.done (b:=base f) (a:=⟨T,[]⟩) rfl rfl hf hr hin hv (fun i hi=>hk.le.gone i rfl) (fun w2 h1 h2=>hpost w2 (below_end hk hs h1 h2)))
    unfold entry at this
    rw [hb'] at this
    exact this
end
section
variable {H:Type} {enc:TypeId × Value→H}
theorem post_tape {P:Program} {f:Func} {s:ChangeSpec} {apart fresh handsOn:Bool} {W W':World} {args:Array Value} {v:Value} (tp:Tape)
    (h:s.post enc P f apart fresh handsOn false W args v { W' with tape:=tp }):s.post enc P f apart fresh handsOn false W args v W':=by
  obtain ⟨ds,gs,before,pr,pa,pv,h1,h2,h3,h4,h5,h6⟩:=h
  exact ⟨ds,gs,before,pr,pa,pv,h1,h2.of_heap (by rfl),h3.of_heap (by rfl),h4.of_heap (by rfl),h5,fun ha=>(by cases ha)⟩
end
end Go.Proofs.Ytimlbbleblijnaa.Co

namespace Go.Proofs.Ytimlbbleblijnaa.Co
open Go Go.Conc
def atomF:FuncId→Bool:=fun f=>f == 100 || f == 101 || f == 102 || f == 103 || f == 139 || f == 140 || f == 141 || f == 142
theorem find139:Extern.findNext Try.f139=none∧Extern.find Try.f139=some (Extern.Atomic.update (Op.intArith .add) .i64 true):=⟨by kernel_rfl,by kernel_rfl⟩
theorem find140:Extern.findNext Try.f140=none∧Extern.find Try.f140=some (Extern.Atomic.swapT (.int .i64)):=⟨by kernel_rfl,by kernel_rfl⟩
theorem find141:Extern.findNext Try.f141=none∧Extern.find Try.f141=some (Extern.Atomic.loadT (.int .i64)):=⟨by kernel_rfl,by kernel_rfl⟩
theorem find142:Extern.findNext Try.f142=none∧Extern.find Try.f142=some Extern.Atomic.storeT:=⟨by kernel_rfl,by kernel_rfl⟩
theorem closed_atom:Closed Try.prog atomF:=by
  have hcase:∀ f,atomF f=true→f=100∨f=101∨f=102∨f=103∨f=139∨f=140∨f=141∨f=142:=fun f hf=>by
    simp only [atomF,Bool.or_eq_true,beq_iff_eq,or_assoc] at hf
    exact hf
  refine ⟨fun f hf=>?_,fun f fn c hf hfn hb=>?_⟩
  · rcases hcase f hf with rfl | rfl | rfl | rfl | rfl | rfl | rfl | rfl
    · exact ⟨Try.f100,Try.func100,by kernel_rfl,.inl (by rfl)⟩
    · exact ⟨Try.f101,Try.func101,by kernel_rfl,.inl (by rfl)⟩
    · exact ⟨Try.f102,Try.func102,by kernel_rfl,.inl (by rfl)⟩
    · exact ⟨Try.f103,Try.func103,by kernel_rfl,.inl (by rfl)⟩
    · exact ⟨Try.f139,Try.func139,by kernel_rfl,.inr ⟨find139.1,_,find139.2,fun args=>ca_update _ (fun _ _ _=>ca_intArith _ _ _ _) _ _ _⟩⟩
    · exact ⟨Try.f140,Try.func140,by kernel_rfl,.inr ⟨find140.1,_,find140.2,fun args=>ca_swapT _ _⟩⟩
    · exact ⟨Try.f141,Try.func141,by kernel_rfl,.inr ⟨find141.1,_,find141.2,fun args=>ca_loadT _ _⟩⟩
    · exact ⟨Try.f142,Try.func142,by kernel_rfl,.inr ⟨find142.1,_,find142.2,fun args=>ca_storeT _⟩⟩
  · rcases hcase f hf with rfl | rfl | rfl | rfl | rfl | rfl | rfl | rfl
    · rw [Try.func100] at hfn
      obtain rfl:=Option.some.inj hfn
      have h2:Try.f100.body=some (Try.f100.body.getD .skip):=by rfl
      rw [h2] at hb
      obtain rfl:=Option.some.inj hb
      show quietCode Try.prog atomF (Try.f100.body.getD .skip)=true
      kernel_rfl
    · rw [Try.func101] at hfn
      obtain rfl:=Option.some.inj hfn
      have h2:Try.f101.body=some (Try.f101.body.getD .skip):=by rfl
      rw [h2] at hb
      obtain rfl:=Option.some.inj hb
      show quietCode Try.prog atomF (Try.f101.body.getD .skip)=true
      kernel_rfl
    · rw [Try.func102] at hfn
      obtain rfl:=Option.some.inj hfn
      have h2:Try.f102.body=some (Try.f102.body.getD .skip):=by rfl
      rw [h2] at hb
      obtain rfl:=Option.some.inj hb
      show quietCode Try.prog atomF (Try.f102.body.getD .skip)=true
      kernel_rfl
    · rw [Try.func103] at hfn
      obtain rfl:=Option.some.inj hfn
      have h2:Try.f103.body=some (Try.f103.body.getD .skip):=by rfl
      rw [h2] at hb
      obtain rfl:=Option.some.inj hb
      show quietCode Try.prog atomF (Try.f103.body.getD .skip)=true
      kernel_rfl
    · rw [Try.func139] at hfn
      obtain rfl:=Option.some.inj hfn
      cases hb
    · rw [Try.func140] at hfn
      obtain rfl:=Option.some.inj hfn
      cases hb
    · rw [Try.func141] at hfn
      obtain rfl:=Option.some.inj hfn
      cases hb
    · rw [Try.func142] at hfn
      obtain rfl:=Option.some.inj hfn
      cases hb
section
variable {P:Program} {ad:Addr} {x:World} {k:IntKind}
theorem run_swap_entry {v n:Int} (hc:x.cell? ad=some (.int k v)) (hz:x.frozen? ad=false):(Extern.Atomic.swapT (.int k) #[.pointer (some ad),.int k n]).run P x=.ok (.int k v) (x.setCell ad (.int k n)):=by
  change Sem.run P (do
    let a' ← asAddr (.pointer (some ad))
    let old ← Extern.Atomic.read (.int k) a'
    store a' (.int k n) .atomic
    pure old) x=_
  simp [Extern.Atomic.read,asAddr,hc,hz,run_store P x ad (.int k n) .atomic rfl,Result.andThen]
theorem run_load_entry {v:Int} (hc:x.cell? ad=some (.int k v)):(Extern.Atomic.loadT (.int k) #[.pointer (some ad)]).run P x=.ok (.int k v) x:=by
  change Sem.run P (do
    let a' ← asAddr (.pointer (some ad))
    Extern.Atomic.read (.int k) a') x=_
  simp [Extern.Atomic.read,asAddr,hc]
theorem run_store_entry {v n:Int} (hc:x.cell? ad=some (.int k v)) (hz:x.frozen? ad=false):(Extern.Atomic.storeT #[.pointer (some ad),.int k n]).run P x=.ok (.tuple #[]) (x.setCell ad (.int k n)):=by
  change Sem.run P (do
    let a' ← asAddr (.pointer (some ad))
    store a' (.int k n) .atomic
    pure Extern.Atomic.none_) x=_
  simp [asAddr,hc,hz,run_store P x ad (.int k n) .atomic rfl,Result.andThen,Extern.Atomic.none_]
end
theorem w64 (n:Int):IntKind.i64.wrap n=RowKit.wrap64 n:=by
  rw [IntKind.wrap_i64]
  unfold RowKit.wrap64
  omega
def WordAt (x:World) (a:Addr) (v:Int):Prop:=a.spot=none∧∃ (c:Array Value) (t:TypeId),x.heap[a.block]?=some (.cells c t)∧c[a.off]?=some (.int .i64 v)
theorem WordAt.cell {x:World} {a:Addr} {v:Int} (h:WordAt x a v):x.cell? a=some (.int .i64 v):=by
  obtain ⟨h0,c,t,h1,h2⟩:=h
  obtain ⟨b,o,sp⟩:=a
  cases h0
  exact obj_cell h1 h2
theorem WordAt.thaw {x:World} {a:Addr} {v:Int} (h:WordAt x a v):x.frozen? a=false:=by
  obtain ⟨h0,c,t,h1,h2⟩:=h
  obtain ⟨b,o,sp⟩:=a
  cases h0
  exact obj_thaw h1 o
theorem WordAt.same {x x':World} {a:Addr} {v:Int} (h:WordAt x a v) (hs:x'.heap[a.block]?=x.heap[a.block]?):WordAt x' a v:=by
  obtain ⟨h0,c,t,h1,h2⟩:=h
  exact ⟨h0,c,t,hs.trans h1,h2⟩
section
variable {x:World} {b o:Nat} {v n:Int}
theorem aload_any (hW:WordAt x ⟨b,o,none⟩ v):Calls Try.prog 102 #[.pointer (some ⟨b,o,none⟩)] x fun e x'=>e=.returned (.int .i64 v)∧x'=x:=by
  have hr:(callFunc 141 #[.pointer (some ⟨b,o,none⟩)]).run Try.prog x=.ok (.value (.int .i64 v)) (x):=by
    rw [run_callFunc_extern Try.func141 (by kernel_rfl) (by rfl) find141.1 find141.2,run_load_entry hW.cell]; rfl
  have hc:=hW.cell
  have hz:=hW.thaw
  go_enter Try.func102,Try.ntmps102
  go_wp2
  go_ret
  refine ⟨?_,?_⟩ <;> first | rfl | (simp only [w64]; rfl) | simp only [w64]
theorem astore_any (hW:WordAt x ⟨b,o,none⟩ v):Calls Try.prog 103 #[.pointer (some ⟨b,o,none⟩),.int .i64 n] x fun e x'=>e=.returned (.tuple #[])∧x'=x.setCell ⟨b,o,none⟩ (.int .i64 n):=by
  have hr:(callFunc 142 #[.pointer (some ⟨b,o,none⟩),.int .i64 n]).run Try.prog x=.ok (.value (.tuple #[])) (x.setCell ⟨b,o,none⟩ (.int .i64 n)):=by
    rw [run_callFunc_extern Try.func142 (by kernel_rfl) (by rfl) find142.1 find142.2,run_store_entry hW.cell hW.thaw]; rfl
  have hc:=hW.cell
  have hz:=hW.thaw
  go_enter Try.func103,Try.ntmps103
  go_wp2
  exact bodyPost_end (results_none rfl _ _ _) rfl ⟨rfl,rfl⟩
theorem aadd_any (hW:WordAt x ⟨b,o,none⟩ v):Calls Try.prog 100 #[.pointer (some ⟨b,o,none⟩),.int .i64 n] x fun e x'=>e=.returned (.int .i64 (IntKind.i64.wrap (v+n)))∧x'=x.setCell ⟨b,o,none⟩ (.int .i64 (IntKind.i64.wrap (v+n))):=by
  have hr:(callFunc 139 #[.pointer (some ⟨b,o,none⟩),.int .i64 n]).run Try.prog x=.ok (.value (.int .i64 (IntKind.i64.wrap (v+n)))) (x.setCell ⟨b,o,none⟩ (.int .i64 (IntKind.i64.wrap (v+n)))):=by
    rw [run_callFunc_extern Try.func139 (by kernel_rfl) (by rfl) find139.1 find139.2,run_add_entry hW.cell hW.thaw]; rfl
  have hc:=hW.cell
  have hz:=hW.thaw
  go_enter Try.func100,Try.ntmps100
  go_wp2
  go_ret
  refine ⟨?_,?_⟩ <;> first | rfl | (simp only [w64]; rfl) | simp only [w64]
theorem aswap_any (hW:WordAt x ⟨b,o,none⟩ v):Calls Try.prog 101 #[.pointer (some ⟨b,o,none⟩),.int .i64 n] x fun e x'=>e=.returned (.int .i64 v)∧x'=x.setCell ⟨b,o,none⟩ (.int .i64 n):=by
  have hr:(callFunc 140 #[.pointer (some ⟨b,o,none⟩),.int .i64 n]).run Try.prog x=.ok (.value (.int .i64 v)) (x.setCell ⟨b,o,none⟩ (.int .i64 n)):=by
    rw [run_callFunc_extern Try.func140 (by kernel_rfl) (by rfl) find140.1 find140.2,run_swap_entry hW.cell hW.thaw]; rfl
  have hc:=hW.cell
  have hz:=hW.thaw
  go_enter Try.func101,Try.ntmps101
  go_wp2
  go_ret
  refine ⟨?_,?_⟩ <;> first | rfl | (simp only [w64]; rfl) | simp only [w64]
end
end Go.Proofs.Ytimlbbleblijnaa.Co

namespace Go.Proofs.Ytimlbbleblijnaa.Co
open Go Go.Conc Go.RowKit
open Go.ConcN (sumTo upd sumTo_upd upd_ne upd_same sumTo_congr le_sumTo)
theorem row_cells {x:World} {B e n:Nat} {g cap:Nat} {xs:List Value} {sz:Nat} (h:x.ownsRow B e sz (.slice (some ⟨g,0,none⟩) n cap) n xs):∀ i u,xs[i]?=some u→x.cell? ⟨g,i,none⟩=some u:=by
  obtain ⟨h1,h2⟩:=h
  rcases h2 with ⟨h2,_⟩ | ⟨g',cap',cur,e1,hb,hg,c1,c2,c3,c4⟩
  · cases h2
  · intro i u hu
    cases e1
    refine obj_cell hg ?_
    rw [← c4,List.getElem?_take] at hu
    split at hu
    · simpa using hu
    · cases hu
theorem row_some {x:World} {B e n:Nat} {v:Value} {xs:List Value} {sz:Nat} (h:x.ownsRow B e sz v n xs) (hn:0 < n):∃ g cap,v=.slice (some ⟨g,0,none⟩) n cap:=by
  obtain ⟨h1,h2⟩:=h
  rcases h2 with ⟨rfl,rfl⟩ | ⟨g,cap,cur,rfl,_⟩
  · exact absurd hn (by omega)
  · exact ⟨g,cap,rfl⟩
section
variable {h:Nat} {F:Machine→Trace→Prop} {E:Env} {w:World} {b₀:Frame} {a₀:Act} {ops₀:Array Oper} {i₀:Nat} {rest₀:List Nat} {k₀:List Item} {cl:List Frame}
end
end Go.Proofs.Ytimlbbleblijnaa.Co

namespace Go.Proofs.Ytimlbbleblijnaa.Co
open Go Go.Conc Go.RowKit
section
variable {h:Nat} {F:Machine→Trace→Prop} {E:Env} {w:World} {b₀:Frame} {a₀:Act} {ops₀:Array Oper} {i₀:Nat} {rest₀:List Nat} {k₀:List Item} {cl:List Frame}
theorem _root_.Go.Proofs.Ytimlbbleblijnaa.Co.Idl.leaveV {P:Program} {main:Bool} {A:Nat→Goroutine→Prop} {n:Nat} {b:Frame} {a:Act} {cs:List Frame} (I:Idl P main A) {fn:Func} {v:Value} {todo:List Item} {b₀:Frame} {a₀:Act} {k:List Item} {ops:Array Oper} {i:Nat} {rest:List Nat} (hn:b.kind=.normal) (hd:a.defers=[]) (hf:P.funcs[b.fn]?=some fn)
    (hr:∀ w,(results fn a.tmps).run P w=.ok v w) (he:∀ w,(results fn a.tmps).events P w #[]=#[]) (hg:A n (G (b₀.at (a₀.put ((ops[i]?).bind (·.dst)) v) (.inRegion ops rest :: k)) cs)):A (n+1) (G { b.at a todo with mode:=.returning } (b₀.at a₀ (.inRegion ops (i :: rest) :: k) :: cs)) :=
  I.step _ _ _ rfl (fun w=>by rw [stepG_leave hn hd hf (hr w) (he w),Frame.finish_at]) hg
theorem step_nil (hc:HG Try.prog h F E (G (b₀.at (a₀.put ((ops₀[i₀]?).bind (·.dst)) (.tuple #[])) (.inRegion ops₀ rest₀ :: k₀)) cl) w) :
    HGn Try.prog h F E w 100 (entry 33 Try.f33 #[.pointer none] (b₀.at a₀ (.inRegion ops₀ (i₀ :: rest₀) :: k₀) :: cl)):=by
  unfold entry
  simp only [Try.f33,Option.getD_some]
  walk_nrm
  refine Idl.q (idl_hg Try.prog h F E w) (Idl.q (idl_hg Try.prog h F E w) (Idl.rg (idl_hg Try.prog h F E w) [0,1] rfl ?_))
  apply Idl.value (idl_hg Try.prog h F E w) rfl rfl (by first | decide | exact base_kind _ | exact baseD_kind _ | assumption)
  focus (intro w; go_simp; (try w_num); first | done | rfl)
  focus (intro w; simp [go_sem, *])
  walk_nrm
  refine Idl.value (v:=.bool true) (idl_hg Try.prog h F E w) rfl rfl (by k_ne) (fun w=>by kernel_rfl) (fun w=>by kernel_rfl) ?_
  walk_nrm
  refine Idl.re (idl_hg Try.prog h F E w) (Idl.ct (idl_hg Try.prog h F E w) rfl (Idl.rt (idl_hg Try.prog h F E w) ?_))
  refine Idl.leave0 (n:=1) (idl_hg Try.prog h F E w) rfl rfl Try.func33 rfl ?_
  exact hc
end
section
variable {F:Machine→Trace→Prop} {E:Env} {w:World}
end
end Go.Proofs.Ytimlbbleblijnaa.Co
