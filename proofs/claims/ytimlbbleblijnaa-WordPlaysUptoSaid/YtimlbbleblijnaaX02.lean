/- Lemmas for the laws of this seat, laid together of PGa, PGb, PGc, PGd, PGe, PGf. -/
import Derived.Test.YtimlbbleblijnaaX01
import Derived.Calls
import Derived.Conc.Company

set_option linter.unusedVariables false
set_option linter.unusedSimpArgs false
set_option maxRecDepth 100000
set_option maxHeartbeats 4000000
namespace Go.Proofs.Ytimlbbleblijnaa.Co
open Go.Conc
section
variable {P:Program} {F:FuncId→Bool} {D:Nat→Option Nat} {w:World}
theorem StepR.to {f:Frame} {fs:List Frame} {it:Item} {t t':List Item} (hm:f.mode=.run) (ht:f.todo=it :: t) (hf:QF P F f) (hfs:∀ c ∈ fs,QC P F c) (hfair:Fair (vw D w)) (hq:∀ i ∈ t',quietItem P F i=true)
  (h:∀ (fr:Frame) (k:List Item) main cs x,fr.tmps=f.tmps→fr.todo=it :: (t ++ k)→fr.roundOf=none→stepG.exec P main true fr cs none x=.go { frame:={ fr with todo:=t' ++ k },callers:=cs,status:=.running,dying:=none } x) :
  StepR P F D w f fs (stepG P true (G f fs) (vw D w)):=by
 have hg:∀ k main cs x,stepG P main (G (extFr k f) cs) x=.go (G (extFr k { f with todo:=t' }) cs) x:=fun k main cs x=>by
  rw [stepG_run (fr:=extFr k f) hm]
  exact h _ k main cs x rfl (by simp [extFr,ht]) hf.round
 have hg0:∀ main cs x,stepG P main (G f cs) x=.go (G { f with todo:=t' } cs) x:=fun main cs x=>by
  have e:extFr [] f=f:=by unfold extFr; rw [List.append_nil]
  have e2:extFr [] { f with todo:=t' }={ f with todo:=t' }:=by simp [extFr]
  have:=hg [] main cs x
  rwa [e,e2] at this
 exact StepR.ctl (hf.step hq) hfs hfair hg0 (fun k main cs=>hg k main cs _)
theorem quiet_tail {f:Frame} {it:Item} {t:List Item} (hf:QF P F f) (ht:f.todo=it :: t):∀ i ∈ t,quietItem P F i=true:=fun i hi=>hf.todo i (by rw [ht]; exact List.mem_cons_of_mem _ hi)
theorem eval_same {f fr:Frame} (h:fr.tmps=f.tmps):fr.eval=f.eval:=by
 funext x
 cases x <;> simp [Frame.eval,h]
theorem quiet_code {f:Frame} {fs:List Frame} {c:Code} {t:List Item} (hm:f.mode=.run) (ht:f.todo=.code c :: t) (hf:QF P F f) (hfs:∀ c ∈ fs,QC P F c) (hfair:Fair (vw D w)) (hb:Bounded D w) (hH:Hides D w) :
  StepR P F D w f fs (stepG P true (G f fs) (vw D w)):=by
 have hc:quietCode P F c=true:=hf.todo (.code c) (by rw [ht]; exact List.mem_cons_self ..)
 have htl:=quiet_tail hf ht
 have hcons:∀ {i:Item} {l:List Item},quietItem P F i=true→(∀ j ∈ l,quietItem P F j=true)→∀ j ∈ i :: l,quietItem P F j=true:=fun h1 h2 j hj=>(List.mem_cons.1 hj).elim (fun e=>e ▸ h1) (h2 j)
 cases c with
 | skip=>exact StepR.to hm ht hf hfs hfair (t':=t) htl (fun fr k main cs x h1 h2 h3=>by simp [stepG.exec,h2])
 | label l=>exact StepR.to hm ht hf hfs hfair (t':=t) htl (fun fr k main cs x h1 h2 h3=>by simp [stepG.exec,h2])
 | seq a b =>
   simp only [quietCode,Bool.and_eq_true] at hc
   exact StepR.to hm ht hf hfs hfair (t':=.code a :: .code b :: t) (hcons hc.1 (hcons hc.2 htl)) (fun fr k main cs x h1 h2 h3=>by simp [stepG.exec,h2])
 | cond o a b =>
   simp only [quietCode,Bool.and_eq_true] at hc
   by_cases hv:∃ bb,f.eval o=.bool bb
   ·obtain ⟨bb,hv⟩:=hv
    refine StepR.to hm ht hf hfs hfair (t':=.code (if bb then a else b) :: t) (hcons (by cases bb; exact hc.2; exact hc.1) htl) (fun fr k main cs x h1 h2 h3=>?_)
    have hv':fr.eval o=.bool bb:=by rw [eval_same h1]; exact hv
    simp [stepG.exec,h2,hv']
   ·refine StepR.ends fun x=>?_
    rw [stepG_run hm]
    simp only [stepG.exec,ht]
    split
    ·rename_i bb h; exact absurd ⟨bb,h⟩ hv
    ·exact ⟨_,_,_,rfl⟩
 | block id c=>exact StepR.to hm ht hf hfs hfair (t':=.code c :: .inBlock id :: t) (hcons hc (hcons rfl htl)) (fun fr k main cs x h1 h2 h3=>by simp [stepG.exec,h2])
 | loop c=>exact StepR.to hm ht hf hfs hfair (t':=.code c :: .inLoop c :: t) (hcons hc (hcons hc htl)) (fun fr k main cs x h1 h2 h3=>by simp [stepG.exec,h2])
 | scope c=>exact StepR.to hm ht hf hfs hfair (t':=.code c :: .inScope c :: t) (hcons hc (hcons hc htl)) (fun fr k main cs x h1 h2 h3=>by simp [stepG.exec,h2])
 | exit id =>
   cases he:exitTo id t with
   | some t'=>exact StepR.to hm ht hf hfs hfair (t':=t') (fun i hi=>htl i (exitTo_mem he i hi)) (fun fr k main cs x h1 h2 h3=>by simp [stepG.exec,h2,exitTo_app (k:=k) he])
   | none =>
     refine StepR.ends fun x=>?_
     rw [stepG_run hm]
     simp only [stepG.exec,ht,he,Option.elim_none,hf.round]
     exact ⟨_,_,_,rfl⟩
 | ret =>
   have hg:∀ (fr:Frame) main cs x,fr.mode=.run→(∃ l,fr.todo=.code .ret :: l)→fr.roundOf=none→stepG P main (G fr cs) x=.go (G { fr with mode:=.returning } cs) x:=fun fr main cs x h1 ⟨l,h2⟩ h3=>by
    rw [stepG_run h1]
    simp [stepG.exec,h2,h3,G]
   refine StepR.ctl (f':={ f with mode:=.returning }) ⟨hf.defers,hf.kind,hf.round,hf.todo⟩ hfs hfair (fun main cs x=>hg f main cs x hm ⟨t,ht⟩ hf.round) (fun k main cs=>hg (extFr k f) main cs _ hm ⟨t ++ k,by simp [extFr,ht]⟩ hf.round)
 | region id ops draw =>
   cases draw with
   | false=>exact StepR.to hm ht hf hfs hfair (t':=.inRegion ops (List.range ops.size) :: t) (hcons hc htl) (fun fr k main cs x h1 h2 h3=>by simp [stepG.exec,h2])
   | true =>
     have hg:∀ (fr:Frame) (l:List Item) main cs x,fr.mode=.run→fr.fn=f.fn→fr.todo=.code (.region id ops true) :: l →
       stepG P main (G fr cs) x=.go (G { fr with todo:=.inRegion ops (Region.schedule (P.follows .mixedOrders) ops (x.tape x.drawn (.order f.fn id))) :: l } cs) { x with drawn:=x.drawn+1 }:=fun fr l main cs x h1 hfn h2=>by
      rw [stepG_run h1]
      simp [stepG.exec,h2,choose,Sem.run,Question.forced,Question.cut,G,hfn]
     rw [hg f t true fs (vw D w) hm rfl ht]
     refine ⟨_,fs,rfl,hf.step (hcons hc htl),hfs,⟨{ w with drawn:=w.drawn+1 },rfl,Keeps.drawn _,hfair,#[],fun e he=>by simp at he,fun k base main=>?_⟩,rfl,Nat.le_succ _,fun τ d ha=>⟨#[],?_⟩⟩
     ·cases fs with
      | nil=>exact hg (extFr k f) (t ++ k) main base w hm rfl (by simp [extFr,ht])
      | cons g fs=>exact hg f t main _ w hm rfl ht
     ·have h0:τ d=w.tape w.drawn:=by have:=ha 0 (by show w.drawn+0 < w.drawn+1; omega); simpa using this
      rw [hg f t true fs (rt (vw D w) τ d) hm rfl ht]
      have e1:d+((w.drawn+1) - w.drawn)=d+1:=by omega
      simp only [rt_tape,rt_drawn,h0,vw_tape,vw_drawn,e1]
      rfl
 | rangeFunc a b c d=>cases hc
 | goto l=>cases hc
 | refuse s=>cases hc
end
section
variable {P:Program} {F:FuncId→Bool} {D:Nat→Option Nat} {w:World}
theorem extFr_finish {fr:Frame} {k:List Item} (v:Value) (h:fr.todo≠[]):(extFr k fr).finish v=extFr k (fr.finish v):=by
 obtain ⟨fn,tmps,todo,defers,mode,kind,ro⟩:=fr
 cases todo with
 | nil=>exact absurd rfl h
 | cons it t =>
   cases it with
   | inRegion ops l=>cases l <;> rfl
   | _=>rfl
theorem QF.finish {fr:Frame} (h:QF P F fr) (v:Value):QF P F (fr.finish v):=by
 obtain ⟨fn,tmps,todo,defers,mode,kind,ro⟩:=fr
 cases todo with
 | nil=>exact h
 | cons it t =>
   cases it with
   | inRegion ops l =>
     cases l with
     | nil=>exact h
     | cons i l=>exact ⟨h.defers,h.kind,h.round,fun x hx=>by
       rcases List.mem_cons.1 hx with rfl | hx
       ·exact h.todo (.inRegion ops (i :: l)) (List.mem_cons_self ..)
       ·exact h.todo x (List.mem_cons_of_mem _ hx)⟩
   | inBlock=>exact h
   | code=>exact h
   | inLoop=>exact h
   | inScope=>exact h
   | inRangeFunc l=>have:=h.todo _ (List.mem_cons_self ..); cases this
   | endRangeFunc l=>have:=h.todo _ (List.mem_cons_self ..); cases this
   | beginRound=>have:=h.todo _ (List.mem_cons_self ..); cases this
   | call=>have:=h.todo _ (List.mem_cons_self ..); cases this
   | extern=>have:=h.todo _ (List.mem_cons_self ..); cases this
theorem QF.raise {fr:Frame} (h:QF P F fr) (l:List PanicEntry):QF P F (fr.raise l):=by
 unfold Frame.raise
 split <;> exact ⟨h.defers,h.kind,h.round,h.todo⟩
theorem extFr_raise {fr:Frame} {k:List Item} (l:List PanicEntry):(extFr k fr).raise l=extFr k (fr.raise l):=by
 obtain ⟨fn,tmps,todo,defers,mode,kind,ro⟩:=fr
 cases mode <;> rfl
theorem QC.of {fr:Frame} (h:QC P F fr):QF P F fr:=h.toQF
section apply
variable {fr:Frame} {cs:List Frame} {s:Sem Next} {x x':World} {es:Array Event}
theorem apply_value {v:Value} (h:s.runT P x #[]=(.ok (.value v) x',es)) (hk:fr.kind=.normal):stepG.apply P true fr cs none s x=.go (G (fr.finish v) cs) x' (seen P fr.fn es):=by
 unfold stepG.apply
 simp only [h,if_true,hk]
 simp [GStep.after,G]
theorem apply_skip (h:s.runT P x #[]=(.ok .skip x',es)) (hk:fr.kind=.normal):stepG.apply P true fr cs none s x=.go (G (fr.finish undef) cs) x' (seen P fr.fn es):=by
 unfold stepG.apply
 simp only [h,if_true,hk]
 simp [GStep.after,G]
theorem apply_enter {f:FuncId} {args:Array Value} (h:s.runT P x #[]=(.ok (.enter f args) x',es)) (hk:fr.kind=.normal) (ht:∀ d b r s t,fr.todo≠.call d b r s :: t):stepG.apply P true fr cs none s x=.go (G (Frame.enter P f args .normal) (fr :: cs)) x' (seen P fr.fn es):=by
 unfold stepG.apply
 simp only [h,if_true,hk]
 simp [GStep.after,G]
 split
 ·rename_i h; exact absurd h (ht _ _ _ _ _)
 ·rfl
theorem apply_panic {v:Value} (h:s.runT P x #[]=(.halt (.panic v) x',es)) (hk:fr.kind=.normal):stepG.apply P true fr cs none s x=.go (G (fr.raise [{ v,recovered:=false }]) cs) x' (seen P fr.fn es):=by
 unfold stepG.apply
 simp only [h,if_true,hk]
 simp [GStep.after,G]
theorem apply_final {y:Halt} (h:s.runT P x #[]=(.halt y x',es)) (hf:y.final=true) (hk:fr.kind=.normal):∃ a b c,stepG.apply P true fr cs none s x=.ended a b c:=by
 unfold stepG.apply
 simp only [h,if_true,hk]
 cases y with
 | unsupported u =>
   cases u with
   | initOrder g=>cases hf
   | _=>simp [GStep.after]
 | stuck=>simp [GStep.after]
 | _=>cases hf
end apply
theorem at_self {fr:Frame} {it:List Item} (h1:fr.mode=.run) (h2:fr.todo=it) (h3:fr.roundOf=none):fr=fr.at ⟨fr.tmps,fr.defers⟩ it:=by
 obtain ⟨fn,tmps,todo,defers,mode,kind,ro⟩:=fr
 simp only at h1 h2 h3
 subst h1 h2 h3
 rfl
theorem step_wanted {fr:Frame} {ops:Array Oper} {i:Nat} {l:List Nat} {t:List Item} {o:Oper} (h1:fr.mode=.run) (h2:fr.todo=.inRegion ops (i :: l) :: t) (h3:fr.roundOf=none) (ho:ops[i]?=some o) (hw:Region.wanted o (yielded ops fr.tmps)=true) (main:Bool) (cs:List Frame) (x:World) :
  stepG P main (G fr cs) x=stepG.apply P true fr cs none (execOp fr.eval o) x:=by
 have e:=at_self h1 h2 h3
 have:=stepG_oper (P:=P) (main:=main) (b:=fr) (a:=⟨fr.tmps,fr.defers⟩) (k:=t) (cs:=cs) (w:=x) (rest:=l) ho hw
 rw [← e] at this
 rw [this]
 congr 2
theorem step_unwanted {fr:Frame} {ops:Array Oper} {i:Nat} {l:List Nat} {t:List Item} (h1:fr.mode=.run) (h2:fr.todo=.inRegion ops (i :: l) :: t) (hw:((ops[i]?).map (Region.wanted · (yielded ops fr.tmps))).getD false=false) (main:Bool) (cs:List Frame) (x:World) :
  stepG P main (G fr cs) x=.go (G (fr.finish undef) cs) x:=by
 rw [stepG_run h1]
 simp [stepG.exec,h2,hw,G]
theorem closed_enter (hC:Closed P F) {f:FuncId} {args:Array Value} (hF:F f=true) (hb:∃ fn,P.funcs[f]?=some fn∧fn.body.isSome=true):QF P F (Frame.enter P f args .normal):=by
 obtain ⟨fn,hf,hb⟩:=hb
 refine ⟨rfl,rfl,rfl,fun it hi=>?_⟩
 simp only [Frame.enter,hf,Option.bind_some,List.mem_singleton] at hi
 subst hi
 cases hc:fn.body with
 | none=>rw [hc] at hb; cases hb
 | some c=>exact hC.body f fn c hF hf hc
theorem quiet_oper (hC:Closed P F) {f:Frame} {fs:List Frame} {ops:Array Oper} {i:Nat} {l:List Nat} {t:List Item} (hm:f.mode=.run) (ht:f.todo=.inRegion ops (i :: l) :: t) (hf:QF P F f) (hfs:∀ c ∈ fs,QC P F c) (hfair:Fair (vw D w)) (hb:Bounded D w) (hH:Hides D w) :
  StepR P F D w f fs (stepG P true (G f fs) (vw D w)):=by
 have hops:(ops.toList.all fun o=>quietOp P F o.op)=true:=hf.todo (.inRegion ops (i :: l)) (by rw [ht]; exact List.mem_cons_self ..)
 have hne:f.todo≠[]:=by rw [ht]; simp
 cases hw:((ops[i]?).map (Region.wanted · (yielded ops f.tmps))).getD false with
 | true =>
   obtain ⟨o,ho⟩:∃ o,ops[i]?=some o:=by
    cases h:ops[i]? with
    | none=>rw [h] at hw; cases hw
    | some o=>exact ⟨o,rfl⟩
   have hw':Region.wanted o (yielded ops f.tmps)=true:=by simpa [ho] using hw
   have hq:quietOp P F o.op=true:=by
    simp only [List.all_eq_true] at hops
    exact hops o (Array.mem_toList_iff.2 (Array.mem_of_getElem? ho))
   have hQ:=qt_execOp (P:=P) (F:=F) (o:=o) hq hC.good f.eval (fun f=>rfl) (fun v=>rfl)
   have hS:=run_vw (D:=D) (execOp f.eval o) [] w #[] #[] (hQ.1 []) (fun r hr=>by cases hr) hfair hb hH
   have hv:=step_wanted (P:=P) hm ht hf.round ho hw' true fs (vw D w)
   have hx:∀ (k:List Item) (main:Bool) (cs:List Frame),stepG P main (G (extFr k f) cs) w=stepG.apply P true (extFr k f) cs none (execOp f.eval o) w:=fun k main cs=>by
    have:=step_wanted (P:=P) (fr:=extFr k f) (l:=l) (t:=t ++ k) hm (by simp [extFr,ht]) hf.round ho hw' main cs w
    rw [this,eval_same (fr:=extFr k f) (f:=f) rfl]
   have hx0:∀ (main:Bool) (cs:List Frame),stepG P main (G f cs) w=stepG.apply P true f cs none (execOp f.eval o) w:=fun main cs=>step_wanted (P:=P) hm ht hf.round ho hw' main cs w
   obtain ⟨t1,t2,t3⟩:=runT_rt (P:=P) (execOp f.eval o) [] (vw D w) #[] (hQ.1 []) hfair
   have hrt:∀ τ d,stepG P true (G f fs) (rt (vw D w) τ d)=stepG.apply P true f fs none (execOp f.eval o) (rt (vw D w) τ d):=fun τ d=>step_wanted (P:=P) hm ht hf.round ho hw' true fs _
   rw [hv]
   cases hr:(execOp f.eval o).runT P (vw D w) #[] with
   | mk r esv =>
     rw [hr] at hS t1 t2 t3
     cases r with
     | ok n v' =>
       obtain ⟨w',new,e1,e2,hK,hF',hev⟩:=hS
       rw [Array.empty_append] at e1
       have hn:=hQ.2.run _ e1
       have hseen:=seen_ev (P:=P) (fn:=f.fn) hev
       cases n with
       | value v =>
         rw [apply_value hr hf.kind]
         refine ⟨_,fs,rfl,hf.finish v,hfs,⟨w',e2,hK,hF',_,hseen,fun k base main=>?_⟩,t1,t2,fun τ d ha=>?_⟩
         ·cases fs with
          | nil=>show stepG P main (G (extFr k f) base) w=_; rw [hx,apply_value (fr:=extFr k f) e1 hf.kind,extFr_finish v hne]; rfl
          | cons g fs=>show stepG P main (G f _) w=_; rw [hx0,apply_value e1 hf.kind]; rfl
         ·rw [hrt,apply_value (t3 τ d ha) hf.kind]
          exact ⟨_,rfl⟩
       | skip =>
         rw [apply_skip hr hf.kind]
         refine ⟨_,fs,rfl,hf.finish undef,hfs,⟨w',e2,hK,hF',_,hseen,fun k base main=>?_⟩,t1,t2,fun τ d ha=>?_⟩
         ·cases fs with
          | nil=>show stepG P main (G (extFr k f) base) w=_; rw [hx,apply_skip (fr:=extFr k f) e1 hf.kind,extFr_finish undef hne]; rfl
          | cons g fs=>show stepG P main (G f _) w=_; rw [hx0,apply_skip e1 hf.kind]; rfl
         ·rw [hrt,apply_skip (t3 τ d ha) hf.kind]
          exact ⟨_,rfl⟩
       | enter g args =>
         have hcall:∀ (k:List Item) d b r s t',(extFr k f).todo≠.call d b r s :: t':=fun k d b r s t' e=>by simp [extFr,ht] at e
         have hcall0:∀ d b r s t',f.todo≠.call d b r s :: t':=fun d b r s t' e=>by rw [ht] at e; cases e
         rw [apply_enter hr hf.kind hcall0]
         refine ⟨_,f :: fs,rfl,closed_enter hC hn.1 hn.2,fun c hc=>(List.mem_cons.1 hc).elim (fun e=>e ▸ ⟨hf,hm,hne⟩) (hfs c),⟨w',e2,hK,hF',_,hseen,fun k base main=>?_⟩,t1,t2,fun τ d ha=>?_⟩
         ·cases fs with
          | nil=>show stepG P main (G (extFr k f) base) w=_; rw [hx,apply_enter (fr:=extFr k f) e1 hf.kind (hcall k)]; rfl
          | cons g fs=>show stepG P main (G f _) w=_; rw [hx0,apply_enter e1 hf.kind hcall0]; rfl
         ·rw [hrt,apply_enter (t3 τ d ha) hf.kind hcall0]
          exact ⟨_,rfl⟩
       | _=>exact hn.elim
     | halt y v' =>
       by_cases hy:y.final=true
       ·obtain ⟨a,b,c,e⟩:=apply_final (fr:=f) (cs:=fs) hr hy hf.kind
        rw [e]
        refine ⟨v',t2,fun τ d ha=>?_⟩
        rw [hrt]
        rcases t3 τ d ha with ⟨_,y',x',hy1,hy2⟩ | hy1
        ·cases hq:(execOp f.eval o).runT P (rt (vw D w) τ d) #[] with
         | mk r2 es2 =>
           rw [hq] at hy1
           simp only at hy1
           subst hy1
           exact apply_final hq hy2 hf.kind
        ·exact apply_final hy1 hy hf.kind
       ·obtain ⟨hfairY,hS⟩:=hS
        obtain ⟨w',new,e1,e2,hK,hF',hev⟩:=hS (by simpa using hy)
        rw [Array.empty_append] at e1
        have hseen:=seen_ev (P:=P) (fn:=f.fn) hev
        cases y with
        | panic v =>
          rw [apply_panic hr hf.kind]
          refine ⟨_,fs,rfl,hf.raise _,hfs,⟨w',e2,hK,hF',_,hseen,fun k base main=>?_⟩,t1,t2,fun τ d ha=>?_⟩
          ·cases fs with
           | nil=>show stepG P main (G (extFr k f) base) w=_; rw [hx,apply_panic (fr:=extFr k f) e1 hf.kind,extFr_raise]; rfl
           | cons g fs=>show stepG P main (G f _) w=_; rw [hx0,apply_panic e1 hf.kind]; rfl
          ·rcases t3 τ d ha with ⟨hx1,_⟩ | hy1
           ·cases hx1
           ·rw [hrt,apply_panic hy1 hf.kind]
            exact ⟨_,rfl⟩
        | _=>exact absurd hfairY (by first | exact hy | (intro h; cases h))
 | false =>
   have hg:=fun main cs x=>step_unwanted (P:=P) hm ht hw main cs x
   exact StepR.ctl (hf.finish undef) hfs hfair hg (fun k main cs=>by
    rw [step_unwanted (P:=P) (fr:=extFr k f) (l:=l) (t:=t ++ k) hm (by simp [extFr,ht]) hw,extFr_finish undef hne])
end
section
variable {P:Program} {F:FuncId→Bool} {D:Nat→Option Nat} {w:World}
theorem ca_results (fn:Func) (tmps:Array Value):CalmA P (results fn tmps):=by
 unfold results
 refine ca_bind (ca_mapM _ (fun r=>?_) _) fun _=>ca_pure _
 cases r with
 | tmp t=>exact ca_pure _
 | cell a t=>exact ca_bind (ca_asAddr _) fun _=>ca_loadVar _ _
theorem stepG_unwind {fr:Frame} {cs:List Frame} (hm:fr.mode≠.run) (main:Bool) (x:World):stepG P main (G fr cs) x=unwind P main fr cs none x:=by
 unfold stepG G
 obtain ⟨fn,tmps,todo,defers,mode,kind,ro⟩:=fr
 cases mode with
 | run=>exact absurd rfl hm
 | _=>rfl
theorem Gx_finish {k:List Item} {base:List Frame} {c:Frame} {fs:List Frame} (v:Value) (hc:c.todo≠[]) (main:Bool) :
  ∀ f:Frame,∃ top rest,Gx k base f (c :: fs)=G f (top :: rest)∧Gx k base (c.finish v) fs=G (top.finish v) rest∧(∀ l,Gx k base (c.raise l) fs=G (top.raise l) rest):=by
 intro f
 cases fs with
 | nil=>exact ⟨extFr k c,base,rfl,by show G (extFr k (c.finish v)) base=_; rw [extFr_finish v hc],fun l=>by show G (extFr k (c.raise l)) base=_; rw [extFr_raise]⟩
 | cons g fs=>exact ⟨c,extFs k base (g :: fs),rfl,rfl,fun l=>rfl⟩
theorem doReturn_go (main:Bool) (fr c:Frame) (rest:List Frame) (v:Value) (x:World) (hk:fr.kind=.normal):doReturn P main fr (c :: rest) none v x=.go (G (c.finish v) rest) x:=by
 unfold doReturn
 simp only [hk]
 rfl
theorem quiet_return {f c:Frame} {fs:List Frame} (hm:f.mode=.returning) (hf:QF P F f) (hc:QC P F c) (hfs:∀ c ∈ fs,QC P F c) (hfair:Fair (vw D w)) (hb:Bounded D w) (hH:Hides D w) :
  StepR P F D w f (c :: fs) (stepG P true (G f (c :: fs)) (vw D w)):=by
 have hnr:f.mode≠.run:=by rw [hm]; simp
 rw [stepG_unwind hnr]
 cases hfn:P.funcs[f.fn]? with
 | none =>
   have hu:∀ main cs x,unwind P main f cs none x=doReturn P main f cs none (f.tmps.getD 0 undef) x:=fun main cs x=>by
    unfold unwind; simp only [hf.defers,hm,hfn]
   rw [hu,doReturn_go _ _ _ _ _ _ hf.kind]
   refine ⟨_,fs,rfl,hc.toQF.finish _,hfs,⟨w,rfl,Keeps.refl _ _,hfair,#[],fun e he=>by simp at he,fun k base main=>?_⟩,rfl,Nat.le_refl _,fun τ d _=>⟨#[],?_⟩⟩
   ·obtain ⟨top,rest,e1,e2,_⟩:=Gx_finish (k:=k) (base:=base) (fs:=fs) (f.tmps.getD 0 undef) hc.busy main f
    rw [e1,e2,stepG_unwind hnr,hu,doReturn_go _ _ _ _ _ _ hf.kind]
   ·rw [stepG_unwind hnr,hu,doReturn_go _ _ _ _ _ _ hf.kind]
    simp
 | some fn =>
   have hS:=run_vw (P:=P) (D:=D) (results fn f.tmps) [] w #[] #[] (ca_results fn f.tmps []) (fun r hr=>by cases hr) hfair hb hH
   have hu:∀ main cs x,unwind P main f cs none x=GStep.after (seen P f.fn ((results fn f.tmps).runT P x #[]).2) (match ((results fn f.tmps).runT P x #[]).1 with
     | .ok v w=>doReturn P main f cs none v w
     | .halt (.stuck s) w=>.ended (.stuck s (f.pos P)) w
     | .halt _ w=>.ended (.stuck "return: the result variables cannot be read" (f.pos P)) w):=fun main cs x=>by
    unfold unwind
    simp only [hf.defers,hm,hfn]
    generalize (results fn f.tmps).runT P x #[]=q
    obtain ⟨r,es⟩:=q
    cases r with
    | ok v x'=>rfl
    | halt y x'=>cases y <;> rfl
   obtain ⟨t1,t2,t3⟩:=runT_rt (P:=P) (results fn f.tmps) [] (vw D w) #[] (ca_results fn f.tmps []) hfair
   have hrt:∀ τ d,stepG P true (G f (c :: fs)) (rt (vw D w) τ d)=unwind P true f (c :: fs) none (rt (vw D w) τ d):=fun τ d=>stepG_unwind hnr true _
   rw [hu]
   cases hr:(results fn f.tmps).runT P (vw D w) #[] with
   | mk r esv =>
     rw [hr] at hS t1 t2 t3
     cases r with
     | ok v v' =>
       obtain ⟨w',new,e1,e2,hK,hF',hev⟩:=hS
       rw [Array.empty_append] at e1
       simp only
       rw [doReturn_go _ _ _ _ _ _ hf.kind]
       refine ⟨c.finish v,fs,rfl,hc.toQF.finish _,hfs,⟨w',e2,hK,hF',seen P f.fn new,seen_ev hev,fun k base main=>?_⟩,t1,t2,fun τ d ha=>?_⟩
       ·obtain ⟨top,rest,x1,x2,_⟩:=Gx_finish (k:=k) (base:=base) (fs:=fs) v hc.busy main f
        rw [x1,x2,stepG_unwind hnr,hu,e1]
        simp only
        rw [doReturn_go _ _ _ _ _ _ hf.kind]
        simp [GStep.after]
       ·have h3:(results fn f.tmps).runT P (rt (vw D w) τ d) #[]=_:=t3 τ d ha
        rw [hrt,hu,h3]
        simp only
        rw [doReturn_go _ _ _ _ _ _ hf.kind]
        exact ⟨_,rfl⟩
     | halt y v' =>
       have hend:∀ (y:Halt) (x:World) (es:Array Event),∃ o z q,GStep.after es (match (Result.halt y x:Result Value) with
         | .ok v w=>doReturn P true f (c :: fs) none v w
         | .halt (.stuck s) w=>.ended (.stuck s (f.pos P)) w
         | .halt _ w=>.ended (.stuck "return: the result variables cannot be read" (f.pos P)) w)=.ended o z q:=fun y x es=>by
        cases y <;> exact ⟨_,_,_,rfl⟩
       obtain ⟨a,b,cc,e⟩:=hend y v' (seen P f.fn esv)
       refine (congrArg (StepR P F D w f (c :: fs)) e).mpr ?_
       refine ⟨v',t2,fun τ d ha=>?_⟩
       rw [hrt,hu]
       rcases t3 τ d ha with ⟨_,y',x',hy1,hy2⟩ | hy1
       ·rw [hy1]; exact hend _ _ _
       ·rw [hy1]; exact hend _ _ _
theorem catches_not {f:Frame} (hf:QF P F f):f.catches P=false:=by
 unfold Frame.catches
 split
 ·rename_i h1 h2
  have:=hf.todo _ (by rw [h2]; exact List.mem_cons_self ..)
  cases this
 ·rfl
theorem quiet_panic {f c:Frame} {fs:List Frame} {chain:List PanicEntry} (hm:f.mode=.panicking chain) (hf:QF P F f) (hc:QC P F c) (hfs:∀ c ∈ fs,QC P F c) (hfair:Fair (vw D w)) :
  StepR P F D w f (c :: fs) (stepG P true (G f (c :: fs)) (vw D w)):=by
 have hnr:f.mode≠.run:=by rw [hm]; simp
 have hu:∀ main c rest x,unwind P main f (c :: rest) none x=.go (G (c.raise chain) rest) x:=fun main c rest x=>by
  unfold unwind
  simp only [hf.defers,hm,catches_not hf]
  rfl
 rw [stepG_unwind hnr,hu]
 refine ⟨_,fs,rfl,hc.toQF.raise _,hfs,⟨w,rfl,Keeps.refl _ _,hfair,#[],fun e he=>by simp at he,fun k base main=>?_⟩,rfl,Nat.le_refl _,fun τ d _=>⟨#[],?_⟩⟩
 ·obtain ⟨top,rest,e1,e2,e3⟩:=Gx_finish (k:=k) (base:=base) (fs:=fs) undef hc.busy main f
  rw [e1,e3,stepG_unwind hnr,hu]
 ·rw [stepG_unwind hnr,hu]
  simp
theorem quiet_step (hC:Closed P F) {f:Frame} {fs:List Frame} (hf:QF P F f) (hfs:∀ c ∈ fs,QC P F c) (hgo:fs=[]→f.mode=.run∧f.todo≠[]) (hfair:Fair (vw D w)) (hb:Bounded D w) (hH:Hides D w) :
  StepR P F D w f fs (stepG P true (G f fs) (vw D w)):=by
 have hcons:∀ {i:Item} {l:List Item},quietItem P F i=true→(∀ j ∈ l,quietItem P F j=true)→∀ j ∈ i :: l,quietItem P F j=true:=fun h1 h2 j hj=>(List.mem_cons.1 hj).elim (fun e=>e ▸ h1) (h2 j)
 cases hm:f.mode with
 | returning =>
   cases fs with
   | nil=>rw [(hgo rfl).1] at hm; cases hm
   | cons c fs=>exact quiet_return hm hf (hfs c (List.mem_cons_self ..)) (fun x hx=>hfs x (List.mem_cons_of_mem _ hx)) hfair hb hH
 | panicking chain =>
   cases fs with
   | nil=>rw [(hgo rfl).1] at hm; cases hm
   | cons c fs=>exact quiet_panic hm hf (hfs c (List.mem_cons_self ..)) (fun x hx=>hfs x (List.mem_cons_of_mem _ hx)) hfair
 | run =>
   cases ht:f.todo with
   | nil =>
     cases fs with
     | nil=>exact absurd ht (hgo rfl).2
     | cons c fs =>
       have hg:∀ main cs x,stepG P main (G f cs) x=.go (G { f with mode:=.returning } cs) x:=fun main cs x=>by
        rw [stepG_run hm]
        simp [stepG.exec,ht,hf.round,G]
       rw [hg]
       exact ⟨_,c :: fs,rfl,⟨hf.defers,hf.kind,hf.round,hf.todo⟩,hfs,⟨w,rfl,Keeps.refl _ _,hfair,#[],fun e he=>by simp at he,fun k base main=>hg main _ w⟩,rfl,Nat.le_refl _,fun τ d _=>⟨#[],by rw [hg]; simp⟩⟩
   | cons it t =>
     have hit:quietItem P F it=true:=hf.todo it (by rw [ht]; exact List.mem_cons_self ..)
     have htl:=quiet_tail hf ht
     cases it with
     | code c=>exact quiet_code hm ht hf hfs hfair hb hH
     | inBlock id=>exact StepR.to hm ht hf hfs hfair (t':=t) htl (fun fr k main cs x h1 h2 h3=>by simp [stepG.exec,h2])
     | inScope c=>exact StepR.to hm ht hf hfs hfair (t':=t) htl (fun fr k main cs x h1 h2 h3=>by simp [stepG.exec,h2])
     | inLoop c=>exact StepR.to hm ht hf hfs hfair (t':=.code c :: .inLoop c :: t) (hcons hit (hcons hit htl)) (fun fr k main cs x h1 h2 h3=>by simp [stepG.exec,h2])
     | inRegion ops l =>
       cases l with
       | nil=>exact StepR.to hm ht hf hfs hfair (t':=t) htl (fun fr k main cs x h1 h2 h3=>by simp [stepG.exec,h2])
       | cons i l=>exact quiet_oper hC hm ht hf hfs hfair hb hH
     | inRangeFunc l=>cases hit
     | endRangeFunc l=>cases hit
     | beginRound=>cases hit
     | call=>cases hit
     | extern=>cases hit
end
inductive GoesW (P:Program) (main:Bool) (R:World→World→Prop) (D:World→World→Array Event→Prop) (Stop:Goroutine→World→Prop):Goroutine→World→Prop
 | stop {g:Goroutine} {w:World} (h:∀ w₁,R w w₁→Stop g w₁):GoesW P main R D Stop g w
 | step {g:Goroutine} {w:World} (hs:g.status=.running) (ng:World→Goroutine) (nw:World→World) (ne:World→Array Event)
   (h:∀ w₁,R w w₁→stepG P main g w₁=.go (ng w₁) (nw w₁) (ne w₁)∧D w₁ (nw w₁) (ne w₁)) (ih:∀ w₁,R w w₁→GoesW P main R D Stop (ng w₁) (nw w₁)):GoesW P main R D Stop g w
section
variable {P:Program} {main:Bool} {R:World→World→Prop} {D:World→World→Array Event→Prop} {Stop:Goroutine→World→Prop}
theorem GoesW.step' {g:Goroutine} {w:World} (hs:g.status=.running) (h:∀ w₁,R w w₁→∃ g' w' es,stepG P main g w₁=.go g' w' es∧D w₁ w' es∧GoesW P main R D Stop g' w'):GoesW P main R D Stop g w:=by
 classical
 refine .step hs (fun w₁=>if h1:R w w₁ then (h w₁ h1).choose else g) (fun w₁=>if h1:R w w₁ then (h w₁ h1).choose_spec.choose else w₁) (fun w₁=>if h1:R w w₁ then (h w₁ h1).choose_spec.choose_spec.choose else #[]) (fun w₁ h1=>?_) (fun w₁ h1=>?_)
 ·simp only [h1,dite_true]
  have:=(h w₁ h1).choose_spec.choose_spec.choose_spec
  exact ⟨this.1,this.2.1⟩
 ·simp only [h1,dite_true]
  exact (h w₁ h1).choose_spec.choose_spec.choose_spec.2.2
theorem GoesW.rely (trans:∀ a b c,R a b→R b c→R a c) {g:Goroutine} {w w₁:World} (h:GoesW P main R D Stop g w) (hr:R w w₁):GoesW P main R D Stop g w₁:=by
 cases h with
 | stop h=>exact .stop fun w₂ h2=>h w₂ (trans _ _ _ hr h2)
 | step hs ng nw ne h ih=>exact .step hs ng nw ne (fun w₂ h2=>h w₂ (trans _ _ _ hr h2)) (fun w₂ h2=>ih w₂ (trans _ _ _ hr h2))
theorem GoesW.bind {Stop':Goroutine→World→Prop} (refl:∀ a,R a a) {g:Goroutine} {w:World} (h:GoesW P main R D Stop g w) (hb:∀ g w,(∀ w₁,R w w₁→Stop g w₁)→GoesW P main R D Stop' g w):GoesW P main R D Stop' g w:=by
 induction h with
 | stop h=>exact hb _ _ h
 | step hs ng nw ne h ih ih'=>exact .step hs ng nw ne h ih'
theorem GoesW.mono {Stop':Goroutine→World→Prop} {g:Goroutine} {w:World} (h:GoesW P main R D Stop g w) (hb:∀ g w,Stop g w→Stop' g w):GoesW P main R D Stop' g w:=by
 induction h with
 | stop h=>exact .stop fun w₁ h1=>hb _ _ (h w₁ h1)
 | step hs ng nw ne h ih ih'=>exact .step hs ng nw ne h ih'
end
def runObj (x:Value) (st sm:Int) (e:TypeId):Obj:=.cells #[x,.int .u64 st,.int .u32 sm] e
structure Aw (W:Nat→Bool) (w w₁:World):Prop where
 tape:w₁.tape=w.tape
 os:w₁.os=w.os
 output:w₁.output=w.output
 size:w₁.heap.size=w.heap.size
 heap:∀ b,W b=false→w₁.heap[b]?=w.heap[b]?
 run:∀ b,W b=true→∀ x st sm e,w.heap[b]?=some (runObj x st sm e)→∃ st' sm',w₁.heap[b]?=some (runObj x st' sm' e)
def RunOk (W:Nat→Bool) (w:World):Prop:=∀ b,W b=true→∃ x st sm e,w.heap[b]?=some (runObj x st sm e)
theorem Aw.refl (W:Nat→Bool) (w:World):Aw W w w:=⟨rfl,rfl,rfl,rfl,fun _ _=>rfl,fun _ _ _ st sm _ h=>⟨st,sm,h⟩⟩
theorem Aw.trans {W:Nat→Bool} (a b c:World) (h:Aw W a b) (k:Aw W b c):Aw W a c :=
 ⟨k.tape.trans h.tape,k.os.trans h.os,k.output.trans h.output,k.size.trans h.size,fun b hb=>(k.heap b hb).trans (h.heap b hb),fun b hb x st sm e he=>by
  obtain ⟨st',sm',h1⟩:=h.run b hb x st sm e he
  exact k.run b hb x st' sm' e h1⟩
theorem Aw.ok {W:Nat→Bool} {w w₁:World} (h:Aw W w w₁) (k:RunOk W w):RunOk W w₁:=fun b hb=>by
 obtain ⟨x,st,sm,e,h1⟩:=k b hb
 obtain ⟨st',sm',h2⟩:=h.run b hb x st sm e h1
 exact ⟨x,st',sm',e,h2⟩
theorem Aw.draw (W:Nat→Bool) (w:World) (d:Nat):Aw W w (w.at d):=⟨rfl,rfl,rfl,rfl,fun _ _=>rfl,fun _ _ _ st sm _ h=>⟨st,sm,h⟩⟩
def HidSame (n:Nat) (o o':Option Obj):Prop:=(∃ c c' e f,o=some (.cells c e f)∧o'=some (.cells c' e f)∧c'.size=c.size∧∀ i,n≤i→c'[i]?=c[i]?)∨o'=o
theorem HidSame.trans {n:Nat} {o o' o'':Option Obj} (h:HidSame n o o') (k:HidSame n o' o''):HidSame n o o'':=by
 rcases h with ⟨c,c',e,f,h1,h2,h3,h4⟩ | h1
 ·rcases k with ⟨c1,c2,e1,f1,k1,k2,k3,k4⟩ | k1
  ·rw [h2] at k1
   simp only [Option.some.injEq,Obj.cells.injEq] at k1
   obtain ⟨rfl,rfl,rfl⟩:=k1
   exact .inl ⟨c,c2,e,f,h1,k2,k3.trans h3,fun i hi=>(k4 i hi).trans (h4 i hi)⟩
  ·exact .inl ⟨c,c',e,f,h1,k1.trans h2,h3,h4⟩
 ·rw [h1] at k; exact k
theorem HidSame.zero {o o':Option Obj} (h:HidSame 0 o o'):o'=o:=by
 rcases h with ⟨c,c',e,f,h1,h2,h3,h4⟩ | h1
 ·rw [h1,h2,Array.ext_getElem? fun i=>h4 i (Nat.zero_le _)]
 ·exact h1
structure Far (H:Nat→Option Nat) (W:Nat→Bool) (w w':World):Prop where
 tape:w'.tape=w.tape
 os:w'.os=w.os
 output:w'.output=w.output
 size:w.heap.size≤w'.heap.size
 hid:∀ b n,H b=some n→W b=false→b < w.heap.size→HidSame n w.heap[b]? w'.heap[b]?
 run:∀ b,W b=true→∀ x st sm e,w.heap[b]?=some (runObj x st sm e)→∃ x' st' sm',w'.heap[b]?=some (runObj x' st' sm' e)
theorem Far.refl (H:Nat→Option Nat) (W:Nat→Bool) (w:World):Far H W w w:=⟨rfl,rfl,rfl,Nat.le_refl _,fun _ _ _ _ _=>.inr rfl,fun _ _ x st sm _ h=>⟨x,st,sm,h⟩⟩
theorem Far.trans {H:Nat→Option Nat} {W:Nat→Bool} {a b c:World} (h:Far H W a b) (k:Far H W b c):Far H W a c :=
 ⟨k.tape.trans h.tape,k.os.trans h.os,k.output.trans h.output,Nat.le_trans h.size k.size,fun b n hb hw hl=>(h.hid b n hb hw hl).trans (k.hid b n hb hw (Nat.lt_of_lt_of_le hl h.size)),fun b hb x st sm e he=>by
  obtain ⟨x',st',sm',h1⟩:=h.run b hb x st sm e he
  exact k.run b hb x' st' sm' e h1⟩
theorem Far.of_aw {H:Nat→Option Nat} {W:Nat→Bool} {w w':World} (h:Aw W w w'):Far H W w w':=⟨h.tape,h.os,h.output,Nat.le_of_eq h.size.symm,fun b _ _ hw _=>.inr (h.heap b hw),fun b hb x st sm e he=>(h.run b hb x st sm e he).elim fun st' y=>⟨x,st',y⟩⟩
theorem Keeps.same {H:Nat→Option Nat} {w w':World} (h:Keeps H w w') {b n:Nat} (hb:H b=some n) (hl:b < w.heap.size):HidSame n w.heap[b]? w'.heap[b]?:=h.kind b n hb hl
theorem Keeps.run {H:Nat→Option Nat} {w w':World} (h:Keeps H w w') {b:Nat} (hb:H b=some 1) {x:Value} {st sm:Int} {e:TypeId} (hx:w.heap[b]?=some (runObj x st sm e)):∃ x',w'.heap[b]?=some (runObj x' st sm e):=by
 rcases h.kind b 1 hb (Array.getElem?_eq_some_iff.1 hx).1 with ⟨c,c',e',f,h1,h2,h3,h4⟩ | h1
 ·rw [hx] at h1
  unfold runObj at h1
  simp only [Option.some.injEq,Obj.cells.injEq] at h1
  obtain ⟨rfl,rfl,rfl⟩:=h1
  have hs:c'.size=3:=h3
  refine ⟨c'[0]'(by omega),?_⟩
  rw [h2]
  unfold runObj
  congr 2
  apply Array.ext_getElem?
  intro i
  match i with
  | 0=>simp
  | 1=>exact h4 1 (Nat.le_refl _)
  | 2=>exact h4 2 (by omega)
  | i+3=>rw [Array.getElem?_eq_none (by omega),Array.getElem?_eq_none (by simp)]
 ·exact ⟨x,by rw [h1]; exact hx⟩
theorem Far.of_keeps {H:Nat→Option Nat} {W:Nat→Bool} {w w':World} (hW:∀ b,W b=true→H b=some 1) (h:Keeps H w w'):Far H W w w' :=
 ⟨h.tape,h.os,h.output,h.size,fun b n hb _ hl=>h.same hb hl,fun b hb x st sm e he=>(h.run (hW b hb) he).elim fun x' y=>⟨x',st,sm,y⟩⟩
theorem vw_none (w:World):vw (fun _=>none) w=w:=by
 unfold vw
 have:w.heap.mapIdx (hideAt fun _=>none)=w.heap:=by
  apply Array.ext_getElem?
  intro i
  simp only [Array.getElem?_mapIdx]
  cases w.heap[i]? <;> rfl
 rw [this]
theorem Aw.view {H:Nat→Option Nat} {W:Nat→Bool} {w w₁:World} (hW:∀ b,W b=true→H b=some 1) (hr:RunOk W w) (h:Aw W w w₁) (τ:Nat→Question→Nat) (d:Nat):rt (vw H w₁) τ d=rt (vw H w) τ d:=by
 have e:w₁.heap.mapIdx (hideAt H)=w.heap.mapIdx (hideAt H):=by
  apply Array.ext_getElem?
  intro i
  simp only [Array.getElem?_mapIdx]
  cases hw:W i with
  | false=>rw [h.heap i hw]
  | true =>
    obtain ⟨x,st,sm,e,h1⟩:=hr i hw
    obtain ⟨st',sm',h2⟩:=h.run i hw x st sm e h1
    rw [h1,h2]
    simp [hideAt,hW i hw,hideObj,runObj]
 unfold rt vw
 rw [h.os,h.output]
 simp only [e]
structure Fit (H:Nat→Option Nat) (W:Nat→Bool) (w:World):Prop where
 fair:Fair (vw H w)
 bound:Bounded H w
 hides:Hides H w
 ok:RunOk W w
 sub:∀ b,W b=true→H b=some 1
theorem Fit.aw {H:Nat→Option Nat} {W:Nat→Bool} {w w₁:World} (h:Fit H W w) (k:Aw W w w₁):Fit H W w₁:=by
 have hv:(vw H w₁).heap=(vw H w).heap:=by
  have:=k.view (H:=H) h.sub h.ok w.tape 0
  have e:=congrArg (fun x:World=>x.heap) this
  simpa only [rt_heap] using e
 refine ⟨fun b o ho=>h.fair b o (by rw [← hv]; exact ho),fun b hb=>h.bound b (by rw [← k.size]; exact hb),fun b n o hD ho=>?_,k.ok h.ok,h.sub⟩
 cases hw:W b with
 | false=>rw [k.heap b hw] at ho; exact h.hides b n o hD ho
 | true =>
   obtain ⟨x,st,sm,e,h1⟩:=k.ok h.ok b hw
   rw [h1] at ho
   cases ho
   exact .inl ⟨_,_,_,rfl⟩
theorem Fit.keeps {H:Nat→Option Nat} {W:Nat→Bool} {w w':World} (h:Fit H W w) (k:Keeps H w w') (hf:Fair (vw H w')):Fit H W w' :=
 ⟨hf,fun b hb=>h.bound b (Nat.le_trans k.size hb),k.hides h.bound h.hides,fun b hb=>by
  obtain ⟨x,st,sm,e,h1⟩:=h.ok b hb
  obtain ⟨x',h2⟩:=k.run (h.sub b hb) h1
  exact ⟨x',st,sm,e,h2⟩,h.sub⟩
def lg (g:Goroutine) (w:World):Machine:={ world:=w,gs:=#[g],rest:={ timers:=#[],alone:=none,slice:=none } }
theorem lg_inj {g g':Goroutine} {w w':World} (h:lg g w=lg g' w'):g=g'∧w=w':=by
 unfold lg at h
 injection h with h1 h2
 exact ⟨by simpa using h2,h1⟩
theorem step_lg_go {P:Program} {fr fr':Frame} {cs cs':List Frame} {w w':World} {es:Array Event} (h:stepG P true (G fr cs) w=.go (G fr' cs') w' es):step P (lg (G fr cs) w)=.next (lg (G fr' cs') w') :=
 step_lone_go (by have : stepG P true { frame := fr, callers := cs, status := .running, dying := none } w = .go (G fr' cs') w' es := h
                  rw [this]; rfl)
theorem step_lg_ended {P:Program} {fr:Frame} {cs:List Frame} {w w':World} {o:Outcome} {es:Array Event} (h:stepG P true (G fr cs) w=.ended o w' es):step P (lg (G fr cs) w)=.ended o w' :=
 step_lone_ended (by have : stepG P true { frame := fr, callers := cs, status := .running, dying := none } w = .ended o w' es := h
                     rw [this]; rfl)
theorem runN_plus {P:Program}:∀ (n m:Nat) (a b:Machine),runN P n a=.next b→runN P (n+m) a=runN P m b
 | 0,m,a,b,h=>by simp only [runN,Stepped.next.injEq] at h; rw [h,Nat.zero_add]
 | n+1,m,a,b,h=>by
   rw [show n+1+m=(n+m)+1 by omega]
   simp only [runN] at h ⊢
   cases hs:step P a with
   | next m'=>rw [hs] at h; simp only at h ⊢; exact runN_plus n m m' b h
   | ended o w=>rw [hs] at h; cases h
theorem runN_snoc {P:Program} {n:Nat} {a b c:Machine} (h:runN P n a=.next b) (h':step P b=.next c):runN P (n+1) a=.next c:=by
 rw [runN_plus n 1 a b h]; simp [runN,h']
def Ext (σ:List (Question→Nat)) (τ:Nat→Question→Nat):Prop:=∀ i (h:i < σ.length),τ i=σ[i]
theorem Ext.prefix {σ σ':List (Question→Nat)} {τ:Nat→Question→Nat} (h:Ext σ' τ) (hp:σ <+: σ'):Ext σ τ:=fun i hi=>by
 obtain ⟨t,rfl⟩:=hp
 rw [h i (by simp; omega),List.getElem_append_left hi]
theorem Ext.self (σ:List (Question→Nat)):∃ τ,Ext σ τ:=⟨fun i=>if h:i < σ.length then σ[i] else fun _=>0,fun i h=>by simp [h]⟩
def Led (P:Program) (g0:List Frame→Goroutine) (v0:World) (cs:List Frame) (σ:List (Question→Nat)) (n:Nat) (f:Frame) (fs:List Frame) (v:World):Prop :=
 ∀ τ,Ext σ τ→runN P n (lg (g0 cs) (rt v0 τ 0))=.next (lg (Gx [] cs f fs) (rt v τ σ.length))
def catcher (P:Program):Frame:={ fn:=P.funcs.size,tmps:=#[],todo:=[.call default false "fmt's door" #[]],defers:=[],mode:=.run,kind:=.normal }
theorem extFs_nil_append (base:List Frame):∀ fs:List Frame,extFs [] base fs=fs ++ base
 | []=>rfl
 | [b]=>by simp [extFs,extFr]
 | f :: g :: fs=>by simp only [extFs]; rw [extFs_nil_append base (g :: fs)]; rfl
theorem Gx_nil (base:List Frame) (f:Frame) (fs:List Frame):Gx [] base f fs=G f (fs ++ base):=by
 cases fs with
 | nil=>simp [Gx,extFr]
 | cons g fs=>simp only [Gx]; rw [extFs_nil_append]
section
variable {P:Program} {F:FuncId→Bool}
theorem quiet_base (hC:Closed P F) {f f':Frame} {fs fs':List Frame} {x x':World} {es:Array Event} (hf:QF P F f) (hfs:∀ c ∈ fs,QC P F c) (hgo:fs=[]→f.mode=.run∧f.todo≠[]) (hfair:Fair x)
  (h:stepG P true (G f fs) x=.go (G f' fs') x' es) (base:List Frame):∃ es',stepG P true (Gx [] base f fs) x=.go (Gx [] base f' fs') x' es':=by
 have:=quiet_step (D:=fun _=>none) (w:=x) hC hf hfs hgo (by rw [vw_none]; exact hfair) (fun _ _=>rfl) (fun b n o hD _=>by cases hD)
 rw [vw_none,h] at this
 obtain ⟨f1,fs1,e1,_,_,⟨w',e2,_,_,es',_,h3⟩,_⟩:=this
 have e3:f'=f1∧fs'=fs1:=by
  unfold G at e1
  injection e1 with a b
  exact ⟨a,b⟩
 obtain ⟨rfl,rfl⟩:=e3
 rw [vw_none] at e2
 subst e2
 exact ⟨es',h3 [] base true⟩
def NE (f:Frame) (fs:List Frame):Prop:=fs=[]→f.mode=.run∧f.todo≠[]
def catchRet (P:Program) (l:Nat):Frame:={ fn:=P.funcs.size,tmps:=#[],todo:=[.beginRound,.inRangeFunc l],defers:=[],mode:=.run,kind:=.normal }
theorem stuck_end {f:Frame} {x:World} {l:Nat} (hd:f.defers=[]) (hk:f.kind=.normal) (hm:f.mode=.returning):∀ n t y,t.mode=.run→runN P n (lg (G f [catchRet P l]) x)≠.next (lg (G t [catchRet P l]) y):=by
 have h1:(∃ o y,step P (lg (G f [catchRet P l]) x)=.ended o y)∨∃ v y,step P (lg (G f [catchRet P l]) x)=.next (lg (G ((catchRet P l).finish v) []) y):=by
  have hs:(∃ o y es,stepG P true (G f [catchRet P l]) x=.ended o y es)∨∃ v y es,stepG P true (G f [catchRet P l]) x=.go (G ((catchRet P l).finish v) []) y es:=by
   rw [stepG_unwind (by rw [hm]; simp)]
   unfold unwind
   simp only [hd,hm]
   cases hf:P.funcs[f.fn]? with
   | none=>right; simp only; rw [doReturn_go _ _ _ _ _ _ hk]; exact ⟨_,_,_,rfl⟩
   | some fn =>
     simp only
     generalize (results fn f.tmps).runT P x #[]=q
     obtain ⟨r,es⟩:=q
     cases r with
     | ok v y=>right; simp only; rw [doReturn_go _ _ _ _ _ _ hk]; exact ⟨_,_,_,rfl⟩
     | halt y z=>left; cases y <;> exact ⟨_,_,_,rfl⟩
  rcases hs with ⟨o,y,es,h⟩ | ⟨v,y,es,h⟩
  ·exact .inl ⟨o,y,step_lg_ended h⟩
  ·exact .inr ⟨v,y,step_lg_go h⟩
 have h2:∀ v y,∃ o z,step P (lg (G ((catchRet P l).finish v) []) y)=.ended o z:=fun v y=>by
  have hs:∃ o z es,stepG P true (G ((catchRet P l).finish v) []) y=.ended o z es:=by
   rw [stepG_run rfl]
   exact ⟨_,_,_,rfl⟩
  obtain ⟨o,z,es,h⟩:=hs
  exact ⟨o,z,step_lg_ended h⟩
 intro n t y ht h
 match n with
 | 0 =>
   simp only [runN,Stepped.next.injEq] at h
   have:=(lg_inj h).1
   unfold G at this
   injection this with a
   rw [a,ht] at hm
   cases hm
 | 1 =>
   rcases h1 with ⟨o,z,h1⟩ | ⟨v,z,h1⟩
   ·simp [runN,h1] at h
   ·simp only [runN,h1,Stepped.next.injEq] at h
    have:=(lg_inj h).1
    unfold G at this
    injection this with _ a
    cases a
 | n+2 =>
   rcases h1 with ⟨o,z,h1⟩ | ⟨v,z,h1⟩
   ·simp [runN,h1] at h
   ·obtain ⟨o,z',h2⟩:=h2 v z
    simp [runN,h1,h2] at h
theorem step_run_end {f:Frame} {x:World} (hm:f.mode=.run) (ht:f.todo=[]) (hr:f.roundOf=none) (cs:List Frame):step P (lg (G f cs) x)=.next (lg (G { f with mode:=.returning } cs) x):=by
 refine step_lg_go (es:=#[]) ?_
 rw [stepG_run hm]
 simp [stepG.exec,ht,hr,G]
theorem left_ret {f t:Frame} {x y:World} {n:Nat} {l:Nat} (hf:QF P F f) (hm:f.mode=.returning∨(f.mode=.run∧f.todo=[])) (ht:t.mode=.run)
  (h:runN P n (lg (G f [catchRet P l]) x)=.next (lg (G t [catchRet P l]) y)):n=0:=by
 rcases hm with hm | ⟨hm,ht'⟩
 ·exact absurd h (stuck_end hf.defers hf.kind hm n t y ht)
 ·cases n with
  | zero=>rfl
  | succ n =>
    simp only [runN,step_run_end hm ht' hf.round] at h
    exact absurd h (stuck_end (f:={ f with mode:=.returning }) hf.defers hf.kind rfl n t y ht)
theorem catcher_catches (P:Program) (l:List PanicEntry):((catcher P).raise l).catches P=true:=by
 unfold Frame.catches catcher Frame.raise
 simp
theorem left_panic {f t:Frame} {x y:World} {n:Nat} {l:List PanicEntry} (hf:QF P F f) (hm:f.mode=.panicking l) (ht:t.mode=.run) (h:runN P n (lg (G f [catcher P]) x)=.next (lg (G t [catcher P]) y)):False:=by
 have h1:step P (lg (G f [catcher P]) x)=.next (lg (G ((catcher P).raise l) []) x):=by
  refine step_lg_go (es:=#[]) ?_
  rw [stepG_unwind (by rw [hm]; simp)]
  unfold unwind
  simp only [hf.defers,hm,catches_not hf]
  rfl
 have h2:∃ o z,step P (lg (G ((catcher P).raise l) []) x)=.ended o z:=by
  have hs:∃ o z es,stepG P true (G ((catcher P).raise l) []) x=.ended o z es:=by
   rw [stepG_unwind (by simp [catcher,Frame.raise])]
   unfold unwind
   have e1:((catcher P).raise l).defers=[]:=rfl
   have e2:((catcher P).raise l).mode=.panicking l:=rfl
   simp only [e1,e2,catcher_catches,if_true]
   exact ⟨_,_,_,rfl⟩
  obtain ⟨o,z,es,hs⟩:=hs
  exact ⟨o,z,step_lg_ended hs⟩
 obtain ⟨o,z,h2⟩:=h2
 match n with
 | 0 =>
   simp only [runN,Stepped.next.injEq] at h
   have:=(lg_inj h).1
   unfold G at this
   injection this with a
   rw [a,ht] at hm
   cases hm
 | 1 =>
   simp only [runN,h1,Stepped.next.injEq] at h
   have:=(lg_inj h).1
   unfold G at this
   injection this with _ a
   cases a
 | n+2=>simp [runN,h1,h2] at h
end
structure CS where
 σ:List (Question→Nat)
 n:Nat
 f:Frame
 fs:List Frame
 w:World
section
variable {P:Program} {F:FuncId→Bool} {H:Nat→Option Nat} {W:Nat→Bool}
def Lets (H:Nat→Option Nat) (W:Nat→Bool) (D:World→World→Array Event→Prop):Prop:=∀ w w' es,Fit H W w→Fit H W w'→Keeps H w w'→(∀ e ∈ es,EvN H w'.heap.size e)→D w w' es
structure Bad (P:Program) (F:FuncId→Bool) (H:Nat→Option Nat) (W:Nat→Bool) (main:Bool) (D:World→World→Array Event→Prop) (Stop:Goroutine→World→Prop) (k:List Item) (base:List Frame) (g0:List Frame→Goroutine) (w0:World) (s:CS):Prop where
 led:∀ cs,Led P g0 (vw H w0) cs s.σ s.n s.f s.fs (vw H s.w)
 pre:∀ cs τ,Ext s.σ τ→∀ i,i≤s.n→∃ f fs x,runN P i (lg (g0 cs) (rt (vw H w0) τ 0))=.next (lg (G f (fs ++ cs)) x)∧NE f fs
 qf:QF P F s.f
 qc:∀ c ∈ s.fs,QC P F c
 fit:Fit H W s.w
 far:Far H W w0 s.w
 bad:¬ GoesW P main (Aw W) D Stop (Gx k base s.f s.fs) s.w
def drew (v v':World):List (Question→Nat):=(List.range (v'.drawn - v.drawn)).map fun i=>v.tape (v.drawn+i)
theorem agree_ext {v v':World} {σ:List (Question→Nat)} {τ:Nat→Question→Nat} (h:Ext (σ ++ drew v v') τ):Agree v v' τ σ.length:=fun i hi=>by
 have hl:σ.length+i < (σ ++ drew v v').length:=by simp [drew]; omega
 rw [h _ hl,List.getElem_append_right (by omega)]
 simp [drew]
theorem Gx_status (k:List Item) (base:List Frame) (f:Frame) (fs:List Frame):(Gx k base f fs).status=.running:=by cases fs <;> rfl
theorem lg_frames {f t:Frame} {fs cs:List Frame} {x y:World} (h:lg (G f (fs ++ cs)) x=lg (G t cs) y):f=t∧fs=[]∧x=y:=by
 obtain ⟨h1,h2⟩:=lg_inj h
 unfold G at h1
 injection h1 with a b
 refine ⟨a,?_,h2⟩
 have:=congrArg List.length b
 simp at this
 exact this
theorem Bad.next (hC:Closed P F) {main:Bool} {D:World→World→Array Event→Prop} {Stop:Goroutine→World→Prop} {k:List Item} {base:List Frame} {g0:List Frame→Goroutine} {w0:World} (hD:Lets H W D)
  {tgt:Frame→World→Prop}
  (hrun:∀ τ cs,∃ n t x,runN P n (lg (g0 cs) (rt (vw H w0) τ 0))=.next (lg (G t cs) x)∧t.mode=.run∧t.todo=[]∧tgt t x)
  (hstop:∀ t w' τ d,tgt t (rt (vw H w') τ d)→Far H W w0 w'→Fit H W w'→Stop (G (extFr k t) base) w')
  {s:CS} (h:Bad P F H W main D Stop k base g0 w0 s):∃ s',Bad P F H W main D Stop k base g0 w0 s'∧s.σ <+: s'.σ∧s'.n=s.n+1:=by
 obtain ⟨σ,n,f,fs,w⟩:=s
 obtain ⟨led,pre,qf,qc,fit,far,bad⟩:=h
 simp only at led pre qf qc fit far bad ⊢
 have ne:NE f fs:=by
  obtain ⟨τ,hτ⟩:=Ext.self σ
  obtain ⟨f1,fs1,x1,e1,h1⟩:=pre [] τ hτ n (Nat.le_refl _)
  have e2:=led [] τ hτ
  rw [Gx_nil,e1] at e2
  simp only [List.append_nil,Stepped.next.injEq] at e2
  have:=(lg_inj e2).1
  unfold G at this
  injection this with a b
  subst a b
  exact h1
 obtain ⟨w₁,h1,hb⟩:∃ w₁,Aw W w w₁∧¬ ∃ g' w' es,stepG P main (Gx k base f fs) w₁=.go g' w' es∧D w₁ w' es∧GoesW P main (Aw W) D Stop g' w':=by
  refine Classical.byContradiction fun hn=>bad (.step' (Gx_status ..) fun w₁ h1=>?_)
  exact Classical.byContradiction fun hx=>hn ⟨w₁,h1,hx⟩
 have fit1:=fit.aw h1
 have hview:∀ τ d,rt (vw H w₁) τ d=rt (vw H w) τ d:=fun τ d=>h1.view fit.sub fit.ok τ d
 have hq:=quiet_step (D:=H) (w:=w₁) hC qf qc ne fit1.fair fit1.bound fit1.hides
 have late:∀ τ cs,Ext σ τ→∃ m t x,runN P (n+1+m) (lg (g0 cs) (rt (vw H w0) τ 0))=.next (lg (G t cs) x)∧t.mode=.run∧t.todo=[]∧tgt t x:=fun τ cs hτ=>by
  obtain ⟨N,t,x,hN,hm1,hm2,hQ⟩:=hrun τ cs
  rcases Nat.lt_or_ge n N with hlt | hge
  ·exact ⟨N - (n+1),t,x,by rw [show n+1+(N - (n+1))=N by omega]; exact hN,hm1,hm2,hQ⟩
  ·exfalso
   obtain ⟨f1,fs1,x1,e1,hne⟩:=pre cs τ hτ N hge
   rw [hN] at e1
   simp only [Stepped.next.injEq] at e1
   obtain ⟨rfl,rfl,_⟩:=lg_frames e1.symm
   exact (hne rfl).2 hm2
 cases hs:stepG P true (G f fs) (vw H w₁) with
 | go g' v' esv =>
   rw [hs] at hq
   obtain ⟨f',fs',rfl,qf',qc',⟨w',rfl,hK,hF',es',hev,hst⟩,ht1,ht2,ht3⟩:=hq
   have fit':=fit1.keeps hK hF'
   have far':Far H W w0 w':=far.trans ((Far.of_aw h1).trans (Far.of_keeps fit1.sub hK))
   have led':∀ cs,Led P g0 (vw H w0) cs (σ ++ drew (vw H w₁) (vw H w')) (n+1) f' fs' (vw H w'):=fun cs τ hτ=>by
    have e1:=led cs τ (hτ.prefix ⟨_,rfl⟩)
    obtain ⟨es2,e2⟩:=ht3 τ σ.length (agree_ext hτ)
    have hfx:Fair (rt (vw H w₁) τ σ.length):=fun b o ho=>fit1.fair b o ho
    obtain ⟨es3,e3⟩:=quiet_base hC qf qc ne hfx e2 cs
    rw [hview] at e3
    refine runN_snoc e1 ?_
    have e4:(σ ++ drew (vw H w₁) (vw H w')).length=σ.length+((vw H w').drawn - w₁.drawn):=by simp [drew]
    rw [e4]
    rw [Gx_nil,Gx_nil] at e3 ⊢
    exact step_lg_go e3
   have hn:¬ GoesW P main (Aw W) D Stop (Gx k base f' fs') w':=fun hg=>hb ⟨_,_,_,hst k base main,hD _ _ _ fit1 fit' hK hev,hg⟩
   by_cases hne:NE f' fs'
   ·refine ⟨⟨_,n+1,f',fs',w'⟩,⟨led',fun cs τ hτ i hi=>?_,qf',qc',fit',far',hn⟩,⟨_,rfl⟩,rfl⟩
    rcases Nat.lt_or_ge n i with hlt | hge
    ·obtain rfl:i=n+1:=by simp only at hi; omega
     have:=led' cs τ hτ
     rw [Gx_nil] at this
     exact ⟨f',fs',_,this,hne⟩
    ·exact pre cs τ (hτ.prefix ⟨_,rfl⟩) i hge
   ·exfalso
    obtain ⟨rfl,hm⟩:fs'=[]∧¬ (f'.mode=.run∧f'.todo≠[]):=by
     unfold NE at hne
     by_cases e:fs'=[]
     ·exact ⟨e,fun hx=>hne fun _=>hx⟩
     ·exact absurd (fun he=>absurd he e) hne
    obtain ⟨τ,hτ⟩:=Ext.self (σ ++ drew (vw H w₁) (vw H w'))
    have key:∀ cs,∃ m t x,runN P m (lg (G f' cs) (rt (vw H w') τ (σ ++ drew (vw H w₁) (vw H w')).length))=.next (lg (G t cs) x)∧t.mode=.run∧t.todo=[]∧tgt t x:=by
     intro cs
     obtain ⟨m,t,x,hN,hm1,hm2,hQ⟩:=late τ cs (hτ.prefix ⟨_,rfl⟩)
     have eN:=led' cs τ hτ
     rw [Gx_nil] at eN
     rw [runN_plus _ m _ _ eN] at hN
     exact ⟨m,t,x,hN,hm1,hm2,hQ⟩
    cases hmode:f'.mode with
    | panicking l =>
      obtain ⟨m,t,x,hN,hm1,_,_⟩:=key [catcher P]
      exact left_panic qf' hmode hm1 hN
    | returning =>
      obtain ⟨m,t,x,hN,hm1,_,_⟩:=key [catchRet P 0]
      exact stuck_end qf'.defers qf'.kind hmode m t x hm1 hN
    | run =>
      have htd:f'.todo=[]:=Classical.byContradiction fun hx=>hm ⟨hmode,hx⟩
      obtain ⟨m,t,x,hN,hm1,hm2,hQ⟩:=key [catchRet P 0]
      obtain rfl:=left_ret qf' (.inr ⟨hmode,htd⟩) hm1 hN
      simp only [runN,Stepped.next.injEq] at hN
      obtain ⟨e1,e2⟩:=lg_inj hN
      unfold G at e1
      injection e1 with e1
      subst e1 e2
      refine hn (.stop fun w₂ h2=>?_)
      exact hstop f' w₂ τ _ (by rw [h2.view fit'.sub fit'.ok]; exact hQ) (far'.trans (Far.of_aw h2)) (fit'.aw h2)
 | ended o x es =>
   exfalso
   rw [hs] at hq
   obtain ⟨v',_,hq⟩:=hq
   obtain ⟨τ,hτ⟩:=Ext.self (σ ++ drew (vw H w₁) v')
   obtain ⟨o',x',es',he⟩:=hq τ σ.length (agree_ext hτ)
   have hτ':Ext σ τ:=hτ.prefix ⟨_,rfl⟩
   obtain ⟨m,t,y,hN,_⟩:=late τ [] hτ'
   have e1:=led [] τ hτ'
   rw [Gx_nil,List.append_nil,← hview] at e1
   have hst:=step_lg_ended he
   rw [Nat.add_assoc,runN_plus _ _ _ _ e1,Nat.add_comm 1 m] at hN
   simp [runN,hst] at hN
 | _=>rw [hs] at hq; exact hq.elim
end
section
variable {P:Program} {F:FuncId→Bool} {H:Nat→Option Nat} {W:Nat→Bool}
theorem prefix_chain {s:Nat→CS} (h:∀ i,(s i).σ <+: (s (i+1)).σ):∀ i j,i≤j→(s i).σ <+: (s j).σ:=by
 intro i j hij
 induction hij with
 | refl=>exact List.prefix_refl _
 | step _ ih=>exact ih.trans (h _)
theorem glue {s:Nat→CS} (h:∀ i,(s i).σ <+: (s (i+1)).σ):∃ τ,∀ i,Ext (s i).σ τ:=by
 classical
 refine ⟨fun p=>if hp:∃ i,p < (s i).σ.length then (s hp.choose).σ[p]'hp.choose_spec else fun _=>0,fun i p hp=>?_⟩
 have hx:∃ i,p < (s i).σ.length:=⟨i,hp⟩
 simp only [hx,dite_true]
 have key:∀ a b (ha:p < (s a).σ.length) (hb:p < (s b).σ.length),a≤b→(s a).σ[p]=(s b).σ[p]:=fun a b ha hb hab=>(prefix_chain h a b hab).getElem ha
 rcases Nat.le_total hx.choose i with hle | hle
 ·exact key _ _ hx.choose_spec hp hle
 ·exact (key _ _ hp hx.choose_spec hle).symm
theorem Bad.absurd (hC:Closed P F) {main:Bool} {D:World→World→Array Event→Prop} {Stop:Goroutine→World→Prop} {k:List Item} {base:List Frame} {g0:List Frame→Goroutine} {w0:World} (hD:Lets H W D)
  {tgt:Frame→World→Prop}
  (hrun:∀ τ cs,∃ n t x,runN P n (lg (g0 cs) (rt (vw H w0) τ 0))=.next (lg (G t cs) x)∧t.mode=.run∧t.todo=[]∧tgt t x)
  (hstop:∀ t w' τ d,tgt t (rt (vw H w') τ d)→Far H W w0 w'→Fit H W w'→Stop (G (extFr k t) base) w')
  {s0:CS} (h:Bad P F H W main D Stop k base g0 w0 s0) (hn0:s0.n=0):False:=by
 classical
 let nx:{s:CS // Bad P F H W main D Stop k base g0 w0 s}→{s:CS // Bad P F H W main D Stop k base g0 w0 s}:=fun s=>⟨(Bad.next hC hD hrun hstop s.2).choose,(Bad.next hC hD hrun hstop s.2).choose_spec.1⟩
 let sq:Nat→{s:CS // Bad P F H W main D Stop k base g0 w0 s}:=fun i=>Nat.rec ⟨s0,h⟩ (fun _ s=>nx s) i
 have hs:∀ i,sq (i+1)=nx (sq i):=fun i=>rfl
 have hp:∀ i,(sq i).1.σ <+: (sq (i+1)).1.σ:=fun i=>by rw [hs]; exact (Bad.next hC hD hrun hstop (sq i).2).choose_spec.2.1
 have hn:∀ i,(sq i).1.n=i:=by
  intro i
  induction i with
  | zero=>exact hn0
  | succ i ih=>rw [hs]; exact ((Bad.next hC hD hrun hstop (sq i).2).choose_spec.2.2).trans (by rw [ih])
 obtain ⟨τ,hτ⟩:=glue (s:=fun i=>(sq i).1) hp
 obtain ⟨N,t,x,hN,hm1,hm2,_⟩:=hrun τ []
 obtain ⟨f1,fs1,x1,e1,hne⟩:=(sq N).2.pre [] τ (hτ N) N (by rw [hn]; exact Nat.le_refl _)
 rw [hN] at e1
 simp only [Stepped.next.injEq] at e1
 obtain ⟨rfl,rfl,_⟩:=lg_frames e1.symm
 exact (hne rfl).2 hm2
theorem bridge (hC:Closed P F) {main:Bool} {D:World→World→Array Event→Prop} (hD:Lets H W D) {c:Code} (hq:quietCode P F c=true) {b:Frame} {a:Act} {k:List Item} {cs:List Frame} {w:World} (hk:b.kind=.normal) (ha:a.defers=[])
  (hfit:Fit H W w) {Q:Act→World→Prop}
  (hwp:∀ τ,c.wp P (fun e a' x'=>e=.normal∧a'.defers=[]∧∀ w' τ' d,x'=rt (vw H w') τ' d→Far H W w w'→Fit H W w'→Q a' w') a (rt (vw H w) τ 0)) :
  GoesW P main (Aw W) D (fun g w'=>∃ a',a'.defers=[]∧g=G (b.at a' k) cs∧Far H W w w'∧Fit H W w'∧Q a' w') (G (b.at a (.code c :: k)) cs) w:=by
 refine Classical.byContradiction fun hbad=>?_
 let g0:List Frame→Goroutine:=fun cs=>G (b.at a [.code c]) cs
 have hx:∀ cs,Gx k cs (b.at a [.code c]) []=G (b.at a (.code c :: k)) cs:=fun cs=>by simp [Gx,extFr,Frame.at]
 have hstart:Bad P F H W main D (fun g w'=>∃ a',a'.defers=[]∧g=G (b.at a' k) cs∧Far H W w w'∧Fit H W w'∧Q a' w') k cs g0 w ⟨[],0,b.at a [.code c],[],w⟩:=by
  refine ⟨fun cs τ _=>by rw [Gx_nil]; rfl,fun cs τ _ i hi=>?_,⟨ha,hk,rfl,fun it hi=>?_⟩,fun c hc=>(nomatch hc),hfit,Far.refl _ _ _,(by rw [hx]; exact hbad)⟩
  ·obtain rfl:i=0:=by simpa using hi
   exact ⟨b.at a [.code c],[],_,rfl,fun _=>⟨rfl,by simp [Frame.at]⟩⟩
  ·simp only [Frame.at,List.mem_singleton] at hi
   subst hi
   exact hq
 refine Bad.absurd hC hD (tgt:=fun t x'=>∃ a',t=b.at a' []∧a'.defers=[]∧∀ w' τ' d,x'=rt (vw H w') τ' d→Far H W w w'→Fit H W w'→Q a' w') (fun τ cs=>?_) (fun t w' τ d ht hf hf'=>?_) hstart rfl
 ·obtain ⟨e,a',w',⟨rfl,hd',hQ⟩,hs⟩:=hwp τ b [] cs
  obtain ⟨n,hn⟩:=hs
  exact ⟨n,b.at a' [],w',hn,rfl,rfl,a',rfl,hd',hQ⟩
 ·obtain ⟨a',rfl,hd',hQ⟩:=ht
  refine ⟨a',hd',by simp [extFr,Frame.at],hf,hf',hQ w' τ d rfl hf hf'⟩
end
end Go.Proofs.Ytimlbbleblijnaa.Co
