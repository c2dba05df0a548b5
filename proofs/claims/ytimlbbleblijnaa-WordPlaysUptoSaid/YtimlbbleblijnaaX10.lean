/- Lemmas for the laws of this seat, laid together of PGai, PGaj, PGak, PGal, PGam, PGan. -/
import Derived.Test.YtimlbbleblijnaaX08
import Derived.Test.YtimlbbleblijnaaX09
import Derived.WalkKit

open Go.ConcR.Gen (base_kind baseD_kind)
set_option linter.unusedVariables false
set_option linter.unusedSimpArgs false
set_option maxRecDepth 100000
set_option maxHeartbeats 4000000
namespace Go.Proofs.Ytimlbbleblijnaa.Co
open Go Go.Conc
def gateObj (rb ct cs:Nat) (en fr:Bool) (s p q:Int) (e:TypeId):Obj:=.cells #[.pointer (some ⟨rb,0,none⟩),.chan (some ct),.chan (some cs),.bool en,.bool fr,.int .i64 s,.int .i64 p,.int .i64 q] e
theorem obj_cell {w:World} {b:Nat} {c:Array Value} {e:TypeId} {f:Nat × Nat} (h:w.heap[b]?=some (.cells c e f)) {o:Nat} {v:Value} (hv:c[o]?=some v):w.cell? ⟨b,o,none⟩=some v:=by simp [World.cell?,h,hv]
theorem obj_thaw {w:World} {b:Nat} {c:Array Value} {e:TypeId} (h:w.heap[b]?=some (.cells c e)) (o:Nat):w.frozen? ⟨b,o,none⟩=false:=by simp [World.frozen?,h]
theorem ev_eql_gate (p:Option Addr) (w:World) (es:Array Event):(binOp .eql 49 (.pointer p) (.pointer none)).events Try.prog w es=es:=by
 cases p <;> kernel_rfl
def evSt (P:Program) (a:Addr) (v:Value) (w:World) (es:Array Event):Array Event:=match w.cell? a with
 | some _=>if w.frozen? a then es else es.push ⟨.cell a,true,false⟩
 | none=>match w.farStore P a v false with
   | .ok (_,touched)=>es ++ touched.toArray.map (⟨.cell ·,true,false⟩)
   | .error _=>es
theorem evSt_at {P:Program} {a:Addr} {v x:Value} {w:World} {es:Array Event} (hc:w.cell? a=some x) (hz:w.frozen? a=false):evSt P a v w es=es.push ⟨.cell a,true,false⟩:=by simp [evSt,hc,hz]
theorem ev_st_int {P:Program} (a:Addr) (k:IntKind) (x:Int) (w:World) (es:Array Event):(store a (.int k x) .plain).events P w es=evSt P a (.int k x) w es:=events_store P w es a _ _ rfl
theorem ev_st_bool {P:Program} (a:Addr) (x:Bool) (w:World) (es:Array Event):(store a (.bool x) .plain).events P w es=evSt P a (.bool x) w es:=events_store P w es a _ _ rfl
theorem ev_st_ptr {P:Program} (a:Addr) (x:Option Addr) (w:World) (es:Array Event):(store a (.pointer x) .plain).events P w es=evSt P a (.pointer x) w es:=events_store P w es a _ _ rfl
theorem ev_st_slice {P:Program} (a:Addr) (x:Option Addr) (l c:Nat) (w:World) (es:Array Event):(store a (.slice x l c) .plain).events P w es=evSt P a (.slice x l c) w es:=events_store P w es a _ _ rfl
def SitsN (P:Program) (main:Bool) (S:Addr→Option Value) (Stop:Goroutine→World→Prop) (w:World) (n:Nat) (g:Goroutine):Prop:=Goes P main (fun _ w₁=>KS S w₁) (fun w w' es=>w'=w∧∀ e ∈ es,EvS S e) (fun g _=>Stop g w) n g w
theorem idl_sitsN (P:Program) (main:Bool) (S:Addr→Option Value) (Stop:Goroutine→World→Prop) (w:World):Idl P main (SitsN P main S Stop w):=⟨(idl_sits P main S Stop w).step⟩
theorem SitsN.ld {P:Program} {main:Bool} {S:Addr→Option Value} {Stop:Goroutine→World→Prop} {w:World} {n:Nat} {fr:Frame} {a:Act} {k:List Item} {cs:List Frame} {ops:Array Oper} {i:Nat} {rest:List Nat} {o:Oper} {ad:Addr} {v:Value} (hS:S ad=some v) (ho:ops[i]?=some o) (hw:Region.wanted o (yielded ops a.tmps)=true) (hk:fr.kind≠.early)
  (hr:∀ w₁,w₁.cell? ad=some v→(execOp a.eval o).run P w₁=.ok (.value v) w₁∧∀ e ∈ (execOp a.eval o).events P w₁ #[],e=⟨.cell ad,false,false⟩) (hg:SitsN P main S Stop w n (G (fr.at (a.put o.dst v) (.inRegion ops rest :: k)) cs)) :
  SitsN P main S Stop w (n+1) (G (fr.at a (.inRegion ops (i :: rest) :: k)) cs) :=
 Goes.step rfl fun w₁ h₁=>by
  obtain ⟨e1,e2⟩:=hr w₁ (h₁ ad v hS)
  rw [stepG_value ho hw hk e1]
  refine ⟨⟨rfl,fun e he=>⟨ad,e2 e (mem_listed he),by rw [hS]; rfl⟩⟩,?_⟩
  cases n with
  | zero=>exact hg
  | succ n=>exact hg
theorem stepG_recv106 {main:Bool} {b:Frame} {a:Act} {k:List Item} {cs:List Frame} {w:World} {ops:Array Oper} {i:Nat} {rest:List Nat} {o:Oper} {x:Operand} {c:Nat} (ho:ops[i]?=some o) (hw:Region.wanted o (yielded ops a.tmps)=true) (hk:b.kind≠.early) (hop:o.op=.recv 106 x false) (hx:a.eval x=.chan (some c)) :
  stepG Try.prog main (G (b.at a (.inRegion ops (i :: rest) :: k)) cs) w=.comm (G (b.at a (.inRegion ops (i :: rest) :: k)) cs) #[rcase c (.bool false)] true (.recv false) w #[]:=by
 have h1:(execOp a.eval o).run Try.prog w=.ok (.comm #[rcase c (.bool false)] true (.recv false)) w:=by
  simp only [execOp,hop,hx]
  kernel_rfl
 have h2:(execOp a.eval o).events Try.prog w #[]=#[]:=by
  simp only [execOp,hop,hx]
  kernel_rfl
 rw [stepG_comm ho hw hk h1,show listed Try.prog b.fn a o w=#[] by unfold listed; rw [h2]; exact seen_none _ _]
def letGoV:Value:=.iface 111 (.agg #[])
structure AtTurn (gb:Nat) (b₀:Frame) (a₀:Act) (ops₀:Array Oper) (i₀:Nat) (rest₀:List Nat) (k₀:List Item) (cl:List Frame) (g₂:Goroutine):Prop where
 go:∀ {j rb ct cs:Nat} {en:Bool} {s p q:Int} {ty:TypeId} {E:Env} {w:World} {F:Machine→Trace→Prop},w.heap[gb]?=some (gateObj rb ct cs en false s p q ty)→E.W gb=false→E.role j=.gone→(∀ i o,3≤o→E.St i ⟨gb,o,none⟩=none) →
  HG Try.prog j F E (G (b₀.at (a₀.put ((ops₀[i₀]?).bind (·.dst)) (.tuple #[])) (.inRegion ops₀ rest₀ :: k₀)) cl) (w.setCell ⟨gb,5,none⟩ (.int .i64 (IntKind.i64.wrap (s+1))))→HG Try.prog j F E (Go.Conc.served g₂ (.bool true)) w
 off:∀ {j rb ct cs:Nat} {en:Bool} {s p q:Int} {ty:TypeId} {E:Env} {w:World} {F:Machine→Trace→Prop},w.heap[gb]?=some (gateObj rb ct cs en false s p q ty)→E.W gb=false→E.role j=.gone→(∀ i o,3≤o→E.St i ⟨gb,o,none⟩=none) →
  HG Try.prog j F E (G { b₀.at a₀ (.inRegion ops₀ (i₀ :: rest₀) :: k₀) with mode:=.panicking [{ v:=letGoV,recovered:=false }] } cl) (w.setCell ⟨gb,4,none⟩ (.bool true))→HG Try.prog j F E (Go.Conc.served g₂ (.bool false)) w
section
variable {j gb rb ct cs hr:Nat} {en:Bool} {s p q:Int} {ty:TypeId} {E:Env} {w:World} {F:Machine→Trace→Prop}
 {b₀:Frame} {a₀:Act} {ops₀:Array Oper} {i₀:Nat} {rest₀:List Nat} {k₀:List Item} {cl:List Frame}
theorem step_in {home home':Goroutine→Prop} {k':Nat} (hG:w.heap[gb]?=some (gateObj rb ct cs en false s p q ty)) (hW:E.W gb=false) (hrun:E.role hr=.seat cs home) (hne:hr≠j) (hSt:E.St j ⟨gb,1,none⟩=some (.chan (some ct))) (hct:w.heap[ct]?=some (.chan 0 #[] false k' k' false)) (hH:E.H ct=some 0)
  (hno:∀ x home'',x≠j→E.role x≠.seat ct home'') (hhome:∀ g₂,AtTurn gb b₀ a₀ ops₀ i₀ rest₀ k₀ cl g₂→home' g₂)
  (hnext:∀ E1 w1 k g₂,AtE j E w E1 w1→w1.heap[cs]?=some (.chan 0 #[] false k k false)→home g₂→HG Try.prog hr F (E1.setRole j (.seat ct home')) (Go.Conc.served g₂ (.bool true)) (w1.setChan cs 0 #[] false (k+1) (k+1) false)) :
  HGn Try.prog j F E w 100 (entry 33 Try.f33 #[.pointer (some ⟨gb,0,none⟩)] (b₀.at a₀ (.inRegion ops₀ (i₀ :: rest₀) :: k₀) :: cl)):=by
 simp only [entry,Try.f33,Option.getD_some]
 walk_nrm
 have ev1:=ev_eql_gate
 refine Idl.q (idl_hg Try.prog j F E w) (Idl.q (idl_hg Try.prog j F E w) (Idl.rg (idl_hg Try.prog j F E w) [0,1] rfl ?_))
 iterate 2 (refine Idl.v (idl_hg Try.prog j F E w) ?_; walk_nrm)
 refine Idl.re (idl_hg Try.prog j F E w) (Idl.cf (idl_hg Try.prog j F E w) rfl (Idl.sk (idl_hg Try.prog j F E w) (Idl.q (idl_hg Try.prog j F E w) (Idl.q (idl_hg Try.prog j F E w) (Idl.rg (idl_hg Try.prog j F E w) [0,1,2,3] rfl ?_)))))
 iterate 3 (refine Idl.v (idl_hg Try.prog j F E w) ?_; walk_nrm)
 refine HGn.ld (obj_cell hG (o:=4) rfl) (fun z=>by rw [hW] at z; cases z) rfl rfl (by first | decide | exact base_kind _ | exact baseD_kind _ | assumption) (fun w₁ hc₁=>⟨by go_simp,fun e he=>by (have he':=he; simp [go_sem,hc₁] at he'; exact he')⟩) ?_
 walk_nrm
 refine Idl.re (idl_hg Try.prog j F E w) (Idl.cf (idl_hg Try.prog j F E w) rfl (Idl.sk (idl_hg Try.prog j F E w) (Idl.q (idl_hg Try.prog j F E w) (Idl.rg (idl_hg Try.prog j F E w) [0,1,2,3,4] rfl ?_))))
 iterate 3 (refine Idl.v (idl_hg Try.prog j F E w) ?_; walk_nrm)
 refine HGn.ld (obj_cell hG (o:=2) rfl) (fun z=>by rw [hW] at z; cases z) rfl rfl (by first | decide | exact base_kind _ | exact baseD_kind _ | assumption) (fun w₁ hc₁=>⟨by go_simp,fun e he=>by (have he':=he; simp [go_sem,hc₁] at he'; exact he')⟩) ?_
 walk_nrm
 skip
 refine HG.give_seat (n':=31) (k':=k') (es:=#[]) hne hrun rfl (fun w' _=>stepG_send rfl rfl (by k_ne) rfl rfl rfl) (by simp) ?_ hct hH hno hnext
 rw [served_G]
 walk_nrm
 refine .inl ⟨30,w,rfl,?_⟩
 change SitsN Try.prog (j == 0) (E.St j) (fun g _=>∃ g₂,AtSeat Try.prog (j == 0) (E.St j) ct home' g g₂) w 30 _
 refine Idl.step (idl_sitsN Try.prog (j == 0) (E.St j) _ w) _ _ _ rfl (fun _=>stepG_region_end) ?_
 refine Idl.step (idl_sitsN Try.prog (j == 0) (E.St j) _ w) _ _ _ rfl (fun _=>stepG_seq) ?_
 refine Idl.step (idl_sitsN Try.prog (j == 0) (E.St j) _ w) _ _ _ rfl (fun _=>stepG_seq) ?_
 refine Idl.step (idl_sitsN Try.prog (j == 0) (E.St j) _ w) _ _ _ rfl (fun _=>stepG_region) ?_
 simp only [List.size_toArray,List.length_cons,List.length_nil,Nat.reduceAdd,Nat.zero_add,List.range,List.range.loop]
 iterate 3 (refine Idl.v (idl_sitsN Try.prog (j == 0) (E.St j) _ w) ?_; walk_nrm)
 refine SitsN.ld hSt rfl rfl (by first | decide | exact base_kind _ | exact baseD_kind _ | assumption) (fun w₁ hc₁=>⟨by go_simp,fun e he=>by (have he':=he; simp [go_sem,hc₁] at he'; exact he')⟩) ?_
 walk_nrm
 refine Goes.stop (fun w₁ h₁=>⟨_,rfl,rfl,rfl,rfl,hhome _ ⟨?_,?_⟩,#[],by simp,fun w _=>stepG_recv106 rfl rfl (by k_ne) rfl rfl⟩)
 ·intro j rb ct cs en s p q ty E w F hG hW hrole hS hg
  rw [served_G]
  walk_nrm
  change HGn Try.prog j F E w 60 _
  refine Idl.v (idl_hg Try.prog j F E w) ?_
  walk_nrm
  refine Idl.re (idl_hg Try.prog j F E w) (Idl.cf (idl_hg Try.prog j F E w) rfl (Idl.sk (idl_hg Try.prog j F E w) (Idl.rg (idl_hg Try.prog j F E w) [0,1,2,3,4,5,6,7] rfl ?_)))
  iterate 3 (refine Idl.v (idl_hg Try.prog j F E w) ?_; walk_nrm)
  refine HGn.ld (obj_cell hG (o:=5) rfl) (fun z=>by rw [hW] at z; cases z) rfl rfl (by first | decide | exact base_kind _ | exact baseD_kind _ | assumption) (fun w₁ hc₁=>⟨by go_simp,fun e he=>by (have he':=he; simp [go_sem,hc₁] at he'; exact he')⟩) ?_
  walk_nrm
  iterate 3 (refine Idl.v (idl_hg Try.prog j F E w) ?_; walk_nrm)
  refine HGn.st (obj_cell hG (o:=5) rfl) (fun z=>by rw [hW] at z; cases z) (obj_thaw hG 5) (fun i=>hS i 5 (by decide)) hrole rfl rfl (by first | decide | exact base_kind _ | exact baseD_kind _ | assumption) rfl (fun w₁ hc₁ hz₁=>⟨by go_simp; first | done | rfl,fun e he=>by (have he':=he; simp [go_sem,ev_st_int,ev_st_bool,ev_st_ptr,ev_st_slice,evSt_at hc₁ hz₁] at he'; exact he')⟩) ?_
  try walk_nrm
  refine Idl.re (idl_hg Try.prog j F E (w.setCell ⟨gb,5,none⟩ (.int .i64 (IntKind.i64.wrap (s+1))))) (Idl.en (idl_hg Try.prog j F E (w.setCell ⟨gb,5,none⟩ (.int .i64 (IntKind.i64.wrap (s+1))))) ?_)
  refine Idl.leave0 (n:=1) (idl_hg Try.prog j F E (w.setCell ⟨gb,5,none⟩ (.int .i64 (IntKind.i64.wrap (s+1))))) rfl rfl Try.func33 rfl ?_
  exact hg
 ·intro j rb ct cs en s p q ty E w F hG hW hrole hS hg
  rw [served_G]
  walk_nrm
  change HGn Try.prog j F E w 60 _
  refine Idl.v (idl_hg Try.prog j F E w) ?_
  walk_nrm
  refine Idl.re (idl_hg Try.prog j F E w) (Idl.ct (idl_hg Try.prog j F E w) rfl (Idl.q (idl_hg Try.prog j F E w) (Idl.rg (idl_hg Try.prog j F E w) [0,1,2,3] rfl ?_)))
  iterate 3 (refine Idl.v (idl_hg Try.prog j F E w) ?_; walk_nrm)
  refine HGn.st (obj_cell hG (o:=4) rfl) (fun z=>by rw [hW] at z; cases z) (obj_thaw hG 4) (fun i=>hS i 4 (by decide)) hrole rfl rfl (by first | decide | exact base_kind _ | exact baseD_kind _ | assumption) rfl (fun w₁ hc₁ hz₁=>⟨by go_simp; first | done | rfl,fun e he=>by (have he':=he; simp [go_sem,ev_st_int,ev_st_bool,ev_st_ptr,ev_st_slice,evSt_at hc₁ hz₁] at he'; exact he')⟩) ?_
  try walk_nrm
  refine Idl.re (idl_hg Try.prog j F E (w.setCell ⟨gb,4,none⟩ (.bool true))) (Idl.rg (idl_hg Try.prog j F E (w.setCell ⟨gb,4,none⟩ (.bool true))) [0,1,2] rfl ?_)
  refine Idl.v (idl_hg Try.prog j F E (w.setCell ⟨gb,4,none⟩ (.bool true))) ?_
  walk_nrm
  refine Idl.value (v:=letGoV) (idl_hg Try.prog j F E (w.setCell ⟨gb,4,none⟩ (.bool true))) rfl rfl (by k_ne) (fun w=>by kernel_rfl) (fun w=>by kernel_rfl) ?_
  walk_nrm
  refine Idl.panic (b:=base 33) (v:=letGoV) (idl_hg Try.prog j F E (w.setCell ⟨gb,4,none⟩ (.bool true))) rfl rfl (by k_ne) rfl (fun w=>by kernel_rfl) (fun w=>by kernel_rfl) ?_
  refine Idl.unwindNone (n:=1) (idl_hg Try.prog j F E (w.setCell ⟨gb,4,none⟩ (.bool true))) rfl Try.func33 rfl ?_
  exact hg
end
structure AtWait (gb:Nat) (b₀:Frame) (a₀:Act) (ops₀:Array Oper) (i₀:Nat) (rest₀:List Nat) (k₀:List Item) (cl:List Frame) (g₂:Goroutine):Prop where
 go:∀ {j rb ct cs:Nat} {en fr:Bool} {s p q:Int} {ty:TypeId} {E:Env} {w:World} {F:Machine→Trace→Prop} (v:Bool),w.heap[gb]?=some (gateObj rb ct cs en fr s p q ty)→E.W gb=false→E.role j=.gone→(∀ i o,3≤o→E.St i ⟨gb,o,none⟩=none) →
  HG Try.prog j F E (G (b₀.at (a₀.put ((ops₀[i₀]?).bind (·.dst)) (.tuple #[])) (.inRegion ops₀ rest₀ :: k₀)) cl) (w.setCell ⟨gb,3,none⟩ (.bool !v))→HG Try.prog j F E (Go.Conc.served g₂ (.bool v)) w
theorem live_thaw {b:Nat} {w:World} (h:Live b w) (o:Nat):w.frozen? ⟨b,o,none⟩=false:=by
 obtain ⟨st,sm,hG⟩:=h
 exact hG.thaw o
section
variable {h j gb rb ct cs:Nat} {en fr:Bool} {s p q:Int} {ty:TypeId} {E:Env} {w:World} {F:Machine→Trace→Prop}
 {b₀:Frame} {a₀:Act} {ops₀:Array Oper} {i₀:Nat} {rest₀:List Nat} {k₀:List Item} {cl:List Frame}
theorem wait_seat {m:Nat} {main:Bool} {S:Addr→Option Value} {home:Goroutine→Prop} (hS:S ⟨gb,2,none⟩=some (.chan (some cs))) (hhome:∀ g₂,AtWait gb b₀ a₀ ops₀ i₀ rest₀ k₀ cl g₂→home g₂) :
  SitsN Try.prog main S (fun g _=>∃ g₂,AtSeat Try.prog main S cs home g g₂) w (m+60) (entry 74 Try.f74 #[.pointer (some ⟨gb,0,none⟩)] (b₀.at a₀ (.inRegion ops₀ (i₀ :: rest₀) :: k₀) :: cl)):=by
 simp only [entry,Try.f74,Option.getD_some]
 walk_nrm
 refine Idl.step (idl_sitsN Try.prog main S _ w) _ _ _ rfl (fun _=>stepG_region) ?_
 simp only [List.size_toArray,List.length_cons,List.length_nil,Nat.reduceAdd,Nat.zero_add,List.range,List.range.loop]
 iterate 4 (refine Idl.v (idl_sitsN Try.prog main S _ w) ?_; walk_nrm)
 refine SitsN.ld hS rfl rfl (by first | decide | exact base_kind _ | exact baseD_kind _ | assumption) (fun w₁ hc₁=>⟨by go_simp,fun e he=>by (have he':=he; simp [go_sem,hc₁] at he'; exact he')⟩) ?_
 walk_nrm
 refine Goes.stop (fun w₁ h₁=>⟨_,rfl,rfl,rfl,rfl,hhome _ ⟨?_⟩,#[],by simp,fun w _=>stepG_recv106 rfl rfl (by k_ne) rfl rfl⟩)
 intro j rb ct cs en fr s p q ty E w F v hG hW hrole hS hg
 rw [served_G]
 walk_nrm
 change HGn Try.prog j F E w 60 _
 iterate 3 (refine Idl.v (idl_hg Try.prog j F E w) ?_; walk_nrm)
 refine HGn.st (obj_cell hG (o:=3) rfl) (fun z=>by rw [hW] at z; cases z) (obj_thaw hG 3) (fun i=>hS i 3 (by decide)) hrole rfl rfl (by first | decide | exact base_kind _ | exact baseD_kind _ | assumption) rfl (fun w₁ hc₁ hz₁=>⟨by go_simp; first | done | rfl,fun e he=>by (have he':=he; simp [go_sem,ev_st_int,ev_st_bool,ev_st_ptr,ev_st_slice,evSt_at hc₁ hz₁] at he'; exact he')⟩) ?_
 try walk_nrm
 refine Idl.re (idl_hg Try.prog j F E (w.setCell ⟨gb,3,none⟩ (.bool !v))) (Idl.en (idl_hg Try.prog j F E (w.setCell ⟨gb,3,none⟩ (.bool !v))) ?_)
 refine Idl.leave0 (n:=1) (idl_hg Try.prog j F E (w.setCell ⟨gb,3,none⟩ (.bool !v))) rfl rfl Try.func74 rfl ?_
 exact hg
theorem pick_over {k:Int} (hG:w.heap[gb]?=some (gateObj rb ct cs true fr s p q ty)) (hW:E.W gb=false) (hk:w.cell? ⟨rb,0,none⟩=some (.int .i64 k)) (hWr:E.W rb=true) (hL:Live rb w) (hSr:∀ i,E.St i ⟨rb,0,none⟩=none) (hrole:E.role h=.gone)
  (hg:HG Try.prog h F E (G (b₀.at (a₀.put ((ops₀[i₀]?).bind (·.dst)) (.tuple #[])) (.inRegion ops₀ rest₀ :: k₀)) cl) (w.setCell ⟨rb,0,none⟩ (.int .i64 (IntKind.i64.wrap (k+1))))) :
  HGn Try.prog h F E w 100 (entry 75 Try.f75 #[.pointer (some ⟨gb,0,none⟩)] (b₀.at a₀ (.inRegion ops₀ (i₀ :: rest₀) :: k₀) :: cl)):=by
 have hne:rb≠gb:=fun e=>by rw [e,hW] at hWr; cases hWr
 simp only [entry,Try.f75,Option.getD_some]
 walk_nrm
 refine Idl.q (idl_hg Try.prog h F E w) (Idl.rg (idl_hg Try.prog h F E w) [0,1,2,3,4,5,6,7,8,9,10] rfl ?_)
 iterate 3 (refine Idl.v (idl_hg Try.prog h F E w) ?_; walk_nrm)
 refine HGn.ld (obj_cell hG (o:=0) rfl) (fun z=>by rw [hW] at z; cases z) rfl rfl (by first | decide | exact base_kind _ | exact baseD_kind _ | assumption) (fun w₁ hc₁=>⟨by go_simp,fun e he=>by (have he':=he; simp [go_sem,hc₁] at he'; exact he')⟩) ?_
 walk_nrm
 iterate 2 (refine Idl.v (idl_hg Try.prog h F E w) ?_; walk_nrm)
 refine HGn.ld hk (fun _=>⟨rfl,hL⟩) rfl rfl (by first | decide | exact base_kind _ | exact baseD_kind _ | assumption) (fun w₁ hc₁=>⟨by go_simp,fun e he=>by (have he':=he; simp [go_sem,hc₁] at he'; exact he')⟩) ?_
 walk_nrm
 iterate 3 (refine Idl.v (idl_hg Try.prog h F E w) ?_; walk_nrm)
 refine HGn.st hk (fun _=>⟨rfl,hL⟩) (live_thaw hL 0) hSr hrole rfl rfl (by first | decide | exact base_kind _ | exact baseD_kind _ | assumption) rfl (fun w₁ hc₁ hz₁=>⟨by go_simp; first | done | rfl,fun e he=>by (have he':=he; simp [go_sem,ev_st_int,ev_st_bool,ev_st_ptr,ev_st_slice,evSt_at hc₁ hz₁] at he'; exact he')⟩) ?_
 try walk_nrm
 have hG':(w.setCell ⟨rb,0,none⟩ (.int .i64 (IntKind.i64.wrap (k+1)))).heap[gb]?=some (gateObj rb ct cs true fr s p q ty):=by rw [heap_setCell_ne hne]; exact hG
 generalize w.setCell ⟨rb,0,none⟩ (.int .i64 (IntKind.i64.wrap (k+1)))=w' at hG' hg ⊢
 refine Idl.re (idl_hg Try.prog h F E w') (Idl.q (idl_hg Try.prog h F E w') (Idl.rg (idl_hg Try.prog h F E w') [0,1,2,3,4] rfl ?_))
 iterate 3 (refine Idl.v (idl_hg Try.prog h F E w') ?_; walk_nrm)
 refine HGn.ld (obj_cell hG' (o:=3) rfl) (fun z=>by rw [hW] at z; cases z) rfl rfl (by first | decide | exact base_kind _ | exact baseD_kind _ | assumption) (fun w₁ hc₁=>⟨by go_simp,fun e he=>by (have he':=he; simp [go_sem,hc₁] at he'; exact he')⟩) ?_
 walk_nrm
 refine Idl.v (idl_hg Try.prog h F E w') ?_
 walk_nrm
 refine Idl.re (idl_hg Try.prog h F E w') (Idl.cf (idl_hg Try.prog h F E w') rfl (Idl.sk (idl_hg Try.prog h F E w') (Idl.en (idl_hg Try.prog h F E w') ?_)))
 refine Idl.leave0 (n:=1) (idl_hg Try.prog h F E w') rfl rfl Try.func75 rfl ?_
 exact hg
theorem pick_go {k:Int} {k':Nat} {home home':Goroutine→Prop} (hG:w.heap[gb]?=some (gateObj rb ct cs false fr s p q ty)) (hW:E.W gb=false) (hk:w.cell? ⟨rb,0,none⟩=some (.int .i64 k)) (hWr:E.W rb=true) (hL:Live rb w) (hSr:∀ i,E.St i ⟨rb,0,none⟩=none) (hrole:E.role h=.gone)
  (hj:E.role j=.seat ct home) (hne:j≠h) (hSt:E.St h ⟨gb,2,none⟩=some (.chan (some cs))) (hcs:w.heap[cs]?=some (.chan 0 #[] false k' k' false)) (hH:E.H cs=some 0) (hno:∀ x home'',x≠h→E.role x≠.seat cs home'')
  (hhome:∀ g₂,AtWait gb b₀ a₀ ops₀ i₀ rest₀ k₀ cl g₂→home' g₂)
  (hnext:∀ E1 w1 n g₂,AtE h E (w.setCell ⟨rb,0,none⟩ (.int .i64 (IntKind.i64.wrap (k+1)))) E1 w1→w1.heap[ct]?=some (.chan 0 #[] false n n false)→home g₂→HG Try.prog j F (E1.setRole h (.seat cs home')) (Go.Conc.served g₂ (.bool true)) (w1.setChan ct 0 #[] false (n+1) (n+1) false)) :
  HGn Try.prog h F E w 100 (entry 75 Try.f75 #[.pointer (some ⟨gb,0,none⟩)] (b₀.at a₀ (.inRegion ops₀ (i₀ :: rest₀) :: k₀) :: cl)):=by
 have hne':rb≠gb:=fun e=>by rw [e,hW] at hWr; cases hWr
 simp only [entry,Try.f75,Option.getD_some]
 walk_nrm
 refine Idl.q (idl_hg Try.prog h F E w) (Idl.rg (idl_hg Try.prog h F E w) [0,1,2,3,4,5,6,7,8,9,10] rfl ?_)
 iterate 3 (refine Idl.v (idl_hg Try.prog h F E w) ?_; walk_nrm)
 refine HGn.ld (obj_cell hG (o:=0) rfl) (fun z=>by rw [hW] at z; cases z) rfl rfl (by first | decide | exact base_kind _ | exact baseD_kind _ | assumption) (fun w₁ hc₁=>⟨by go_simp,fun e he=>by (have he':=he; simp [go_sem,hc₁] at he'; exact he')⟩) ?_
 walk_nrm
 iterate 2 (refine Idl.v (idl_hg Try.prog h F E w) ?_; walk_nrm)
 refine HGn.ld hk (fun _=>⟨rfl,hL⟩) rfl rfl (by first | decide | exact base_kind _ | exact baseD_kind _ | assumption) (fun w₁ hc₁=>⟨by go_simp,fun e he=>by (have he':=he; simp [go_sem,hc₁] at he'; exact he')⟩) ?_
 walk_nrm
 iterate 3 (refine Idl.v (idl_hg Try.prog h F E w) ?_; walk_nrm)
 refine HGn.st hk (fun _=>⟨rfl,hL⟩) (live_thaw hL 0) hSr hrole rfl rfl (by first | decide | exact base_kind _ | exact baseD_kind _ | assumption) rfl (fun w₁ hc₁ hz₁=>⟨by go_simp; first | done | rfl,fun e he=>by (have he':=he; simp [go_sem,ev_st_int,ev_st_bool,ev_st_ptr,ev_st_slice,evSt_at hc₁ hz₁] at he'; exact he')⟩) ?_
 try walk_nrm
 have hG':(w.setCell ⟨rb,0,none⟩ (.int .i64 (IntKind.i64.wrap (k+1)))).heap[gb]?=some (gateObj rb ct cs false fr s p q ty):=by rw [heap_setCell_ne hne']; exact hG
 have hcs':(w.setCell ⟨rb,0,none⟩ (.int .i64 (IntKind.i64.wrap (k+1)))).heap[cs]?=some (.chan 0 #[] false k' k' false):=heap_set_chan hcs
 generalize w.setCell ⟨rb,0,none⟩ (.int .i64 (IntKind.i64.wrap (k+1)))=w' at hG' hcs' hnext ⊢
 refine Idl.re (idl_hg Try.prog h F E w') (Idl.q (idl_hg Try.prog h F E w') (Idl.rg (idl_hg Try.prog h F E w') [0,1,2,3,4] rfl ?_))
 iterate 3 (refine Idl.v (idl_hg Try.prog h F E w') ?_; walk_nrm)
 refine HGn.ld (obj_cell hG' (o:=3) rfl) (fun z=>by rw [hW] at z; cases z) rfl rfl (by first | decide | exact base_kind _ | exact baseD_kind _ | assumption) (fun w₁ hc₁=>⟨by go_simp,fun e he=>by (have he':=he; simp [go_sem,hc₁] at he'; exact he')⟩) ?_
 walk_nrm
 refine Idl.v (idl_hg Try.prog h F E w') ?_
 walk_nrm
 refine Idl.re (idl_hg Try.prog h F E w') (Idl.ct (idl_hg Try.prog h F E w') rfl (Idl.q (idl_hg Try.prog h F E w') (Idl.rg (idl_hg Try.prog h F E w') [0,1,2,3,4] rfl ?_)))
 iterate 3 (refine Idl.v (idl_hg Try.prog h F E w') ?_; walk_nrm)
 refine HGn.ld (obj_cell hG' (o:=1) rfl) (fun z=>by rw [hW] at z; cases z) rfl rfl (by first | decide | exact base_kind _ | exact baseD_kind _ | assumption) (fun w₁ hc₁=>⟨by go_simp,fun e he=>by (have he':=he; simp [go_sem,hc₁] at he'; exact he')⟩) ?_
 walk_nrm
 skip
 refine HG.give_seat (n':=101) (k':=k') (es:=#[]) hne hj rfl (fun w' _=>stepG_send rfl rfl (by k_ne) rfl rfl rfl) (by simp) ?_ hcs' hH hno hnext
 rw [served_G]
 walk_nrm
 refine .inl ⟨100,w',rfl,?_⟩
 change SitsN Try.prog (h == 0) (E.St h) (fun g _=>∃ g₂,AtSeat Try.prog (h == 0) (E.St h) cs home' g g₂) w' 100 _
 refine Idl.step (idl_sitsN Try.prog (h == 0) (E.St h) _ w') _ _ _ rfl (fun _=>stepG_region_end) ?_
 refine Idl.step (idl_sitsN Try.prog (h == 0) (E.St h) _ w') _ _ _ rfl (fun _=>stepG_region) ?_
 simp only [List.size_toArray,List.length_cons,List.length_nil,Nat.reduceAdd,Nat.zero_add,List.range,List.range.loop]
 refine Idl.v (idl_sitsN Try.prog (h == 0) (E.St h) _ w') ?_
 walk_nrm
 refine Idl.callE (fn:=Try.f74) (vs:=#[.pointer (some ⟨gb,0,none⟩)]) (idl_sitsN Try.prog (h == 0) (E.St h) _ w') rfl rfl (by k_ne) rfl Try.func74 rfl rfl (by simp [Act.eval]) ?_
 refine wait_seat hSt (fun g₂ hA=>hhome g₂ ⟨fun v hG hW hrole hS hg=>hA.go v hG hW hrole hS ?_⟩)
 rename_i j2 _ _ _ _ _ _ _ _ _ E2 w2 F2
 walk_nrm
 change HGn Try.prog j2 F2 E2 (w2.setCell ⟨gb,3,none⟩ (.bool !v)) 20 _
 refine Idl.re (idl_hg Try.prog j2 F2 E2 (w2.setCell ⟨gb,3,none⟩ (.bool !v))) (Idl.en (idl_hg Try.prog j2 F2 E2 (w2.setCell ⟨gb,3,none⟩ (.bool !v))) ?_)
 refine Idl.leave0 (n:=1) (idl_hg Try.prog j2 F2 E2 (w2.setCell ⟨gb,3,none⟩ (.bool !v))) rfl rfl Try.func75 rfl ?_
 exact hg
end
end Go.Proofs.Ytimlbbleblijnaa.Co

namespace Go.Proofs.Ytimlbbleblijnaa.Co
open Go Go.Conc
open Go.ConcN (sumTo upd sumTo_upd upd_ne upd_same sumTo_congr le_sumTo)
def pseudo (P:Program):Frame:={ (default:Frame) with fn:=P.funcs.size,defers:=[],mode:=.panicking [goexitEntry] }
section
variable {P:Program} {main:Bool} {b:Frame} {a:Act} {k:List Item} {cs:List Frame} {w:World} {todo:List Item} {f:FuncId} {fn:Func} {args:Array Value}
theorem stepG_born {c:Code} (hf:P.funcs[f]?=some fn) (hname:(fn.name == "runtime.NumGoroutine")=false) (hb:fn.body=some c) :
  stepG P main (born P (dcall f args)) w=.go (entryD f fn args [pseudo P]) w #[]:=by
 have h:=stepG_unwind_clo (P:=P) (main:=main) (b:={ (default:Frame) with fn:=P.funcs.size }) (a:=⟨#[],[dcall f args]⟩) (todo:=[]) (ds:=[]) (caps:=#[]) (args:=args) (cs:=[]) (w:=w) (md:=.panicking [goexitEntry]) (by simp) rfl hf hname hb
 have e1:born P (dcall f args)=G { ({ (default:Frame) with fn:=P.funcs.size }:Frame).at ⟨#[],[dcall f args]⟩ [] with mode:=.panicking [goexitEntry] } []:=rfl
 rw [e1,h]
 unfold entryD
 rw [hb]
 simp only [Array.append_empty,Option.getD_some]
 rfl
theorem stepG_leave_pseudo {v:Value} (hn:b.kind=.deferred) (hd:a.defers=[]) (hf:P.funcs[b.fn]?=some fn) (hr:(results fn a.tmps).run P w=.ok v w) (he:(results fn a.tmps).events P w #[]=#[]) :
  stepG P main (G { b.at a todo with mode:=.returning } [pseudo P]) w=.go (G (pseudo P) []) w #[]:=by
 simp [G,stepG,unwind,doReturn,Frame.at,hn,hd,hf,hr,he,seen,GStep.after,pseudo,goexitEntry]
theorem stepG_gone:∃ g',g'.status=.finished∧∀ w,stepG P main (G (pseudo P) []) w=.go g' w #[] :=
 ⟨{ frame:=pseudo P,callers:=[],status:=.finished,dying:=none },rfl,fun w=>by
  simp [G,stepG,unwind,pseudo,goexitEntry,Frame.catches]
  rfl⟩
theorem quits_pseudo:QuitsD P 1 0 (G (pseudo P) []):=by
 obtain ⟨g',h1,h2⟩:=@stepG_gone P false
 exact .inr ⟨rfl,g',#[],by simp,h2,⟨h1,rfl⟩⟩
end
abbrev liveB:Frame:=baseD 73
theorem quits_live {t1 t2:Array Value} {d1 d2:List Item}:QuitsD Try.prog 3 0 (G { (baseD 117).at ⟨t1,[]⟩ d1 with mode:=.returning } [{ liveB.at ⟨t2,[]⟩ d2 with mode:=.returning },pseudo Try.prog]):=by
 have h1:∀ w,stepG Try.prog false (G { (baseD 117).at ⟨t1,[]⟩ d1 with mode:=.returning } [{ liveB.at ⟨t2,[]⟩ d2 with mode:=.returning },pseudo Try.prog]) w=.go (G { liveB.at ⟨t2,[]⟩ d2 with mode:=.returning } [pseudo Try.prog]) w #[]:=fun w =>
  stepG_leave_deferred rfl rfl (wgLib.f_done) (results_none rfl _ Try.prog w) (events_results_none rfl _ _) rfl
 have h2:∀ w,stepG Try.prog false (G { liveB.at ⟨t2,[]⟩ d2 with mode:=.returning } [pseudo Try.prog]) w=.go (G (pseudo Try.prog) []) w #[]:=fun w =>
  stepG_leave_pseudo rfl rfl Try.func73 (results_none rfl _ Try.prog w) (events_results_none rfl _ _)
 exact .inr ⟨rfl,_,#[],by simp,h1,.inr ⟨rfl,_,#[],by simp,h2,quits_pseudo⟩⟩
theorem ends_live_out {rb:Nat} {t2:Array Value} {d2:List Item}:Ends Try.prog rb 344 0 (G { liveB.at ⟨t2,[dcall 117 #[.pointer (some (stZ rb))]]⟩ d2 with mode:=.returning } [pseudo Try.prog]):=by
 refine Idl.step (n:=343) (idl_ends Try.prog rb 0) _ _ rfl (fun w=>stepG_unwind_enter rfl wgLib.f_done (by kernel_rfl) rfl) ?_
 exact done_ends (L:=wgLink) wgLib (qt:=3) quits_live
theorem ends_live1 {rb:Nat} {t1 t2:Array Value} {d1 d2:List Item} {md:FrameMode} (hmd:md=.returning∨∃ x,md=.panicking [{ v:=x,recovered:=true }]) :
  Ends Try.prog rb 345 0 (G { (baseD 118).at ⟨t1,[]⟩ d1 with mode:=.returning } [{ liveB.at ⟨t2,[dcall 117 #[.pointer (some (stZ rb))]]⟩ d2 with mode:=md },pseudo Try.prog]):=by
 rcases hmd with rfl | ⟨x,rfl⟩
 ·refine Idl.step (n:=344) (idl_ends Try.prog rb 0) _ _ rfl (fun w=>stepG_leave_deferred rfl rfl Try.func118 (results_none rfl _ Try.prog w) (events_results_none rfl _ _) rfl) ?_
  exact ends_live_out
 ·refine Idl.step (n:=344) (idl_ends Try.prog rb 0) _ _ rfl (fun w=>stepG_leave_recovered rfl rfl Try.func118 (results_none rfl _ Try.prog w) (events_results_none rfl _ _) rfl) ?_
  exact ends_live_out
theorem alloc_heap (w:World) (o:Obj):(w.alloc o).heap=w.heap.push o:=rfl
theorem alloc_old {w:World} {o:Obj} {b:Nat} (hb:b < w.heap.size):(w.alloc o).heap[b]?=w.heap[b]?:=by rw [alloc_heap,Array.getElem?_push,if_neg (Nat.ne_of_lt hb)]
theorem alloc_new {w:World} {o:Obj}:(w.alloc o).heap[w.heap.size]?=some o:=by rw [alloc_heap,Array.getElem?_push,if_pos rfl]
theorem alloc_size {w:World} {o:Obj}:(w.alloc o).heap.size=w.heap.size+1:=by rw [alloc_heap,Array.size_push]
theorem fit_alloc {H:Nat→Option Nat} {W:Nat→Bool} {w:World} {c:Array Value} {e:TypeId} (hf:Fit H W w):Fit H W (w.alloc (.cells c e)):=by
 have hget:∀ b,b < w.heap.size→(w.alloc (.cells c e)).heap[b]?=w.heap[b]?:=fun b hb=>alloc_old hb
 have hnew:(w.alloc (.cells c e)).heap[w.heap.size]?=some (.cells c e):=alloc_new
 have hsz:(w.alloc (.cells c e)).heap.size=w.heap.size+1:=alloc_size
 have hlt:∀ b o,(w.alloc (.cells c e)).heap[b]?=some o→b=w.heap.size∨b < w.heap.size:=fun b o ho=>by
  have:=(Array.getElem?_eq_some_iff.1 ho).1
  omega
 refine ⟨fun b o ho=>?_,fun b hb=>hf.bound b (by omega),fun b n o hD ho=>?_,fun b hb=>?_,hf.sub⟩
 ·rw [vw_get] at ho
  cases hx:(w.alloc (.cells c e)).heap[b]? with
  | none=>rw [hx] at ho; cases ho
  | some y =>
    rcases hlt b y hx with rfl | hl
    ·rw [hnew] at ho
     simp only [Option.map_some,Option.some.injEq] at ho
     subst ho
     unfold hideAt
     cases H w.heap.size <;> rfl
    ·rw [hget b hl] at ho
     exact hf.fair b o (by rw [vw_get]; exact ho)
 ·rcases hlt b o ho with rfl | hl
  ·rw [hnew] at ho
   simp only [Option.some.injEq] at ho
   subst ho
   exact .inl ⟨_,_,_,rfl⟩
  ·rw [hget b hl] at ho
   exact hf.hides b n o hD ho
 ·obtain ⟨x,st,sm,e',hx⟩:=hf.ok b hb
  exact ⟨x,st,sm,e',by rw [hget b (Array.getElem?_eq_some_iff.1 hx).1]; exact hx⟩
theorem aw_alloc {W:Nat→Bool} {w w1:World} {o:Obj} (hA:Aw W w w1) (hW:W w.heap.size=false):Aw W (w.alloc o) (w1.alloc o):=by
 refine ⟨hA.tape,hA.os,hA.output,by rw [alloc_size,alloc_size,hA.size],fun b hb=>?_,fun b hb x st sm e hx=>?_⟩
 ·rw [alloc_heap,alloc_heap,Array.getElem?_push,Array.getElem?_push,hA.size,hA.heap b hb]
 ·have hne:b≠w.heap.size:=fun z=>by rw [z,hW] at hb; cases hb
  rw [alloc_heap,Array.getElem?_push,if_neg hne] at hx
  obtain ⟨st',sm',h1⟩:=hA.run b hb x st sm e hx
  refine ⟨st',sm',?_⟩
  rw [alloc_heap,Array.getElem?_push,if_neg (by rw [hA.size]; exact hne)]
  exact h1
section
variable {P:Program} {h:Nat} {F:Machine→Trace→Prop} {E:Env} {w:World} {n:Nat} {fr:Frame} {a:Act} {k:List Item} {cs:List Frame} {ops:Array Oper} {i:Nat} {rest:List Nat} {o:Oper}
theorem HGn.mk {c:Array Value} {t:TypeId} (hrole:E.role h=.gone) (hWn:E.W w.heap.size=false) (ho:ops[i]?=some o) (hw:Region.wanted o (yielded ops a.tmps)=true) (hk:fr.kind≠.early)
  (hr:∀ w₁:World,(execOp a.eval o).run P w₁=.ok (.value (.pointer (some ⟨w₁.heap.size,0,none⟩))) (w₁.alloc (.cells c t))∧(execOp a.eval o).events P w₁ #[]=#[]) (hg:HGn P h F E (w.alloc (.cells c t)) n (G (fr.at (a.put o.dst (.pointer (some ⟨w.heap.size,0,none⟩))) (.inRegion ops rest :: k)) cs)) :
  HGn P h F E w (n+1) (G (fr.at a (.inRegion ops (i :: rest) :: k)) cs):=by
 refine HG.open fun E1 w1 hA ⟨gs,T,q,C,_⟩=>?_
 have hAw:=hA.2
 have hW1:E1.W=E.W:=hA.1.W'
 refine (HG.clo P h F E1).own rfl fun w₂ h2=>?_
 obtain ⟨e1,e2⟩:=hr w₂
 have hsz:w₂.heap.size=w.heap.size:=h2.size.trans hAw.size
 have hget:∀ b,b < w₂.heap.size→(w₂.alloc (.cells c t)).heap[b]?=w₂.heap[b]?:=fun b hb=>alloc_old hb
 refine ⟨G (fr.at (a.put o.dst (.pointer (some ⟨w.heap.size,0,none⟩))) (.inRegion ops rest :: k)) cs,w₂.alloc (.cells c t),#[],?_,⟨by rw [alloc_size]; omega,fun a' ⟨i,hi⟩=>?_,fun c' ⟨i,home,hi⟩=>?_,fun b hb x st sm e' hx=>?_,fit_alloc,fun ev he=>by simp at he,⟨rfl,rfl⟩⟩,?_⟩
 ·rw [stepG_value ho hw hk e1]
  unfold listed
  rw [e2,seen_none,hsz]
 ·have hl:a'.block < w₂.heap.size:=by rw [h2.size]; exact C.S_lt hi
  unfold World.cell?
  rw [hget _ hl]
 ·have hih:i≠h:=fun z=>by
   subst z
   have:=hA.1.roleH
   rw [hi,hrole] at this
   cases this
  obtain ⟨k',hk'⟩:=C.chans i c' home hih (C.seat_lt hi) hi
  exact hget _ (by rw [h2.size]; exact (Array.getElem?_eq_some_iff.1 hk').1)
 ·exact ⟨x,by rw [hget _ (Array.getElem?_eq_some_iff.1 hx).1]; exact hx⟩
 ·have hA2:Aw E.W (w.alloc (.cells c t)) (w₂.alloc (.cells c t)):=aw_alloc (hAw.trans _ _ _ (by rw [← hW1]; exact h2)) hWn
  exact (show HG P h F E _ _ from hg).at ⟨hA.1,hA2⟩
end
theorem Idl.none {P:Program} {main:Bool} {A:Nat→Goroutine→Prop} {n:Nat} {b:Frame} {a:Act} {k:List Item} {cs:List Frame} {ops:Array Oper} {i:Nat} {rest:List Nat} {o:Oper} (I:Idl P main A) (ho:ops[i]?=some o) (hw:Region.wanted o (yielded ops a.tmps)=true) (hk:b.kind≠.early)
  (hr:∀ w,(execOp a.eval o).run P w=.ok .skip w) (he:∀ w,(execOp a.eval o).events P w #[]=#[]) (hg:A n (G (b.at (a.put o.dst undef) (.inRegion ops rest :: k)) cs)):A (n+1) (G (b.at a (.inRegion ops (i :: rest) :: k)) cs) :=
 I.step _ _ _ rfl (fun w=>by rw [stepG_none ho hw hk (hr w)]; unfold listed; rw [he w,seen_none]) hg
theorem ev_neq_any (w:World) (es:Array Event):(binOp .neq 20 .nilIface .nilIface).events Try.prog w es=es:=by kernel_rfl
theorem run_neq_any (w:World):(binOp .neq 20 .nilIface .nilIface).run Try.prog w=.ok (.bool false) w:=by kernel_rfl
theorem ev_neq_letGo (w:World) (es:Array Event):(binOp .neq 20 letGoV .nilIface).events Try.prog w es=es:=by kernel_rfl
theorem run_neq_letGo (w:World):(binOp .neq 20 letGoV .nilIface).run Try.prog w=.ok (.bool true) w:=by kernel_rfl
section
variable {j hr gb rb ct cs box:Nat} {en fr:Bool} {s p q:Int} {ty:TypeId} {E:Env} {w:World} {F:Machine→Trace→Prop} {home:Goroutine→Prop} {t2:Array Value} {d2:List Item}
theorem live1_ret (hG:w.heap[gb]?=some (gateObj rb ct cs en fr s p q ty)) (hW:E.W gb=false) (hbox:w.cell? ⟨box,0,none⟩=some (.pointer (some ⟨gb,0,none⟩))) (hWb:E.W box=false) (hrun:E.role hr=.seat cs home) (hne:hr≠j) (h0:0 < j) (hwg:E.wg j=some rb)
  (hnext:∀ E1 w1 k g₂,AtE j E w E1 w1→w1.heap[cs]?=some (.chan 0 #[] false k k false)→home g₂→HG Try.prog hr F (E1.setRole j (.ender rb)) (Go.Conc.served g₂ (.bool false)) (w1.setChan cs 0 #[] false (k+1) (k+1) false)) :
  HGn Try.prog j F E w 100 (entryD 118 Try.f118 #[.pointer (some ⟨box,0,none⟩)] [{ liveB.at ⟨t2,[dcall 117 #[.pointer (some (stZ rb))]]⟩ d2 with mode:=.returning },pseudo Try.prog]):=by
 simp only [entryD,Try.f118,Option.getD_some]
 walk_nrm
 have ev1:=ev_neq_any
 have ru1:=run_neq_any
 refine Idl.q (idl_hg Try.prog j F E w) (Idl.q (idl_hg Try.prog j F E w) (Idl.rg (idl_hg Try.prog j F E w) [0,1] rfl ?_))
 refine Idl.step (idl_hg Try.prog j F E w) _ _ _ rfl (fun _=>(stepG_recover_none rfl rfl rfl rfl rfl rfl)) ?_
 walk_nrm
 refine Idl.v (idl_hg Try.prog j F E w) ?_
 walk_nrm
 refine Idl.re (idl_hg Try.prog j F E w) (Idl.q (idl_hg Try.prog j F E w) (Idl.rg (idl_hg Try.prog j F E w) [0,1] rfl ?_))
 iterate 2 (refine Idl.v (idl_hg Try.prog j F E w) ?_; walk_nrm)
 refine Idl.re (idl_hg Try.prog j F E w) (Idl.cf (idl_hg Try.prog j F E w) rfl (Idl.sk (idl_hg Try.prog j F E w) (Idl.rg (idl_hg Try.prog j F E w) [0,1,2,3,4] rfl ?_)))
 refine HGn.ld hbox (fun z=>by rw [hWb] at z; cases z) rfl rfl (by first | decide | exact base_kind _ | exact baseD_kind _ | assumption) (fun w₁ hc₁=>⟨by go_simp,fun e he=>by (have he':=he; simp [go_sem,hc₁] at he'; exact he')⟩) ?_
 walk_nrm
 iterate 2 (refine Idl.v (idl_hg Try.prog j F E w) ?_; walk_nrm)
 refine HGn.ld (obj_cell hG (o:=2) rfl) (fun z=>by rw [hW] at z; cases z) rfl rfl (by first | decide | exact base_kind _ | exact baseD_kind _ | assumption) (fun w₁ hc₁=>⟨by go_simp,fun e he=>by (have he':=he; simp [go_sem,hc₁] at he'; exact he')⟩) ?_
 walk_nrm
 skip
 refine HG.give_end (n':=347) (es:=#[]) hne hrun rfl (fun w' _=>stepG_send rfl rfl (by exact Go.ConcR.Gen.baseD_kind _) rfl rfl rfl) (by simp) h0 hwg ?_ hnext
 rw [served_G]
 walk_nrm
 refine Idl.step (idl_ends Try.prog rb 0) _ _ _ rfl (fun _=>stepG_region_end) ?_
 refine Idl.step (idl_ends Try.prog rb 0) _ _ _ rfl (fun _=>stepG_end) ?_
 exact ends_live1 (.inl rfl)
theorem live1_off (hG:w.heap[gb]?=some (gateObj rb ct cs en fr s p q ty)) (hW:E.W gb=false) (hbox:w.cell? ⟨box,0,none⟩=some (.pointer (some ⟨gb,0,none⟩))) (hWb:E.W box=false) (hrole:E.role j=.gone) (hWn:E.W w.heap.size=false) (hrun:E.role hr=.seat cs home) (hne:hr≠j) (h0:0 < j) (hwg:E.wg j=some rb)
  (hnext:∀ E1 w1 k g₂,AtE j E (w.alloc (.cells #[] 111)) E1 w1→w1.heap[cs]?=some (.chan 0 #[] false k k false)→home g₂→HG Try.prog hr F (E1.setRole j (.ender rb)) (Go.Conc.served g₂ (.bool false)) (w1.setChan cs 0 #[] false (k+1) (k+1) false)) :
  HGn Try.prog j F E w 100 (entryD 118 Try.f118 #[.pointer (some ⟨box,0,none⟩)] [{ liveB.at ⟨t2,[dcall 117 #[.pointer (some (stZ rb))]]⟩ d2 with mode:=.panicking [{ v:=letGoV,recovered:=false }] },pseudo Try.prog]):=by
 simp only [entryD,Try.f118,Option.getD_some]
 walk_nrm
 have ev1:=ev_neq_letGo
 have ru1:=run_neq_letGo
 refine Idl.q (idl_hg Try.prog j F E w) (Idl.q (idl_hg Try.prog j F E w) (Idl.rg (idl_hg Try.prog j F E w) [0,1] rfl ?_))
 refine Idl.step (idl_hg Try.prog j F E w) _ _ _ rfl (fun _=>(stepG_recover rfl rfl rfl rfl rfl rfl)) ?_
 walk_nrm
 refine Idl.v (idl_hg Try.prog j F E w) ?_
 walk_nrm
 refine Idl.re (idl_hg Try.prog j F E w) (Idl.q (idl_hg Try.prog j F E w) (Idl.rg (idl_hg Try.prog j F E w) [0,1] rfl ?_))
 refine Idl.v (idl_hg Try.prog j F E w) ?_
 walk_nrm
 refine Idl.value (v:=.bool true) (idl_hg Try.prog j F E w) rfl rfl (by exact Go.ConcR.Gen.baseD_kind _) (fun w=>by kernel_rfl) (fun w=>by kernel_rfl) ?_
 walk_nrm
 refine Idl.re (idl_hg Try.prog j F E w) (Idl.ct (idl_hg Try.prog j F E w) rfl (Idl.q (idl_hg Try.prog j F E w) (Idl.rg (idl_hg Try.prog j F E w) [0,1,2,3,4,5,6,7] rfl ?_)))
 refine Idl.v (idl_hg Try.prog j F E w) ?_
 walk_nrm
 refine Idl.value (v:=.tuple #[.agg #[],.bool true]) (idl_hg Try.prog j F E w) rfl rfl (by exact Go.ConcR.Gen.baseD_kind _) (fun w=>by kernel_rfl) (fun w=>by kernel_rfl) ?_
 walk_nrm
 iterate 3 (refine Idl.v (idl_hg Try.prog j F E w) ?_; walk_nrm)
 refine HGn.mk (c:=#[]) (t:=111) hrole hWn rfl rfl (by exact Go.ConcR.Gen.baseD_kind _) (fun w₁=>⟨by kernel_rfl,by kernel_rfl⟩) ?_
 walk_nrm
 have hG':(w.alloc (.cells #[] 111)).heap[gb]?=some (gateObj rb ct cs en fr s p q ty):=by rw [alloc_old (Array.getElem?_eq_some_iff.1 hG).1]; exact hG
 have hbox':(w.alloc (.cells #[] 111)).cell? ⟨box,0,none⟩=some (.pointer (some ⟨gb,0,none⟩)):=by
  have hl:box < w.heap.size:=lt_of_cell hbox
  unfold World.cell? at hbox ⊢
  rw [alloc_old hl]; exact hbox
 generalize w.alloc (.cells #[] 111)=w' at hG' hbox' hnext ⊢
 refine Idl.none (idl_hg Try.prog j F E w') rfl rfl (by exact Go.ConcR.Gen.baseD_kind _) (fun w=>by kernel_rfl) (fun w=>by kernel_rfl) ?_
 walk_nrm
 refine Idl.v (idl_hg Try.prog j F E w') ?_
 walk_nrm
 refine Idl.re (idl_hg Try.prog j F E w') (Idl.q (idl_hg Try.prog j F E w') (Idl.rg (idl_hg Try.prog j F E w') [0,1] rfl ?_))
 iterate 2 (refine Idl.v (idl_hg Try.prog j F E w') ?_; walk_nrm)
 refine Idl.re (idl_hg Try.prog j F E w') (Idl.cf (idl_hg Try.prog j F E w') rfl (Idl.sk (idl_hg Try.prog j F E w') (Idl.rg (idl_hg Try.prog j F E w') [0,1,2,3,4] rfl ?_)))
 refine HGn.ld hbox' (fun z=>by rw [hWb] at z; cases z) rfl rfl (by first | decide | exact base_kind _ | exact baseD_kind _ | assumption) (fun w₁ hc₁=>⟨by go_simp,fun e he=>by (have he':=he; simp [go_sem,hc₁] at he'; exact he')⟩) ?_
 walk_nrm
 iterate 2 (refine Idl.v (idl_hg Try.prog j F E w') ?_; walk_nrm)
 refine HGn.ld (obj_cell hG' (o:=2) rfl) (fun z=>by rw [hW] at z; cases z) rfl rfl (by first | decide | exact base_kind _ | exact baseD_kind _ | assumption) (fun w₁ hc₁=>⟨by go_simp,fun e he=>by (have he':=he; simp [go_sem,hc₁] at he'; exact he')⟩) ?_
 walk_nrm
 skip
 refine HG.give_end (n':=347) (es:=#[]) hne hrun rfl (fun w' _=>stepG_send rfl rfl (by exact Go.ConcR.Gen.baseD_kind _) rfl rfl rfl) (by simp) h0 hwg ?_ hnext
 rw [served_G]
 walk_nrm
 refine Idl.step (idl_ends Try.prog rb 0) _ _ _ rfl (fun _=>stepG_region_end) ?_
 refine Idl.step (idl_ends Try.prog rb 0) _ _ _ rfl (fun _=>stepG_end) ?_
 exact ends_live1 (.inr ⟨_,rfl⟩)
end
section
variable {P:Program} {main:Bool} {A:Nat→Goroutine→Prop} {n:Nat} {b:Frame} {a:Act} {k:List Item} {cs:List Frame} {ops:Array Oper} {i:Nat} {rest:List Nat} {o:Oper} {f:FuncId} {fn:Func}
theorem Idl.unwindClo (I:Idl P main A) {todo:List Item} {ds:List Deferred} {args caps vs:Array Value} {md:FrameMode} (hmd:md≠.run) (hd:a.defers={ target:=.fn (.func f) caps,args:=args } :: ds) (hf:P.funcs[f]?=some fn) (hname:(fn.name == "runtime.NumGoroutine")=false) (hb:fn.body.isSome=true) (hv:args ++ caps=vs)
  (hg:A n (entryD f fn vs ({ b.at ⟨a.tmps,ds⟩ todo with mode:=md } :: cs))):A (n+1) (G { b.at a todo with mode:=md } cs):=by
 subst hv
 cases hb':fn.body with
 | none=>rw [hb'] at hb; cases hb
 | some c =>
   refine I.step _ _ _ rfl (fun w=>stepG_unwind_clo hmd hd hf hname hb') ?_
   unfold entryD at hg
   rw [hb'] at hg
   exact hg
theorem Idl.callClo (I:Idl P main A) {x:Operand} {as':Array Operand} {caps vs:Array Value} {ats:Array TypeId} (ho:ops[i]?=some o) (hw:Region.wanted o (yielded ops a.tmps)=true) (hk:b.kind≠.early) (hop:o.op=.call { callee:=.value x,args:=as',argTypes:=ats }) (hx:a.eval x=.func (.func f) #[] caps)
  (hf:P.funcs[f]?=some fn) (hname:(fn.name == "runtime.NumGoroutine")=false) (hb:fn.body.isSome=true) (hv:as'.map a.eval ++ caps=vs)
  (hg:A n (entry f fn vs (b.at a (.inRegion ops (i :: rest) :: k) :: cs))):A (n+1) (G (b.at a (.inRegion ops (i :: rest) :: k)) cs):=by
 subst hv
 cases hb':fn.body with
 | none=>rw [hb'] at hb; cases hb
 | some c =>
   refine I.step _ _ _ rfl (fun w=>stepG_call_clo ho hw hk hop hx hf hname hb') ?_
   unfold entry at hg
   rw [hb'] at hg
   exact hg
end
section
variable {P:Program} {h:Nat} {F:Machine→Trace→Prop} {E:Env} {w:World} {g:Goroutine}
theorem HG.hide {H':Nat→Option Nat} {S':Addr→Option Value} (hH:∀ b n,E.H b=some n→H' b=some n)
  (h2:∀ b n,H' b=some n→E.H b=some n∨(E.W b=false∧((∃ c e f,w.heap[b]?=some (.cells c e f))∨∃ c bf l s r m,w.heap[b]?=some (.chan c bf l s r m)))) (hS:∀ a v,E.St h a=some v→S' a=some v)
  (hS2:∀ a v,S' a=some v→E.St h a=some v∨(w.cell? a=some v∧E.W a.block=false∧∃ n,H' a.block=some n∧n≤a.off)) (hg:HG P h F { E with H:=H',St:=upd E.St h S' } g w):HG P h F E g w:=by
 intro E' w' gs T q sl ⟨hE,hA⟩ C ha
 have hC:=C.grow (H':=H') (S':=S') (by rw [hE.H']; exact hH) (by
  rw [hE.W']
  refine fit_grow (H:=E.H) (by have:=C.fit; rw [hE.H',hE.W'] at this; exact this) hH (fun b n e=>?_)
  rcases h2 b n e with z | ⟨z1,z2⟩
  ·exact .inl z
  ·rw [hA.heap b z1]; exact .inr z2) (by rw [hE.St']; exact hS) (fun a v e=>by
  rcases hS2 a v e with z | ⟨z1,z2,z3⟩
  ·have z':E'.St h a=some v:=by rw [hE.St']; exact z
   obtain ⟨n,n1,n2⟩:=C.hidS h a (by rw [z']; rfl)
   exact ⟨C.keep h a v z',C.dis h a (by rw [z']; rfl),n,hH _ _ (by rw [← hE.H']; exact n1),n2⟩
  ·refine ⟨?_,by rw [hE.W']; exact z2,z3⟩
   unfold World.cell?
   rw [hA.heap _ z2]
   exact z1)
 refine hg _ w' gs T q sl ⟨?_,hA⟩ hC ha
 have e1:upd E'.St h S'=upd E.St h S':=by rw [hE.St']
 exact ⟨⟨hE.seat,hE.gone,hE.roleH,fun x a v e=>(by rw [show (upd E'.St h S')=upd E.St h S' from e1]; exact e),hE.W,fun _ _ e=>e,hE.wg,hE.wgH,hE.wgS,hE.ex,hE.mode,hE.modeUp,hE.io⟩,hE.W',e1,rfl⟩
end
structure LiveRet (gb box rb:Nat) (b₀:Frame) (a₀:Act) (ops₀:Array Oper) (i₀:Nat) (rest₀:List Nat) (k₀:List Item) (cl:List Frame):Prop where
 ret:∀ {j hr ct cs:Nat} {en fr:Bool} {s p q:Int} {ty:TypeId} {E:Env} {w:World} {F:Machine→Trace→Prop} {home:Goroutine→Prop},w.heap[gb]?=some (gateObj rb ct cs en fr s p q ty)→E.W gb=false→w.cell? ⟨box,0,none⟩=some (.pointer (some ⟨gb,0,none⟩))→E.W box=false→E.role hr=.seat cs home→hr≠j→0 < j→E.wg j=some rb →
  (∀ E1 w1 k g₂,AtE j E w E1 w1→w1.heap[cs]?=some (.chan 0 #[] false k k false)→home g₂→HG Try.prog hr F (E1.setRole j (.ender rb)) (Go.Conc.served g₂ (.bool false)) (w1.setChan cs 0 #[] false (k+1) (k+1) false)) →
  HG Try.prog j F E (G (b₀.at (a₀.put ((ops₀[i₀]?).bind (·.dst)) (.tuple #[])) (.inRegion ops₀ rest₀ :: k₀)) cl) w
 off:∀ {j hr ct cs:Nat} {en fr:Bool} {s p q:Int} {ty:TypeId} {E:Env} {w:World} {F:Machine→Trace→Prop} {home:Goroutine→Prop},w.heap[gb]?=some (gateObj rb ct cs en fr s p q ty)→E.W gb=false→w.cell? ⟨box,0,none⟩=some (.pointer (some ⟨gb,0,none⟩))→E.W box=false→E.role hr=.seat cs home→hr≠j→0 < j→E.wg j=some rb →
  E.role j=.gone→E.W w.heap.size=false →
  (∀ E1 w1 k g₂,AtE j E (w.alloc (.cells #[] 111)) E1 w1→w1.heap[cs]?=some (.chan 0 #[] false k k false)→home g₂→HG Try.prog hr F (E1.setRole j (.ender rb)) (Go.Conc.served g₂ (.bool false)) (w1.setChan cs 0 #[] false (k+1) (k+1) false)) →
  HG Try.prog j F E (G { b₀.at a₀ (.inRegion ops₀ (i₀ :: rest₀) :: k₀) with mode:=.panicking [{ v:=letGoV,recovered:=false }] } cl) w
section
variable {j hr gb rb ct cs fb:Nat} {fn:Func} {caps:Array Value} {en fr:Bool} {s p q:Int} {ty:TypeId} {E:Env} {w:World} {F:Machine→Trace→Prop}
theorem live_start (hG:w.heap[gb]?=some (gateObj rb ct cs en fr s p q ty)) (hW:E.W gb=false) (hrole:E.role j=.gone) (hWn:E.W w.heap.size=false) (hf:Try.prog.funcs[fb]?=some fn) (hname:(fn.name == "runtime.NumGoroutine")=false) (hb:fn.body.isSome=true)
  (hbody:∀ {b₀:Frame} {a₀:Act} {ops₀:Array Oper} {i₀:Nat} {rest₀:List Nat} {k₀:List Item} {cl:List Frame},LiveRet gb w.heap.size rb b₀ a₀ ops₀ i₀ rest₀ k₀ cl→HG Try.prog j F E (entry fb fn (#[.pointer (some ⟨gb,0,none⟩)] ++ caps) (b₀.at a₀ (.inRegion ops₀ (i₀ :: rest₀) :: k₀) :: cl)) (w.alloc (.cells #[.pointer (some ⟨gb,0,none⟩)] 49))) :
  HGn Try.prog j F E w 100 (born Try.prog (dcall 73 #[.pointer (some ⟨gb,0,none⟩),.func (.func fb) #[] caps])):=by
 refine Idl.step (n:=99) (idl_hg Try.prog j F E w) _ _ rfl (fun w=>stepG_born Try.func73 (by kernel_rfl) (by rfl)) ?_
 simp only [entryD,Try.f73,Option.getD_some]
 walk_nrm
 refine Idl.q (idl_hg Try.prog j F E w) (Idl.rg (idl_hg Try.prog j F E w) [0] rfl ?_)
 refine HGn.mk (c:=#[.pointer (some ⟨gb,0,none⟩)]) (t:=49) hrole hWn rfl rfl (by exact Go.ConcR.Gen.baseD_kind _) (fun w₁=>⟨by kernel_rfl,by kernel_rfl⟩) ?_
 walk_nrm
 have hG':(w.alloc (.cells #[.pointer (some ⟨gb,0,none⟩)] 49)).heap[gb]?=some (gateObj rb ct cs en fr s p q ty):=by rw [alloc_old (Array.getElem?_eq_some_iff.1 hG).1]; exact hG
 have hbox':(w.alloc (.cells #[.pointer (some ⟨gb,0,none⟩)] 49)).cell? ⟨w.heap.size,0,none⟩=some (.pointer (some ⟨gb,0,none⟩)):=obj_cell alloc_new rfl
 generalize w.alloc (.cells #[.pointer (some ⟨gb,0,none⟩)] 49)=w' at hG' hbox' hbody ⊢
 generalize w.heap.size=box at *
 refine Idl.re (idl_hg Try.prog j F E w') (Idl.q (idl_hg Try.prog j F E w') (Idl.rg (idl_hg Try.prog j F E w') [0,1,2,3,4,5,6] rfl ?_))
 refine HGn.ld hbox' (fun z=>by rw [hWn] at z; cases z) rfl rfl (by first | decide | exact base_kind _ | exact baseD_kind _ | assumption) (fun w₁ hc₁=>⟨by go_simp,fun e he=>by (have he':=he; simp [go_sem,hc₁] at he'; exact he')⟩) ?_
 walk_nrm
 iterate 2 (refine Idl.v (idl_hg Try.prog j F E w') ?_; walk_nrm)
 refine HGn.ld (obj_cell hG' (o:=0) rfl) (fun z=>by rw [hW] at z; cases z) rfl rfl (by first | decide | exact base_kind _ | exact baseD_kind _ | assumption) (fun w₁ hc₁=>⟨by go_simp,fun e he=>by (have he':=he; simp [go_sem,hc₁] at he'; exact he')⟩) ?_
 walk_nrm
 iterate 2 (refine Idl.v (idl_hg Try.prog j F E w') ?_; walk_nrm)
 refine Idl.step (idl_hg Try.prog j F E w') _ _ _ rfl (fun _=>(stepG_defer rfl rfl (by exact Go.ConcR.Gen.baseD_kind _) rfl)) ?_
 walk_nrm
 refine Idl.re (idl_hg Try.prog j F E w') (Idl.q (idl_hg Try.prog j F E w') (Idl.rg (idl_hg Try.prog j F E w') [0,1] rfl ?_))
 refine Idl.v (idl_hg Try.prog j F E w') ?_
 walk_nrm
 refine Idl.step (idl_hg Try.prog j F E w') _ _ _ rfl (fun _=>(stepG_defer_clo rfl rfl (by exact Go.ConcR.Gen.baseD_kind _) rfl rfl)) ?_
 walk_nrm
 refine Idl.re (idl_hg Try.prog j F E w') (Idl.q (idl_hg Try.prog j F E w') (Idl.rg (idl_hg Try.prog j F E w') [0,1] rfl ?_))
 refine Idl.v (idl_hg Try.prog j F E w') ?_
 walk_nrm
 refine Idl.value (v:=.bool true) (idl_hg Try.prog j F E w') rfl rfl (by exact Go.ConcR.Gen.baseD_kind _) (fun w=>by kernel_rfl) (fun w=>by kernel_rfl) ?_
 walk_nrm
 refine Idl.re (idl_hg Try.prog j F E w') (Idl.ct (idl_hg Try.prog j F E w') rfl (Idl.rg (idl_hg Try.prog j F E w') [0,1,2] rfl ?_))
 refine Idl.v (idl_hg Try.prog j F E w') ?_
 walk_nrm
 refine HGn.ld hbox' (fun z=>by rw [hWn] at z; cases z) rfl rfl (by first | decide | exact base_kind _ | exact baseD_kind _ | assumption) (fun w₁ hc₁=>⟨by go_simp,fun e he=>by (have he':=he; simp [go_sem,hc₁] at he'; exact he')⟩) ?_
 walk_nrm
 refine Idl.callClo (fn:=fn) (vs:=#[.pointer (some ⟨gb,0,none⟩)] ++ caps) (idl_hg Try.prog j F E w') rfl rfl (by exact Go.ConcR.Gen.baseD_kind _) rfl rfl hf hname hb (by simp [Act.eval]) ?_
 refine hbody ⟨?_,?_⟩
 ·intro j hr ct cs en fr s p q ty E w F home hG hW hbox hWb hrun hne h0 hwg hnext
  walk_nrm
  change HGn Try.prog j F E w 120 _
  refine Idl.re (idl_hg Try.prog j F E w) (Idl.en (idl_hg Try.prog j F E w) ?_)
  refine Idl.unwindClo (fn:=Try.f118) (vs:=#[.pointer (some ⟨box,0,none⟩)]) (idl_hg Try.prog j F E w) (by simp) rfl Try.func118 (by kernel_rfl) (by rfl) (by simp) ?_
  exact live1_ret hG hW hbox hWb hrun hne h0 hwg hnext
 ·intro j hr ct cs en fr s p q ty E w F home hG hW hbox hWb hrun hne h0 hwg hrole hWn hnext
  change HGn Try.prog j F E w (119+1) _
  refine Idl.unwindClo (fn:=Try.f118) (vs:=#[.pointer (some ⟨box,0,none⟩)]) (idl_hg Try.prog j F E w) (by simp) rfl Try.func118 (by kernel_rfl) (by rfl) (by simp) ?_
  exact live1_off hG hW hbox hWb hrole hWn hrun hne h0 hwg hnext
end
structure Th where
 j:Nat
 gb:Nat
 ct:Nat
 cs:Nat
 box:Nat
structure Kept (j:Nat) (gb:Option Nat) (E:Env) (w:World) (E1:Env) (w1:World):Prop where
 le:E.Le j E1
 size:w.heap.size≤w1.heap.size
 heap:∀ b n,E.H b=some n→E.W b=false→gb≠some b→b < w.heap.size→w1.heap[b]?=w.heap[b]?
 heapW:∀ b,E.W b=true→∀ x st sm e,w.heap[b]?=some (runObj x st sm e)→∃ st' sm',w1.heap[b]?=some (runObj x st' sm' e)
 StN:∀ i a,E1.St i a≠none→E.St i a≠none∨w.heap.size≤a.block
 WN:∀ b,E1.W b=true→E.W b=true∨w.heap.size≤b
theorem Kept.refl (j:Nat) (gb:Option Nat) (E:Env) (w:World):Kept j gb E w E w:=⟨.refl j E,Nat.le_refl _,fun _ _ _ _ _ _=>rfl,fun _ _ x st sm e h=>⟨st,sm,h⟩,fun _ _ h=>.inl h,fun _ h=>.inl h⟩
theorem Kept.trans {j:Nat} {gb:Option Nat} {E E1 E2:Env} {w w1 w2:World} (a:Kept j gb E w E1 w1) (b:Kept j gb E1 w1 E2 w2):Kept j gb E w E2 w2:=by
 refine ⟨a.le.trans b.le,Nat.le_trans a.size b.size,fun c n hc hw hg hl=>?_,fun c hc x st sm e h=>?_,fun i ad h=>?_,fun c h=>?_⟩
 ·have hw1:E1.W c=false:=by
   cases e:E1.W c with
   | false=>rfl
   | true =>
     rcases a.WN c e with z | z
     ·rw [hw] at z; cases z
     ·omega
  rw [b.heap c n (a.le.H c n hc) hw1 hg (Nat.lt_of_lt_of_le hl a.size),a.heap c n hc hw hg hl]
 ·obtain ⟨st',sm',h1⟩:=a.heapW c hc x st sm e h
  exact b.heapW c (a.le.W c hc) x st' sm' e h1
 ·rcases b.StN i ad h with z | z
  ·exact a.StN i ad z
  ·exact .inr (Nat.le_trans a.size z)
 ·rcases b.WN c h with z | z
  ·exact a.WN c z
  ·exact .inr (Nat.le_trans a.size z)
theorem Kept.of_at {j:Nat} {gb:Option Nat} {E E1:Env} {w w1:World} (a:AtE j E w E1 w1):Kept j gb E w E1 w1 :=
 ⟨a.1.toLe,Nat.le_of_eq a.2.size.symm,fun b n _ hw _ _=>a.2.heap b hw,fun b hb x st sm e h=>a.2.run b hb x st sm e h,fun i ad h=>.inl (by rw [← a.1.St']; exact h),fun b h=>.inl (by rw [← a.1.W']; exact h)⟩
theorem Kept.weaken {j:Nat} {gb:Option Nat} {E E1:Env} {w w1:World} (a:Kept j none E w E1 w1):Kept j gb E w E1 w1 :=
 ⟨a.le,a.size,fun b n hb hw _ hl=>a.heap b n hb hw (by simp) hl,a.heapW,a.StN,a.WN⟩
theorem Kept.W_false {j:Nat} {gb:Option Nat} {E E1:Env} {w w1:World} (a:Kept j gb E w E1 w1) {b:Nat} (hl:b < w.heap.size) (h:E.W b=false):E1.W b=false:=by
 cases e:E1.W b with
 | false=>rfl
 | true =>
   rcases a.WN b e with z | z
   ·rw [h] at z; cases z
   ·omega
structure Prot (σ Λ:Type) where
 M:σ→Env→World→Prop
 next:Λ→Int→σ→σ × Option Λ→Prop
 fits:Λ→σ→Prop
 who:Λ→Nat
 init:Nat→σ→Prop
 mono:∀ l k s s' o l2,fits l s→fits l2 s→who l2≠who l→next l k s (s',o)→fits l2 s'
 fresh:∀ l k s s' l',fits l s→next l k s (s',some l')→fits l' s'∧who l'=who l
 tal:Λ→Int × Int × Int
 closed:∀ s E w E' w',M s E w→(∀ b,b < w.heap.size→E.H b=none→E'.H b=none∧w'.heap[b]?=w.heap[b]?)→M s E' w'
 lax:Prop:=False
def GA (w:World) (rb:Nat) (th:Th) (en fr:Bool) (tl:Int × Int × Int):Prop:=w.heap[th.gb]?=some (gateObj rb th.ct th.cs en fr tl.1 tl.2.1 tl.2.2 108)
structure TKn (h rb:Nat) (home:Goroutine→Prop) (k:Int) (th:Th) (E:Env) (w:World):Prop where
 run:E.role h=.seat th.cs home
 hj:h≠th.j
 j0:0 < th.j
 role:E.role th.j=.gone
 wg:E.wg th.j=some rb
 gW:E.W th.gb=false
 gH:E.H th.gb=some 1
 ctH:E.H th.ct=some 0
 ctW:E.W th.ct=false
 ctC:∃ k',w.heap[th.ct]?=some (.chan 0 #[] false k' k' false)
 stT:E.St th.j ⟨th.gb,1,none⟩=some (.chan (some th.ct))
 stB:E.St th.j ⟨th.box,0,none⟩=some (.pointer (some ⟨th.gb,0,none⟩))
 bW:E.W th.box=false
 bL:th.box < w.heap.size
 gL:th.gb < w.heap.size
 noSt:∀ i o,3≤o→E.St i ⟨th.gb,o,none⟩=none
 noT:∀ x home,x≠th.j→E.role x≠.seat th.ct home
 rW:E.W rb=true
 rL:Live rb w
 pick:w.cell? ⟨rb,0,none⟩=some (.int .i64 k)
 mode:∀ b,E.mode b=0
theorem live_kept {j:Nat} {gb:Option Nat} {E E1:Env} {w w1:World} (a:Kept j gb E w E1 w1) {rb:Nat} (hW:E.W rb=true) (h:Live rb w):Live rb w1:=by
 obtain ⟨st,sm,x,e,hx⟩:=h
 obtain ⟨st',sm',h1⟩:=a.heapW rb hW x st sm e hx
 exact ⟨st',sm',x,e,h1⟩
theorem pick_kept {j:Nat} {gb:Option Nat} {E E1:Env} {w w1:World} (a:Kept j gb E w E1 w1) {rb:Nat} {v:Value} (hW:E.W rb=true) (h:Live rb w) (hc:w.cell? ⟨rb,0,none⟩=some v):w1.cell? ⟨rb,0,none⟩=some v:=by
 obtain ⟨st,sm,x,e,hx⟩:=h
 obtain ⟨st',sm',h1⟩:=a.heapW rb hW x st sm e hx
 unfold World.cell? at hc ⊢
 rw [hx] at hc
 rw [h1]
 exact hc
theorem TKn.kept {h rb:Nat} {home:Goroutine→Prop} {k:Int} {th:Th} {E E1:Env} {w w1:World} (t:TKn h rb home k th E w) (a:Kept th.j (some th.gb) E w E1 w1) (hg:th.gb≠th.ct):TKn h rb home k th E1 w1:=by
 obtain ⟨k',hk'⟩:=t.ctC
 have hl:=(Array.getElem?_eq_some_iff.1 hk').1
 exact ⟨(a.le.seat _ _ _).1 t.run,t.hj,t.j0,a.le.roleH.trans t.role,by rw [a.le.wgH]; exact t.wg,a.W_false t.gL t.gW,a.le.H _ _ t.gH,a.le.H _ _ t.ctH,a.W_false hl t.ctW,
  ⟨k',by rw [a.heap _ 0 t.ctH t.ctW (fun e=>hg (Option.some.inj e)) hl]; exact hk'⟩,a.le.St _ _ _ t.stT,a.le.St _ _ _ t.stB,a.W_false t.bL t.bW,Nat.lt_of_lt_of_le t.bL a.size,Nat.lt_of_lt_of_le t.gL a.size,
  fun i o ho=>by
   cases e:E1.St i ⟨th.gb,o,none⟩ with
   | none=>rfl
   | some v =>
     rcases a.StN i _ (by rw [e]; simp) with z | z
     ·exact absurd (t.noSt i o ho) z
     ·have z':w.heap.size≤th.gb:=z
      have:=t.gL
      omega,
  fun x home' hx e=>t.noT x home' hx ((a.le.seat _ _ _).2 e),a.le.W _ t.rW,live_kept a t.rW t.rL,pick_kept a t.rW t.rL t.pick,fun b=>a.le.mode b (t.mode b)⟩
variable {σ Λ:Type}
def GAo (D:Prot σ Λ) (w:World) (rb:Nat) (th:Th):Option Λ→Prop
 | some ℓ=>GA w rb th false false (D.tal ℓ)
 | none=>∃ fr tl,GA w rb th false fr tl
def Back (D:Prot σ Λ) (h rb:Nat) (home:Goroutine→Prop) (th:Th) (F:Machine→Trace→Prop) (E:Env) (w:World) (s:σ) (o:Option Λ) (r:Role):Prop :=
 ∀ E1 w1 kk g₂,Kept th.j (some th.gb) E w E1 w1→D.M s E1 w1→GAo D w1 rb th o→w1.heap[th.cs]?=some (.chan 0 #[] false kk kk false)→home g₂→HG Try.prog h F (E1.setRole th.j r) (Go.Conc.served g₂ (.bool o.isSome)) (w1.setChan th.cs 0 #[] false (kk+1) (kk+1) false)
def roleOf (S:Λ→Goroutine→Prop) (rb:Nat) (th:Th):Option Λ→Role
 | some ℓ=>.seat th.ct (S ℓ)
 | none=>.ender rb
def Srv (D:Prot σ Λ) (rb:Nat) (th:Th):Nat→Λ→Goroutine→Prop
 | 0,_,_=>D.lax
 | n+1,ℓ,g₂=>∀ (h:Nat) (home:Goroutine→Prop) (k:Int) (F:Machine→Trace→Prop) (E:Env) (w:World) (s:σ),TKn h rb home k th E w→GA w rb th false false (D.tal ℓ)→D.M s E w→D.fits ℓ s →
   ((∀ s' o,D.next ℓ k s (s',o)→Back D h rb home th F E w s' o (roleOf (Srv D rb th n) rb th o))→HG Try.prog th.j F E (Go.Conc.served g₂ (.bool true)) w) ∧
   (Back D h rb home th F E w s none (.ender rb)→HG Try.prog th.j F E (Go.Conc.served g₂ (.bool false)) w)
def Born (D:Prot σ Λ) (t n:Nat) (start:σ→σ × Option Λ→Prop) (fb:FuncId) (fn:Func) (caps:Array Value):Prop :=
 ∀ (h rb:Nat) (home:Goroutine→Prop) (th:Th) (F:Machine→Trace→Prop) (E:Env) (w:World) (s:σ) (b₀:Frame) (a₀:Act) (ops₀:Array Oper) (i₀:Nat) (rest₀:List Nat) (k₀:List Item) (cl:List Frame),
  TKn h rb home 0 th E w→GA w rb th false false (0,0,0)→D.M s E w→D.init t s→LiveRet th.gb th.box rb b₀ a₀ ops₀ i₀ rest₀ k₀ cl →
  (∀ s' o,start s (s',o)→Back D h rb home th F E w s' o (roleOf (Srv D rb th n) rb th o))→HG Try.prog th.j F E (entry fb fn (#[.pointer (some ⟨th.gb,0,none⟩)] ++ caps) (b₀.at a₀ (.inRegion ops₀ (i₀ :: rest₀) :: k₀) :: cl)) w
theorem GA.kept {j:Nat} {E E1:Env} {w w1:World} {rb:Nat} {th:Th} {en fr:Bool} {tl:Int × Int × Int} (a:Kept j none E w E1 w1) (g:GA w rb th en fr tl) (hH:E.H th.gb=some 1) (hW:E.W th.gb=false):GA w1 rb th en fr tl:=by
 unfold GA at g ⊢
 rw [a.heap _ 1 hH hW (by simp) (Array.getElem?_eq_some_iff.1 g).1]; exact g
end Go.Proofs.Ytimlbbleblijnaa.Co
