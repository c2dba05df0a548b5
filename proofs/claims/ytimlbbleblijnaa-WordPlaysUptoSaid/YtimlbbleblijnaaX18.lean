/- Lemmas for the laws of this seat, laid together of PGea, PGdc, PGeb, PGec, PGcg, PGch. -/
import Derived.Test.YtimlbbleblijnaaX17
import Derived.Deep.RegionHeld3
import Derived.Deep.AppendLies

set_option linter.unusedVariables false
set_option linter.unusedSimpArgs false
set_option maxRecDepth 100000
set_option maxHeartbeats 4000000
namespace Go.Proofs.Ytimlbbleblijnaa.Co
open Go Go.Conc Go.RowKit
def nextF (picks:List Int) (drain:Bool) (n:Nat) (alive:Nat→Bool) (K nxt:Nat):Int × Nat × Nat :=
 if n=0 then (-2,K,nxt) else
 match picks[K]? with
 | some p=>(if alive (pickIx p n) then (pickIx p n:Int) else -1,K+1,nxt)
 | none=>if drain then (match nx alive n n nxt with
   | some t=>((t:Int),K+1,(t+1) % n)
   | none=>(-2,K,nxt)) else (-2,K,nxt)
def runCells (pv:Value) (drain:Bool) (K nxt:Nat):Obj:=.cells #[pv,.bool drain,.int .i64 (K:Int),.int .i64 (nxt:Int)] 89
structure RunTo (rb:Nat) (pv:Value) (drain:Bool) (K nxt:Nat) (x x':World):Prop where
 size:x'.heap.size=x.heap.size
 old:∀ b,b≠rb→x'.heap[b]?=x.heap[b]?
 run:x'.heap[rb]?=some (runCells pv drain K nxt)
 io:x'.os=x.os∧x'.tape=x.tape∧x'.output=x.output
theorem RunTo.set2 {rb:Nat} {pv:Value} {drain:Bool} {K nxt:Nat} {x x':World} (h:RunTo rb pv drain K nxt x x') (K':Nat):RunTo rb pv drain K' nxt x (x'.setCell ⟨rb,2,none⟩ (.int .i64 (K':Int))):=by
 refine ⟨by rw [← h.size]; simp [World.setCell],fun b hb=>by rw [heap_setCell_ne (a:=⟨rb,2,none⟩) (fun e=>hb e.symm)]; exact h.old b hb,?_,h.io⟩
 exact heap_set (a:=⟨rb,2,none⟩) (w:=x') rfl h.run
theorem RunTo.set3 {rb:Nat} {pv:Value} {drain:Bool} {K nxt:Nat} {x x':World} (h:RunTo rb pv drain K nxt x x') (n':Nat):RunTo rb pv drain K n' x (x'.setCell ⟨rb,3,none⟩ (.int .i64 (n':Int))):=by
 refine ⟨by rw [← h.size]; simp [World.setCell],fun b hb=>by rw [heap_setCell_ne (a:=⟨rb,3,none⟩) (fun e=>hb e.symm)]; exact h.old b hb,?_,h.io⟩
 exact heap_set (a:=⟨rb,3,none⟩) (w:=x') rfl h.run
theorem RunTo.drewN {rb:Nat} {pv:Value} {drain:Bool} {K nxt:Nat} {x x':World} (h:RunTo rb pv drain K nxt x x') (n:Nat):RunTo rb pv drain K nxt x (x'.drewN n):=⟨h.size,h.old,h.run,h.io⟩
theorem RunTo.drew {rb:Nat} {pv:Value} {drain:Bool} {K nxt:Nat} {x x':World} (h:RunTo rb pv drain K nxt x x'):RunTo rb pv drain K nxt x x'.drew:=⟨h.size,h.old,h.run,h.io⟩
theorem next_none {x:World} {rb eb K nxt:Nat} {pv:Value} {drain:Bool} (hr:x.heap[rb]?=some (runCells pv drain K nxt)) :
  Calls Try.prog 66 #[.pointer (some ⟨rb,0,none⟩),.slice (some ⟨eb,0,none⟩) 0 0] x fun e x'=>e=.returned (.int .i64 (-2))∧RunTo rb pv drain K nxt x x':=by
 have hR:RunTo rb pv drain K nxt x x:=⟨rfl,fun _ _=>rfl,hr,rfl,rfl,rfl⟩
 replace hR:=Lib.hid hR
 clear hr
 go_enter Try.func66,Try.ntmps66
 go_wp2
 go_ret
 exact ⟨rfl,hR.out⟩
theorem next_pick {x:World} {rb eb K nxt n np pcap pb po:Nat} {p:Int} {a:Bool} {drain:Bool} (hn0:0 < n) (hn:n≤8) (hK:K < np) (hnp:np≤1000000000000) (hp:-9223372036854775808≤p∧p≤9223372036854775807)
  (hr:x.heap[rb]?=some (runCells (.slice (some ⟨pb,po,none⟩) np pcap) drain K nxt)) (hc:x.cell? ⟨pb,po+K,none⟩=some (.int .i64 p)) (he:x.cell? ⟨eb,pickIx p n,none⟩=some (.bool (!a))) (d1:rb≠eb) :
  Calls Try.prog 66 #[.pointer (some ⟨rb,0,none⟩),.slice (some ⟨eb,0,none⟩) n n] x fun e x'=>e=.returned (.int .i64 (if a then (pickIx p n:Int) else -1))∧RunTo rb (.slice (some ⟨pb,po,none⟩) np pcap) drain (K+1) nxt x x':=by
 have hR:RunTo rb (.slice (some ⟨pb,po,none⟩) np pcap) drain K nxt x x:=⟨rfl,fun _ _=>rfl,hr,rfl,rfl,rfl⟩
 have hlt:=pickIx_lt p hn0
 have cl:=fun W=>round_any p n hn0 (by omega) hp W
 obtain ⟨t,ht⟩:∃ t,t=pickIx p n:=⟨_,rfl⟩
 rw [← ht] at he hlt cl ⊢
 have c0:x.cell? ⟨rb,0,none⟩=some (.slice (some ⟨pb,po,none⟩) np pcap):=obj_cell hr rfl
 have c2:x.cell? ⟨rb,2,none⟩=some (.int .i64 (K:Int)):=obj_cell hr rfl
 have hz:x.frozen? ⟨rb,2,none⟩=false:=obj_thaw hr 2
 have q0:¬ (n:Int)=0:=by omega
 have q0':((n:Int) == 0)=false:=by simp; omega
 have q1:(K:Int) < (np:Int):=by omega
 have q2:(0:Int)≤(K:Int):=by omega
 have q3:(0:Int)≤(t:Int):=by omega
 have q4:(t:Int) < (n:Int):=by omega
 have p1:decide ((K:Int) < (np:Int))=true:=decide_eq_true q1
 have hw:IntKind.i64.wrap ((K:Int)+1)=((K+1:Nat):Int):=by rw [IntKind.wrap_i64]; omega
 have hfin:∀ nq:Nat,RunTo rb (.slice (some ⟨pb,po,none⟩) np pcap) drain (K+1) nxt x ((x.drewN nq).setCell ⟨rb,2,none⟩ (.int .i64 ((K+1:Nat):Int))):=fun nq=>(hR.drewN nq).set2 (K+1)
 replace ht:=Lib.hid ht
 replace hR:=Lib.hid hR
 replace hr:=Lib.hid hr
 replace hfin:=Lib.hid hfin
 have hd1:eb≠rb:=fun e=>d1 e.symm
 cases a with
 | true =>
   go_enter Try.func66,Try.ntmps66
   go_wp2_with fail
   go_quiet (fail)
   go_wp2_with fail
   go_quiet ((go_at_call 26; exact (cl _).mono (fun _ _ h=>⟨h.1,_,h.2⟩)))
   go_wp2_with fail
   go_ret
   exact ⟨rfl,hfin.out _⟩
 | false =>
   go_enter Try.func66,Try.ntmps66
   go_wp2_with fail
   go_quiet (fail)
   go_wp2_with fail
   go_quiet ((go_at_call 26; exact (cl _).mono (fun _ _ h=>⟨h.1,_,h.2⟩)))
   go_wp2_with fail
   go_ret
   exact ⟨rfl,hfin.out _⟩
theorem nx_stop {alive:Nat→Bool} {n:Nat}:∀ {m x:Nat},x < n→(∀ j,j < m→alive ((x+j) % n)=false)→nx alive n m x=none
 | 0,_,_,_=>rfl
 | m+1,x,hx,h=>by
   have h0:=h 0 (by omega)
   rw [Nat.add_zero,Nat.mod_eq_of_lt hx] at h0
   rw [nx,h0]
   simp only [Bool.false_eq_true,if_false]
   refine nx_stop (Nat.mod_lt _ (by omega)) fun j hj=>?_
   rw [Nat.mod_add_mod,show x+1+j=x+(j+1) by omega]
   exact h (j+1) (by omega)
theorem nx_first {alive:Nat→Bool} {n:Nat}:∀ {m i x:Nat},x < n→i < m→(∀ j,j < i→alive ((x+j) % n)=false)→alive ((x+i) % n)=true→nx alive n m x=some ((x+i) % n)
 | 0,_,_,_,h,_,_=>absurd h (by omega)
 | m+1,0,x,hx,_,_,ha=>by
   have e:(x+0) % n=x:=by rw [Nat.add_zero,Nat.mod_eq_of_lt hx]
   rw [e] at ha ⊢
   rw [nx,if_pos ha]
 | m+1,i+1,x,hx,hi,h,ha=>by
   have h0:=h 0 (by omega)
   rw [Nat.add_zero,Nat.mod_eq_of_lt hx] at h0
   rw [nx,h0]
   simp only [Bool.false_eq_true,if_false]
   rw [nx_first (i:=i) (Nat.mod_lt _ (by omega)) (by omega) (fun j hj=>by
    rw [Nat.mod_add_mod,show x+1+j=x+(j+1) by omega]
    exact h (j+1) (by omega)) (by
    rw [Nat.mod_add_mod,show x+1+i=x+(i+1) by omega]
    exact ha),Nat.mod_add_mod,show x+1+i=x+(i+1) by omega]
theorem tmod_next (t n:Nat):(((t:Int)+1).tmod (n:Int))=(((t+1) % n:Nat):Int):=by
 rw [Int.tmod_eq_emod_of_nonneg (by omega)]
 push_cast
 rfl
theorem next_drain {x:World} {rb eb K nxt n np pcap:Nat} {pa:Option Addr} {alive:Nat→Bool} {drain:Bool} (hn0:0 < n) (hn:n≤8) (hK:np≤K) (hK2:K≤1000000000000000000) (hx:nxt < n)
  (hr:x.heap[rb]?=some (runCells (.slice pa np pcap) drain K nxt)) (he:∀ t,t < n→x.cell? ⟨eb,t,none⟩=some (.bool (!alive t))) (d1:rb≠eb) :
  Calls Try.prog 66 #[.pointer (some ⟨rb,0,none⟩),.slice (some ⟨eb,0,none⟩) n n] x fun e x'=>∃ r K' nxt',(r,K',nxt')=(if drain then (match nx alive n n nxt with | some t=>((t:Int),K+1,(t+1) % n) | none=>(-2,K,nxt)) else (-2,K,nxt))∧e=.returned (.int .i64 r)∧RunTo rb (.slice pa np pcap) drain K' nxt' x x':=by
 have hR:RunTo rb (.slice pa np pcap) drain K nxt x x:=⟨rfl,fun _ _=>rfl,hr,rfl,rfl,rfl⟩
 have c0:x.cell? ⟨rb,0,none⟩=some (.slice pa np pcap):=obj_cell hr rfl
 have c1:x.cell? ⟨rb,1,none⟩=some (.bool drain):=obj_cell hr rfl
 have c2:x.cell? ⟨rb,2,none⟩=some (.int .i64 (K:Int)):=obj_cell hr rfl
 obtain ⟨res,hres⟩:∃ res:Int × Nat × Nat,res=(if drain then (match nx alive n n nxt with | some t=>((t:Int),K+1,(t+1) % n) | none=>(-2,K,nxt)) else (-2,K,nxt)):=⟨_,rfl⟩
 rw [← hres]
 replace hres:=Lib.hid hres
 have q0:¬ (n:Int)=0:=by omega
 have q0':((n:Int) == 0)=false:=by simp; omega
 have q1:¬ (K:Int) < (np:Int):=by omega
 have p1:decide ((K:Int) < (np:Int))=false:=decide_eq_false q1
 replace hr:=Lib.hid hr
 replace he:=Lib.hid he
 replace hR:=Lib.hid hR
 replace hx:=Lib.hid hx
 go_enter Try.func66,Try.ntmps66
 go_wp2_with fail
 go_quiet (fail)
 go_wp2_with fail
 go_loopw [7,8] (fun iv tv wr=>∃ i:Nat,iv=.int .i64 (i:Int)∧i≤n∧(drain=false→i=0)∧Hid (∀ j,j < i→alive ((nxt+j) % n)=false)∧Hid (RunTo rb (.slice pa np pcap) drain K ((nxt+i) % n) x wr)) (fun iv _ _=>n+1 - natOfV iv)
 case atStart =>
  refine ⟨0,rfl,Nat.zero_le _,fun _=>rfl,fun j hj=>absurd hj (by omega),?_⟩
  show RunTo rb (.slice pa np pcap) drain K ((nxt+0) % n) x _
  rw [Nat.add_zero,Nat.mod_eq_of_lt hx.out]
  exact hR.out.drewN _
 case round =>
  obtain ⟨i,rfl,hi,hi0,hal,hrun⟩:=hrel
  have d1':wr.cell? ⟨rb,1,none⟩=some (.bool drain):=obj_cell hrun.out.run rfl
  have d2':wr.cell? ⟨rb,2,none⟩=some (.int .i64 (K:Int)):=obj_cell hrun.out.run rfl
  have d3':wr.cell? ⟨rb,3,none⟩=some (.int .i64 (((nxt+i) % n:Nat):Int)):=obj_cell hrun.out.run rfl
  have hz2:wr.frozen? ⟨rb,2,none⟩=false:=obj_thaw hrun.out.run 2
  have hz3:wr.frozen? ⟨rb,3,none⟩=false:=obj_thaw hrun.out.run 3
  obtain ⟨t,ht⟩:∃ t,t=(nxt+i) % n:=⟨_,rfl⟩
  have htn:t < n:=by rw [ht]; exact Nat.mod_lt _ hn0
  rw [← ht] at d3'
  have hct:wr.cell? ⟨eb,t,none⟩=some (.bool (!alive t)):=(World.cell?_of_block (hrun.out.old eb (fun e=>d1 e.symm))).trans (he.out t htn)
  have htm:=tmod_next t n
  obtain ⟨t1,ht1⟩:∃ t1,t1=(t+1) % n:=⟨_,rfl⟩
  rw [← ht1] at htm
  have hw1:IntKind.i64.wrap ((t:Int)+1)=(t:Int)+1:=by rw [IntKind.wrap_i64]; omega
  have hw2:IntKind.i64.wrap ((K:Int)+1)=((K+1:Nat):Int):=by rw [IntKind.wrap_i64]; omega
  have ht1':t1=(nxt+(i+1)) % n:=by rw [ht1,ht,Nat.mod_add_mod,Nat.add_assoc]
  replace ht:=Lib.hid ht
  replace ht1:=Lib.hid ht1
  replace ht1':=Lib.hid ht1'
  cases drain with
  | false =>
    obtain rfl:=hi0 rfl
    have e0:=hrun.out
    rw [Nat.add_zero,Nat.mod_eq_of_lt hx.out] at e0
    replace e0:=Lib.hid e0
    go_wp2_with fail
    go_ret
    exact ⟨-2,K,nxt,by rw [hres.out]; rfl,rfl,e0.out⟩
  | true =>
    by_cases hlt:i < n
    ·have g1:(i:Int) < (n:Int):=by omega
     have g2:(0:Int)≤(t:Int):=by omega
     have g3:(t:Int) < (n:Int):=by omega
     have g4:decide ((i:Int) < (n:Int))=true:=decide_eq_true g1
     have hS3:RunTo rb (.slice pa np pcap) true K t1 x (wr.setCell ⟨rb,3,none⟩ (.int .i64 (t1:Int))):=hrun.out.set3 t1
     have hS2:RunTo rb (.slice pa np pcap) true (K+1) t1 x ((wr.setCell ⟨rb,3,none⟩ (.int .i64 (t1:Int))).setCell ⟨rb,2,none⟩ (.int .i64 ((K+1:Nat):Int))):=hS3.set2 (K+1)
     replace hS3:=Lib.hid hS3
     replace hS2:=Lib.hid hS2
     have hd1:eb≠rb:=fun e=>d1 e.symm
     cases hav:alive t with
     | true =>
       rw [hav] at hct
       replace hav:=Lib.hid hav
       go_wp2_with fail
       go_ret
       refine ⟨(t:Int),K+1,t1,?_,rfl,hS2.out⟩
       simp only [hres.out,if_true]
       rw [nx_first (i:=i) hx.out hlt hal.out (by rw [← ht.out]; exact hav.out),← ht.out,ht1.out]
     | false =>
       rw [hav] at hct
       replace hav:=Lib.hid hav
       have hiw:IntKind.i64.wrap ((i:Int)+1)=((i+1:Nat):Int):=by rw [IntKind.wrap_i64]; omega
       go_wp2_with fail
       refine ⟨⟨i+1,by rw [Int.natCast_add]; rfl,by omega,fun h=>(by cases h),fun j hj=>?_,?_⟩,by simp [natOfV]; omega⟩
       ·by_cases hji:j < i
        ·exact hal.out j hji
        ·rw [show j=i by omega,← ht.out]; exact hav.out
       ·show RunTo _ _ _ _ _ _ _
        rw [← ht1'.out]
        exact hS3.out
    ·obtain rfl:i=n:=by omega
     have g1:¬ (i:Int) < (i:Int):=by omega
     have e0:=hrun.out
     rw [Nat.add_mod_right,Nat.mod_eq_of_lt hx.out] at e0
     replace e0:=Lib.hid e0
     go_wp2_with fail
     go_ret
     refine ⟨-2,K,nxt,?_,rfl,e0.out⟩
     simp only [hres.out,if_true]
     rw [nx_stop hx.out hal.out]
theorem next_any {x:World} {rb eb K nxt n pcap pb po:Nat} {pa:Option Addr} {picks:List Int} {alive:Nat→Bool} {drain:Bool} (hn:n≤8) (hK2:K≤1000000000000000000) (hnp:picks.length≤1000000000000) (hp64:∀ p ∈ picks,-9223372036854775808≤p∧p≤9223372036854775807) (hx:0 < n→nxt < n)
  (hr:x.heap[rb]?=some (runCells (.slice pa picks.length pcap) drain K nxt)) (hpa:picks≠[]→pa=some ⟨pb,po,none⟩) (hps:∀ i p,picks[i]?=some p→x.cell? ⟨pb,po+i,none⟩=some (.int .i64 p)) (he:∀ t,t < n→x.cell? ⟨eb,t,none⟩=some (.bool (!alive t))) (d1:rb≠eb) :
  Calls Try.prog 66 #[.pointer (some ⟨rb,0,none⟩),.slice (some ⟨eb,0,none⟩) n n] x fun e x'=>e=.returned (.int .i64 (nextF picks drain n alive K nxt).1)∧RunTo rb (.slice pa picks.length pcap) drain (nextF picks drain n alive K nxt).2.1 (nextF picks drain n alive K nxt).2.2 x x':=by
 unfold nextF
 by_cases hn0:n=0
 ·subst hn0
  rw [if_pos rfl]
  exact next_none hr
 ·rw [if_neg hn0]
  cases hp:picks[K]? with
  | some p =>
    have hlt:=(List.getElem?_eq_some_iff.1 hp).1
    obtain rfl:=hpa (by intro e; rw [e] at hlt; exact absurd hlt (Nat.not_lt_zero _))
    dsimp only
    exact next_pick (Nat.pos_of_ne_zero hn0) hn hlt hnp (hp64 p (List.mem_of_getElem? hp)) hr (hps K p hp) (he _ (pickIx_lt p (Nat.pos_of_ne_zero hn0))) d1
  | none =>
    dsimp only
    refine (next_drain (alive:=alive) (Nat.pos_of_ne_zero hn0) hn (List.getElem?_eq_none_iff.1 hp) hK2 (hx (Nat.pos_of_ne_zero hn0)) hr he d1).mono ?_
    rintro e x' ⟨r,K',nxt',h1,rfl,h2⟩
    rw [← h1]
    exact ⟨rfl,h2⟩
theorem info3:∃ i:TypeInfo,Try.prog.info? 3=some i∧i.zero=some (.int .i64 0)∧i.size=1∧i.bytes=8:=by
 have h:(Try.prog.info? 3).isSome=true:=by kernel_rfl
 obtain ⟨i,hi⟩:=Option.isSome_iff_exists.1 h
 have h2:(Try.prog.info? 3).map (fun i=>(i.zero,i.size,i.bytes))=some (some (.int .i64 0),1,8):=by kernel_rfl
 rw [hi] at h2
 simp only [Option.map_some,Option.some.injEq,Prod.mk.injEq] at h2
 exact ⟨i,hi,h2.1,h2.2.1,h2.2.2⟩
theorem made_eq (n:Nat):madeCells (Value.int .i64 0).cells n=((List.range n).map fun _=>Value.int .i64 0).toArray:=by
 apply Array.ext
 ·simp [madeCells]
 ·intro i h1 h2
  simp [madeCells,Value.cells,Nat.mod_one]
theorem make_at (n:Nat) (hn:n≤8) (x:World):(Instr.makeSlice 23 (.int .i64 (n:Int)) (.int .i64 (n:Int))).run Try.prog x=.ok (.slice (some ⟨x.heap.size,0,none⟩) n n) (x.alloc (.cells ((List.range n).map fun _=>Value.int .i64 0).toArray 3)):=by
 obtain ⟨i0,hi,hz,hs,hb⟩:=info3
 have h:=run_makeSlice (P:=Try.prog) (w:=x) 23 3 i0 _ Try.underlying23 hi hz .i64 .i64 (n:Int) (n:Int) (by omega) (Int.le_refl _) (by rw [hs,Int.toNat_natCast]; omega) (by rw [hb]; push_cast; omega) (by omega)
 rw [Int.toNat_natCast,hs,Nat.mul_one,made_eq n] at h
 exact h
end Go.Proofs.Ytimlbbleblijnaa.Co

namespace Go.Proofs.Ytimlbbleblijnaa.Co
open Go Go.Conc Go.RowKit
open Go.ConcN (sumTo upd sumTo_upd upd_ne upd_same sumTo_congr le_sumTo)
structure OpsX (x:World) (ta:Option Addr) (ba bo:Nat) (LA:Nat→Option Addr) (LC:Nat→Nat) (ts:List (List Op3)):Prop where
 ta:0 < ts.length→ta=some ⟨ba,bo,none⟩
 row:∀ i l,ts[i]?=some l→x.cell? ⟨ba,bo+i,none⟩=some (.slice (LA i) l.length (LC i))
 ops:∀ i l,ts[i]?=some l→l≠[]→∃ la lo,LA i=some ⟨la,lo,none⟩∧∀ j op,l[j]?=some op→x.cell? ⟨la,lo+j * 3,none⟩=some (.int .i64 op.1)∧x.cell? ⟨la,lo+j * 3+1,none⟩=some (.int .i64 op.2.1)∧x.cell? ⟨la,lo+j * 3+2,none⟩=some (.int .i64 op.2.2)
theorem OpsX.below {x x':World} {B:Nat} {ta:Option Addr} {ba bo:Nat} {LA:Nat→Option Addr} {LC:Nat→Nat} {ts:List (List Op3)} (h:OpsX x ta ba bo LA LC ts) (b:Below B x x') (hB:B=x.heap.size):OpsX x' ta ba bo LA LC ts:=by
 have hc:∀ {a:Addr} {v:Value},x.cell? a=some v→x'.cell? a=some v:=fun e=>(b.cell (by rw [hB]; exact World.block_lt_of_cell? x _ e)).trans e
 refine ⟨h.ta,fun i l hi=>hc (h.row i l hi),fun i l hi hne=>?_⟩
 obtain ⟨la,lo,e1,e2⟩:=h.ops i l hi hne
 exact ⟨la,lo,e1,fun j op hj=>⟨hc (e2 j op hj).1,hc (e2 j op hj).2.1,hc (e2 j op hj).2.2⟩⟩
structure RP (B rb ab eb:Nat) (pv:Value) (drain:Bool) (ts:List (List Op3)) (a:PA) (K nxt:Nat) (ov:Value) (x:World):Prop where
 run:x.heap[rb]?=some (runCells pv drain K nxt)
 at_:x.heap[ab]?=some (.cells ((List.range ts.length).map fun t=>.int .i64 (a.cnt t:Int)).toArray 3)
 en:x.heap[eb]?=some (.cells ((List.range ts.length).map fun t=>.bool (!(playG ts).alive a t)).toArray 4)
 out:x.ownsRow B 37 4 ov a.ms.length (mksV a.ms)
 n1:ov.ownBlock≠some rb
 n2:ov.ownBlock≠some ab
 n3:ov.ownBlock≠some eb
def RF (ts:List (List Op3)) (picks:List Int) (drain:Bool) (a:PA) (K nxt:Nat) (z:PA × Int):Prop :=
 (0 < ts.length∧((K≤picks.length∧nxt=0∧(if drain then (playG ts).Drn ((playG ts).picks (a,(K:Int)) (picks.drop K)) 0 z else z=(playG ts).picks (a,(K:Int)) (picks.drop K)))∨(picks.length≤K∧drain=true∧nxt < ts.length∧(playG ts).Drn (a,(K:Int)) nxt z)))∨(ts.length=0∧z=(a,(K:Int)))
theorem rf_next {ts:List (List Op3)} {picks:List Int} {drain:Bool} {a:PA} {K nxt:Nat} {z:PA × Int} (h:RF ts picks drain a K nxt z) {r:Int} {K' nxt':Nat} (hr:(r,K',nxt')=nextF picks drain ts.length ((playG ts).alive a) K nxt) :
  (r = -2∧z=(a,(K:Int))∧K'=K)∨(r = -1∧K'=K+1∧K < picks.length∧RF ts picks drain a K' nxt' z)∨(∃ t:Nat,r=(t:Int)∧t < ts.length∧(playG ts).alive a t=true∧K'=K+1∧RF ts picks drain ((playG ts).pick a t ((K:Int)+1)) K' nxt' z):=by
 unfold nextF at hr
 rcases h with ⟨hn,h⟩ | ⟨hn,rfl⟩
 ·rw [if_neg (by omega)] at hr
  rcases h with ⟨h1,h2,h3⟩ | ⟨h1,h2,h3,h4⟩
  ·subst h2
   cases hp:picks[K]? with
   | some p =>
     rw [hp] at hr
     have hlt:=(List.getElem?_eq_some_iff.1 hp).1
     have hdrop:picks.drop K=p :: picks.drop (K+1):=by
      rw [List.drop_eq_getElem_cons hlt]
      obtain ⟨_,e⟩:=List.getElem?_eq_some_iff.1 hp
      rw [e]
     have hpk:(playG ts).picks (a,(K:Int)) (picks.drop K)=(playG ts).picks ((if (playG ts).alive a (pickIx p ts.length)=true then (playG ts).pick a (pickIx p ts.length) ((K:Int)+1) else a),((K+1:Nat):Int)) (picks.drop (K+1)):=by
      rw [hdrop]
      unfold Game.picks
      rw [List.foldl_cons]
      rfl
     rw [hpk] at h3
     dsimp only at hr
     by_cases ha:(playG ts).alive a (pickIx p ts.length)=true
     ·rw [if_pos ha] at hr h3
      simp only [Prod.mk.injEq] at hr
      obtain ⟨rfl,rfl,rfl⟩:=hr
      exact .inr (.inr ⟨_,rfl,pickIx_lt p hn,ha,rfl,.inl ⟨hn,.inl ⟨by omega,rfl,h3⟩⟩⟩)
     ·rw [if_neg ha] at hr h3
      simp only [Prod.mk.injEq] at hr
      obtain ⟨rfl,rfl,rfl⟩:=hr
      exact .inr (.inl ⟨rfl,rfl,hlt,.inl ⟨hn,.inl ⟨by omega,rfl,h3⟩⟩⟩)
   | none =>
     rw [hp] at hr
     have hle:=List.getElem?_eq_none_iff.1 hp
     have hdrop:picks.drop K=[]:=List.drop_eq_nil_of_le hle
     rw [hdrop] at h3
     have hz:(playG ts).picks (a,(K:Int)) []=(a,(K:Int)):=rfl
     rw [hz] at h3
     dsimp only at hr
     cases drain with
     | false =>
       simp only [Bool.false_eq_true,if_false] at hr h3
       simp only [Prod.mk.injEq] at hr
       obtain ⟨rfl,rfl,rfl⟩:=hr
       exact .inl ⟨rfl,h3,rfl⟩
     | true =>
       simp only [if_true] at hr h3
       cases h3 with
       | stop h =>
         have h':nx ((playG ts).alive a) ts.length ts.length 0=none:=h
         rw [h'] at hr
         simp only [Prod.mk.injEq] at hr
         obtain ⟨rfl,rfl,rfl⟩:=hr
         exact .inl ⟨rfl,rfl,rfl⟩
       | @go _ _ t _ h d =>
         have h':nx ((playG ts).alive a) ts.length ts.length 0=some t:=h
         obtain ⟨b1,b2⟩:=nx_some hn h'
         rw [h'] at hr
         simp only [Prod.mk.injEq] at hr
         obtain ⟨rfl,rfl,rfl⟩:=hr
         exact .inr (.inr ⟨t,rfl,b1,b2,rfl,.inl ⟨hn,.inr ⟨by omega,rfl,Nat.mod_lt _ hn,d⟩⟩⟩)
  ·subst h2
   rw [List.getElem?_eq_none h1] at hr
   simp only [if_true] at hr
   cases h4 with
   | stop h =>
     have h':nx ((playG ts).alive a) ts.length ts.length nxt=none:=h
     rw [h'] at hr
     simp only [Prod.mk.injEq] at hr
     obtain ⟨rfl,rfl,rfl⟩:=hr
     exact .inl ⟨rfl,rfl,rfl⟩
   | @go _ _ t _ h d =>
     have h':nx ((playG ts).alive a) ts.length ts.length nxt=some t:=h
     obtain ⟨b1,b2⟩:=nx_some h3 h'
     rw [h'] at hr
     simp only [Prod.mk.injEq] at hr
     obtain ⟨rfl,rfl,rfl⟩:=hr
     exact .inr (.inr ⟨t,rfl,b1,b2,rfl,.inl ⟨hn,.inr ⟨by omega,rfl,Nat.mod_lt _ hn,d⟩⟩⟩)
 ·rw [if_pos hn] at hr
  simp only [Prod.mk.injEq] at hr
  obtain ⟨rfl,rfl,rfl⟩:=hr
  exact .inl ⟨rfl,rfl,rfl⟩
theorem rf_nxt {ts:List (List Op3)} {picks:List Int} {drain:Bool} {a:PA} {K nxt:Nat} {z:PA × Int} (h:RF ts picks drain a K nxt z) (hn:0 < ts.length):nxt < ts.length:=by
 rcases h with ⟨_,⟨_,rfl,_⟩ | ⟨_,_,h,_⟩⟩ | ⟨h,_⟩
 ·exact hn
 ·exact h
 ·omega
theorem picks_k {ts:List (List Op3)}:∀ (l:List Int) (a:PA × Int),((playG ts).picks a l).2=a.2+l.length
 | [],a=>by simp [Game.picks]
 | p :: l,a=>by
   have e:(playG ts).picks a (p :: l)=(playG ts).picks ((playG ts).pk a (pickIx p (playG ts).n)) l:=by
    unfold Game.picks
    rw [List.foldl_cons]
   rw [e,picks_k l]
   show a.2+1+_=_
   rw [List.length_cons]
   push_cast
   omega
theorem drn_k {ts:List (List Op3)} {a z:PA × Int} {x:Nat} (h:(playG ts).Drn a x z):a.2≤z.2:=by
 induction h with
 | stop _=>exact Int.le_refl _
 | go _ _ ih=>dsimp only at ih; omega
theorem rf_le {ts:List (List Op3)} {picks:List Int} {drain:Bool} {a:PA} {K nxt:Nat} {z:PA × Int} (h:RF ts picks drain a K nxt z):(K:Int)≤z.2:=by
 rcases h with ⟨_,⟨_,_,h⟩ | ⟨_,_,_,h⟩⟩ | ⟨_,rfl⟩
 ·have h1:=picks_k (ts:=ts) (picks.drop K) (a,(K:Int))
  dsimp only at h1
  cases drain with
  | true =>
    simp only [if_true] at h
    have:=drn_k h
    omega
  | false =>
    simp only [Bool.false_eq_true,if_false] at h
    rw [h]
    omega
 ·exact drn_k h
 ·exact Int.le_refl _
theorem info4:∃ i:TypeInfo,Try.prog.info? 4=some i∧i.zero=some (.bool false)∧i.size=1∧i.bytes=1:=by
 have h:(Try.prog.info? 4).isSome=true:=by kernel_rfl
 obtain ⟨i,hi⟩:=Option.isSome_iff_exists.1 h
 have h2:(Try.prog.info? 4).map (fun i=>(i.zero,i.size,i.bytes))=some (some (.bool false),1,1):=by kernel_rfl
 rw [hi] at h2
 simp only [Option.map_some,Option.some.injEq,Prod.mk.injEq] at h2
 exact ⟨i,hi,h2.1,h2.2.1,h2.2.2⟩
theorem made_b (n:Nat):madeCells (Value.bool false).cells n=((List.range n).map fun _=>Value.bool false).toArray:=by
 apply Array.ext
 ·simp [madeCells]
 ·intro i h1 h2
  simp [madeCells,Value.cells,Nat.mod_one]
theorem make_b (n:Nat) (hn:n≤8) (x:World):(Instr.makeSlice 90 (.int .i64 (n:Int)) (.int .i64 (n:Int))).run Try.prog x=.ok (.slice (some ⟨x.heap.size,0,none⟩) n n) (x.alloc (.cells ((List.range n).map fun _=>Value.bool false).toArray 4)):=by
 obtain ⟨i0,hi,hz,hs,hb⟩:=info4
 have h:=run_makeSlice (P:=Try.prog) (w:=x) 90 4 i0 _ Try.underlying90 hi hz .i64 .i64 (n:Int) (n:Int) (by omega) (Int.le_refl _) (by rw [hs,Int.toNat_natCast]; omega) (by rw [hb]; push_cast; omega) (by omega)
 rw [Int.toNat_natCast,hs,Nat.mul_one,made_b n] at h
 exact h
theorem row_cell {x:World} {b n t:Nat} {e:TypeId} {g:Nat→Value} (h:x.heap[b]?=some (.cells ((List.range n).map g).toArray e)) (ht:t < n):x.cell? ⟨b,t,none⟩=some (g t):=by
 refine obj_cell h ?_
 simp [ht]
def NxtR (ts:List (List Op3)) (picks:List Int) (drain:Bool) (a:PA) (r:Int) (K nxt:Nat) (z:PA × Int):Prop :=
 (r = -2∧z=(a,(K:Int)))∨(r = -1∧RF ts picks drain a K nxt z)∨∃ t:Nat,r=(t:Int)∧t < ts.length∧(playG ts).alive a t=true∧RF ts picks drain ((playG ts).pick a t (K:Int)) K nxt z
def rWt:Value→Nat
 | .int _ i=>if i = -2 then 0 else 1
 | _=>0
def kOf (rb:Nat) (w:World):Nat:=natOfV ((w.cell? ⟨rb,2,none⟩).getD undef)
theorem RP.kOf {B rb ab eb K nxt:Nat} {pv ov:Value} {ts:List (List Op3)} {drain:Bool} {a:PA} {x:World} (h:RP B rb ab eb pv drain ts a K nxt ov x):Co.kOf rb x=K:=by
 unfold Co.kOf
 rw [obj_cell h.run (o:=2) rfl]
 simp [natOfV]
theorem RP.next {B rb ab eb pcap pb po K nxt:Nat} {pa:Option Addr} {ts:List (List Op3)} {picks:List Int} {drain:Bool} {a:PA} {ov:Value} {x y:World} {z:PA × Int} (h:RP B rb ab eb (.slice pa picks.length pcap) drain ts a K nxt ov y) (hb:Below B x y) (hrb:B≤rb) (hf:RF ts picks drain a K nxt z) (hz2:z.2≤100000000000000) (hn:ts.length≤8) (hnp:picks.length≤100000000000) (hp64:∀ p ∈ picks,-9223372036854775808≤p∧p≤9223372036854775807)
  (hpa:picks≠[]→pa=some ⟨pb,po,none⟩) (hps:∀ i p,picks[i]?=some p→y.cell? ⟨pb,po+i,none⟩=some (.int .i64 p)) (d1:rb≠ab) (d2:rb≠eb) :
  Calls Try.prog 66 #[.pointer (some ⟨rb,0,none⟩),.slice (some ⟨eb,0,none⟩) ts.length ts.length] y fun e y'=>∃ r K' nxt',e=.returned (.int .i64 r)∧RP B rb ab eb (.slice pa picks.length pcap) drain ts a K' nxt' ov y'∧NxtR ts picks drain a r K' nxt' z∧(r≠-2→K'=K+1)∧K≤K'∧Below B x y'∧y'.heap.size=y.heap.size:=by
 have hle:=rf_le hf
 refine (next_any (alive:=(playG ts).alive a) hn (by omega) (by omega) hp64 (rf_nxt hf) h.run hpa hps (fun t ht=>row_cell h.en ht) d2).mono ?_
 rintro e y' ⟨rfl,hr⟩
 obtain ⟨r,K',nxt',hres⟩:∃ r K' nxt',(r,K',nxt')=nextF picks drain ts.length ((playG ts).alive a) K nxt:=⟨_,_,_,rfl⟩
 rw [← hres] at hr ⊢
 have hs:=rf_next hf hres
 refine ⟨r,K',nxt',rfl,⟨hr.run,(hr.old ab (fun e=>d1 e.symm)).trans h.at_,(hr.old eb (fun e=>d2 e.symm)).trans h.en,ownsRow_same h.out (fun g hg=>hr.old g (fun e=>h.n1 (by rw [← e]; exact hg))),h.n1,h.n2,h.n3⟩,?_,fun hne=>?_,?_,⟨?_,?_,?_,?_,?_⟩,hr.size⟩
 ·rcases hs with ⟨e1,e2,e3⟩ | ⟨e1,_,_,e2⟩ | ⟨t,e1,e2,e3,e4,e5⟩
  ·exact .inl ⟨e1,by rw [e2,e3]⟩
  ·exact .inr (.inl ⟨e1,e2⟩)
  ·refine .inr (.inr ⟨t,e1,e2,e3,?_⟩)
   rw [e4] at e5 ⊢
   push_cast
   exact e5
 ·rcases hs with ⟨e1,_⟩ | ⟨_,e2,_⟩ | ⟨t,_,_,_,e4,_⟩
  ·exact absurd e1 hne
  ·exact e2
  ·exact e4
 ·rcases hs with ⟨_,_,e3⟩ | ⟨_,e2,_⟩ | ⟨t,_,_,_,e4,_⟩ <;> omega
 ·exact hr.io.1.trans hb.os
 ·exact hr.io.2.1.trans hb.tape
 ·exact hr.io.2.2.trans hb.output
 ·have:=hb.size
  have:=hr.size
  omega
 ·intro b hbb
  rw [hr.old b (by omega)]
  exact hb.block b hbb
theorem sumTo_bound {f:Nat→Nat} {B:Nat}:∀ n,(∀ i,i < n→f i≤B)→sumTo n f≤n * B
 | 0,_=>Nat.zero_le _
 | n+1,h=>by
   have h1:=sumTo_bound n (fun i hi=>h i (by omega))
   have h2:=h n (by omega)
   have e:sumTo (n+1) f=sumTo n f+f n:=rfl
   rw [e,Nat.add_mul,Nat.one_mul]
   omega
theorem sumTo_zero:∀ n,sumTo n (fun _=>0)=0
 | 0=>rfl
 | n+1=>by
   have e:sumTo (n+1) (fun _=>0)=sumTo n (fun _=>0)+0:=rfl
   rw [e,sumTo_zero n]
theorem owns_form {x:World} {B e n:Nat} {v:Value} {xs:List Value} (h:x.ownsRow B e 1 v n xs):∃ aa cap,v=.slice aa n cap∧(0 < n→∃ g,aa=some ⟨g,0,none⟩∧B≤g∧∀ i u,xs[i]?=some u→x.cell? ⟨g,0+i,none⟩=some u):=by
 obtain ⟨h1,h2⟩:=h
 rcases h2 with ⟨rfl,rfl⟩ | ⟨g,cap,cur,rfl,hb,hg,c1,c2,c3,c4⟩
 ·exact ⟨none,0,rfl,fun h=>absurd h (by omega)⟩
 ·refine ⟨_,cap,rfl,fun _=>⟨g,rfl,hb,fun i u hu=>?_⟩⟩
  refine obj_cell hg ?_
  rw [← c4,List.getElem?_take] at hu
  split at hu
  ·rw [Nat.zero_add]
   simpa using hu
  ·cases hu
theorem owns_slice {x:World} {B e sz n:Nat} {v:Value} {xs:List Value} (h:x.ownsRow B e sz v n xs):∃ A cap,v=.slice A n cap:=by
 obtain ⟨h1,h2⟩:=h
 rcases h2 with ⟨rfl,rfl⟩ | ⟨g,cap,cur,rfl,hb,hg,c1,c2,c3,c4⟩
 ·exact ⟨none,0,rfl⟩
 ·exact ⟨_,cap,rfl⟩
theorem owns_lower {x:World} {B B' e sz n:Nat} {v:Value} {xs:List Value} (h:x.ownsRow B e sz v n xs) (hB:B'≤B):x.ownsRow B' e sz v n xs:=by
 obtain ⟨h1,h2⟩:=h
 refine ⟨h1,h2.imp id ?_⟩
 rintro ⟨g,cap,cur,e1,e2,r⟩
 exact ⟨g,cap,cur,e1,Nat.le_trans hB e2,r⟩
section
variable {h:Nat} {F:Machine→Trace→Prop} {E:Env} {w:World} {b₀:Frame} {a₀:Act} {ops₀:Array Oper} {i₀:Nat} {rest₀:List Nat} {k₀:List Item} {cl:List Frame}
end
section
variable {P:Program} {h:Nat} {F:Machine→Trace→Prop} {E:Env} {w:World} {n:Nat} {fr:Frame} {a:Act} {k:List Item} {cs:List Frame} {ops:Array Oper} {i:Nat} {rest:List Nat} {o:Oper}
theorem HGn.mkV {c:Array Value} {t:TypeId} (val:Nat→Value) (hrole:E.role h=.gone) (ho:ops[i]?=some o) (hw:Region.wanted o (yielded ops a.tmps)=true) (hk:fr.kind≠.early)
  (hr:∀ w₁:World,(execOp a.eval o).run P w₁=.ok (.value (val w₁.heap.size)) (w₁.alloc (.cells c t))∧(execOp a.eval o).events P w₁ #[]=#[]) (hg:(∀ b,w.heap.size≤b→E.H b=none)→E.W w.heap.size=false→HGn P h F E (w.alloc (.cells c t)) n (G (fr.at (a.put o.dst (val w.heap.size)) (.inRegion ops rest :: k)) cs)) :
  HGn P h F E w (n+1) (G (fr.at a (.inRegion ops (i :: rest) :: k)) cs):=by
 refine HG.withB fun hB _ _=>HG.withH fun hWH _=>?_
 have hWn:E.W w.heap.size=false:=by
  cases e:E.W w.heap.size with
  | false=>rfl
  | true=>have:=hWH _ e; rw [hB _ (Nat.le_refl _)] at this; cases this
 replace hg:=hg hB hWn
 refine HG.open fun E1 w1 hA ⟨gs,T,q,C,_⟩=>?_
 have hAw:=hA.2
 have hW1:E1.W=E.W:=hA.1.W'
 refine (HG.clo P h F E1).own rfl fun w₂ h2=>?_
 obtain ⟨e1,e2⟩:=hr w₂
 have hsz:w₂.heap.size=w.heap.size:=h2.size.trans hAw.size
 have hget:∀ b,b < w₂.heap.size→(w₂.alloc (.cells c t)).heap[b]?=w₂.heap[b]?:=fun b hb=>alloc_old hb
 refine ⟨G (fr.at (a.put o.dst (val w.heap.size)) (.inRegion ops rest :: k)) cs,w₂.alloc (.cells c t),#[],?_,⟨by rw [alloc_size]; omega,fun a' ⟨i,hi⟩=>?_,fun c' ⟨i,home,hi⟩=>?_,fun b hb x st sm e' hx=>?_,fit_alloc,fun ev he=>by simp at he,⟨rfl,rfl⟩⟩,?_⟩
 ·rw [stepG_value ho hw hk e1]
  unfold listed
  rw [e2,seen_none,hsz]
 ·have hl:a'.block < w₂.heap.size:=by rw [h2.size]; exact C.S_lt hi
  unfold World.cell?
  rw [hget _ hl]
 ·have hih:i≠h:=fun z=>by
   subst z
   have:=hA.1.roleH
   rw [hi,hrole] at this
   cases this
  obtain ⟨k',hk'⟩:=C.chans i c' home hih (C.seat_lt hi) hi
  exact hget _ (by rw [h2.size]; exact (Array.getElem?_eq_some_iff.1 hk').1)
 ·exact ⟨x,by rw [hget _ (Array.getElem?_eq_some_iff.1 hx).1]; exact hx⟩
 ·have hA2:Aw E.W (w.alloc (.cells c t)) (w₂.alloc (.cells c t)):=aw_alloc (hAw.trans _ _ _ (by rw [← hW1]; exact h2)) hWn
  exact (show HG P h F E _ _ from hg).at ⟨hA.1,hA2⟩
end
section
variable {h:Nat} {F:Machine→Trace→Prop} {E:Env} {w:World} {b₀:Frame} {a₀:Act} {ops₀:Array Oper} {i₀:Nat} {rest₀:List Nat} {k₀:List Item} {cl:List Frame}
end
end Go.Proofs.Ytimlbbleblijnaa.Co
