/- Lemmas for the laws of this seat, laid together of PIk, PIq, PIr, PWg. -/
import Derived.Test.YtimlbbleblijnaaV22
import Derived.Test.YtimlbbleblijnaaV23
import Derived.Test.YtimlbbleblijnaaV25

set_option linter.unusedVariables false
set_option linter.unusedSimpArgs false
set_option maxRecDepth 100000
set_option maxHeartbeats 4000000
namespace Go.Proofs.Ytimlbbleblijnaa.Co
open Go Go.Conc Go.RowKit
open Go.ConcN (sumTo upd sumTo_upd upd_ne upd_same sumTo_congr le_sumTo)
theorem advR_on {ops:List Int} {t:Nat} {k:Int} {i:Nat} {tl:Tl3} {s:RSt} {z:RSt × Option RL} (h:AdvR ops t k i tl s z):i≤ops.length→z.1.told=(onF ops t k (ops.length - i) i tl s.told).2.2 ∧
    ((z.2=some ⟨t,(onF ops t k (ops.length - i) i tl s.told).1,(onF ops t k (ops.length - i) i tl s.told).2.1⟩∧(onF ops t k (ops.length - i) i tl s.told).1 < ops.length)∨(z.2=none∧(onF ops t k (ops.length - i) i tl s.told).1=ops.length)):=by
  induction h with
  | @stop i tl s h =>
    intro hi
    rw [onF_stop h]
    exact ⟨rfl,.inr ⟨rfl,by dsimp only; omega⟩⟩
  | @step i tl s h =>
    intro hi
    rw [onF_step h]
    exact ⟨rfl,.inl ⟨rfl,(List.getElem?_eq_some_iff.1 h).1⟩⟩
  | @act i tl s c z h hc hz ih =>
    intro hi
    have hlt:=(List.getElem?_eq_some_iff.1 h).1
    have e:ops.length - i=(ops.length - (i+1))+1:=by omega
    rw [e,onF_act h hc]
    exact ih hlt
structure RPR (ts:List (List Int)) (x:RS RSt RL) (a:RA):Prop where
  len:x.1.length=ts.length
  told:x.2.1.told=a.told
  th:∀ t,t < ts.length→(∃ m,x.1[t]?=some (some (m,⟨t,a.at_ t,a.tl t⟩))∧a.at_ t < (opsOf ts t).length)∨(x.1[t]?=some none∧¬ a.at_ t < (opsOf ts t).length)
theorem run_sim {bb:Nat} {K:Nat→Obj→Prop} {L:List RT} {ts:List (List Int)} (hL:∀ t,opsR L t=opsOf ts t):Sim (runD bb K L) (runG ts) (RPR ts):=by
  refine ⟨fun x a h=>h.len,fun x a h t ht=>?_,fun x a x' t h ht ha hp=>?_,fun x a h=>⟨h.len,h.told,h.th⟩⟩
  · rcases h.th t ht with ⟨m,e1,e2⟩ | ⟨e1,e2⟩
    · rw [e1]; exact (decide_eq_true e2).symm
    · rw [e1]; exact (decide_eq_false e2).symm
  · have ht:t < ts.length:=ht
    rcases h.th t ht with ⟨m,e1,e2⟩ | ⟨e1,e2⟩
    · unfold PickR at hp
      rw [e1] at hp
      obtain ⟨n',s',o,hm,had,rfl⟩:=hp
      have had:AdvR (opsR L t) t (x.2.2+1) (a.at_ t+1) (IntKind.i64.wrap ((a.tl t).1+1),(a.tl t).2.1,(a.tl t).2.2) ⟨x.2.1.told,upd x.2.1.cnt t (a.at_ t+1)⟩ (s',o):=had
      rw [hL] at had
      obtain ⟨p1,p2⟩:=advR_on had (by omega)
      dsimp only at p1 p2
      rw [h.told] at p1 p2
      have htl:t < x.1.length:=by rw [h.len]; exact ht
      have hset:∀ (y:Option (Nat × RL)) t',(x.1.set t y)[t']?=if t'=t then some y else x.1[t']?:=fun y t'=>by
        by_cases e:t'=t
        · subst e
          rw [if_pos rfl,List.getElem?_set_self htl]
        · rw [if_neg e,List.getElem?_set_ne (Ne.symm e)]
      refine ⟨by simp [h.len],p1,fun t' ht'=>?_⟩
      dsimp only
      rw [hset]
      by_cases e:t'=t
      · subst e
        rw [if_pos rfl]
        have ea:((runG ts).pick a t' (x.2.2+1)).at_ t'=_:=upd_same ..
        have et:((runG ts).pick a t' (x.2.2+1)).tl t'=_:=upd_same ..
        rw [ea,et]
        rcases p2 with ⟨q1,q2⟩ | ⟨q1,q2⟩
        · rw [q1]
          exact .inl ⟨n',rfl,q2⟩
        · rw [q1]
          exact .inr ⟨rfl,by rw [q2]; omega⟩
      · rw [if_neg e]
        have ea:((runG ts).pick a t (x.2.2+1)).at_ t'=a.at_ t':=upd_ne _ _ e
        have et:((runG ts).pick a t (x.2.2+1)).tl t'=a.tl t':=upd_ne _ _ e
        rw [ea,et]
        exact h.th t' ht'
    · rw [e1] at ha; cases ha
def runBs (L:List RT) (V:Nat→Value) (l:List Nat):List (Body RSt RL):=l.map fun i=>⟨V i,(opsR L i).length,AdvR (opsR L i) i 0 0 (0,0,0)⟩
theorem run_startR {L:List RT} {ts:List (List Int)} {V:Nat→Value} (hL:∀ t,opsR L t=opsOf ts t):∀ (m i:Nat) (x x0:List (Option (Nat × RL)) × RSt),i+m=ts.length→StartR (runBs L V (List.range' i m)) x x0→x.1.length=i→x.2.told=(ra0 ts i).told →
    (∀ t,t < i→(∃ m,x.1[t]?=some (some (m,⟨t,(ra0 ts i).at_ t,(ra0 ts i).tl t⟩))∧(ra0 ts i).at_ t < (opsOf ts t).length)∨(x.1[t]?=some none∧¬ (ra0 ts i).at_ t < (opsOf ts t).length))→RPR ts (x0.1,x0.2,0) (ra0 ts ts.length)
  | 0,i,x,x0,hi,h,h1,h2,h4=>by
    cases h
    have e:i=ts.length:=by omega
    subst e
    exact ⟨h1,h2,h4⟩
  | m+1,i,x,x0,hi,h,h1,h2,h4=>by
    unfold runBs at h
    rw [List.range'_succ,List.map_cons] at h
    cases h with
    | @cons _ _ _ s' o _ hs ht =>
      dsimp only at hs ht
      rw [hL] at hs ht
      obtain ⟨p1,p2⟩:=advR_on hs (Nat.zero_le _)
      dsimp only at p1 p2
      rw [h2] at p1 p2
      have hget:∀ (y:Option (Nat × RL)) t,t < i+1→(x.1 ++ [y])[t]?=if t=i then some y else x.1[t]?:=fun y t ht=>by
        by_cases e:t=i
        · subst e
          rw [if_pos rfl,← h1,List.getElem?_append_right (Nat.le_refl _)]
          simp
        · rw [if_neg e,List.getElem?_append_left (by omega)]
      refine run_startR hL m (i+1) _ x0 (by omega) ht (by simp [h1]) (by rw [ra0_succ]; exact p1) (fun t hl=>?_)
      dsimp only
      rw [hget _ t hl,ra0_succ]
      by_cases e:t=i
      · subst e
        rw [if_pos rfl]
        have ea:(startRA ts (ra0 ts t) t).at_ t=_:=upd_same ..
        have et:(startRA ts (ra0 ts t) t).tl t=_:=upd_same ..
        rw [ea,et]
        rcases p2 with ⟨q1,q2⟩ | ⟨q1,q2⟩
        · rw [q1]
          exact .inl ⟨_,rfl,q2⟩
        · rw [q1]
          exact .inr ⟨rfl,by rw [q2]; omega⟩
      · rw [if_neg e]
        have ea:(startRA ts (ra0 ts i) i).at_ t=(ra0 ts i).at_ t:=upd_ne _ _ e
        have et:(startRA ts (ra0 ts i) i).tl t=(ra0 ts i).tl t:=upd_ne _ _ e
        rw [ea,et]
        exact h4 t (by omega)
theorem run_game {D:Prot RSt RL} {L:List RT} {ts:List (List Int)} {V:Nat→Value} {picks:List Int} {drain:Bool} {z:RSt × Int} (S:Sim D (runG ts) (RPR ts)) (hL:∀ t,opsR L t=opsOf ts t) (hz:RunR D (runBs L V (List.range ts.length)) picks drain ⟨[],fun _=>0⟩ z) :
    ∃ a',(runG ts).Run picks drain (ra0 ts ts.length) (a',z.2)∧z.1.told=a'.told:=by
  have hbl:(runBs L V (List.range ts.length)).length=(runG ts).n:=by simp [runBs,runG]
  have p1:∀ x0,StartR (runBs L V (List.range ts.length)) ([],⟨[],fun _=>0⟩) x0→RPR ts (x0.1,x0.2,0) (ra0 ts ts.length):=fun x0 hx0=>by
    rw [List.range_eq_range'] at hx0
    exact run_startR hL ts.length 0 _ x0 (by omega) hx0 rfl rfl (fun t ht=>absurd ht (Nat.not_lt_zero _))
  have p2:(runBs L V (List.range ts.length)).length=0→RPR ts ([],⟨[],fun _=>0⟩,0) (ra0 ts ts.length):=fun h0=>by
    have e:ts.length=0:=by rw [hbl] at h0; exact h0
    refine ⟨by dsimp only [List.length_nil]; omega,?_,fun t ht=>absurd ht (by omega)⟩
    rw [e]; rfl
  obtain ⟨a',st,hr,hg⟩:=Sim.run (R:=RPR ts) S hz hbl (ra0 ts ts.length) p1 p2
  exact ⟨a',hg,hr.told⟩
structure TldV (E:Env) (w:World) (v:Value) (ms:List Tld):Prop where
  row:w.ownsRow 0 117 5 v ms.length (tldsV ms)
  H:∀ g,v.ownBlock=some g→E.H g=none
theorem TldV.stands {E E':Env} {w w':World} {v:Value} {ms:List Tld} (h:TldV E w v ms) (S:Stands E w E' w'):TldV E' w' v ms:=by
  have k:∀ g,v.ownBlock=some g→E'.H g=none∧w'.heap[g]?=w.heap[g]?:=fun g hg=>by
    have hl:=(h.row.lt g hg).2
    obtain ⟨a1,a2⟩:=S g _ (h.H g hg) (Array.getElem?_eq_getElem hl)
    exact ⟨a1,by rw [a2,Array.getElem?_eq_getElem hl]⟩
  exact ⟨ownsRow_same h.row fun g hg=>(k g hg).2,fun g hg=>(k g hg).1⟩
theorem TldV.but {S:Nat→Prop} {E E':Env} {w w':World} {v:Value} {ms:List Tld} (h:TldV E w v ms) (hS:StandsBut S E w E' w') (hd:∀ g,v.ownBlock=some g→¬ S g):TldV E' w' v ms:=by
  have k:∀ g,v.ownBlock=some g→E'.H g=none∧w'.heap[g]?=w.heap[g]?:=fun g hg=>by
    have hl:=(h.row.lt g hg).2
    obtain ⟨a1,a2⟩:=hS g _ (hd g hg) (h.H g hg) (Array.getElem?_eq_getElem hl)
    exact ⟨a1,by rw [a2,Array.getElem?_eq_getElem hl]⟩
  exact ⟨ownsRow_same h.row fun g hg=>(k g hg).2,fun g hg=>(k g hg).1⟩
theorem TldV.toX {E:Env} {w x:World} {v:Value} {ms:List Tld} (h:TldV E w v ms) (hx:∀ b,E.H b=none→x.heap[b]?=w.heap[b]?):x.ownsRow 0 117 5 v ms.length (tldsV ms):=ownsRow_same h.row fun g hg=>hx g (h.H g hg)
theorem TldV.of_new {E E1:Env} {x' w':World} {B:Nat} {v:Value} {ms:List Tld} (h:x'.ownsRow B 117 5 v ms.length (tldsV ms)) (hn:∀ b,B≤b→E.H b=none) (hv:∀ b,E.H b=none→w'.heap[b]?=x'.heap[b]?) (hH:E1.H=E.H):TldV E1 w' v ms :=
  ⟨ownsRow_dn (ownsRow_same h fun g hg=>hv g (hn g (h.lt g hg).1)) (Nat.zero_le _),fun g hg=>by rw [hH]; exact hn g (h.lt g hg).1⟩
structure IntssL (E:Env) (w:World) (ta:Option Addr) (ba bo:Nat) (LA:Nat→Option Addr) (LC:Nat→Nat) (ts:List (List Int)):Prop where
  ta:0 < ts.length→ta=some ⟨ba,bo,none⟩
  row:∀ i l,ts[i]?=some l→w.cell? ⟨ba,bo+i,none⟩=some (.slice (LA i) l.length (LC i))∧E.H ba=none
  ops:∀ i l,ts[i]?=some l→l≠[]→∃ la lo,LA i=some ⟨la,lo,none⟩∧E.H la=none∧∀ j c,l[j]?=some c→w.cell? ⟨la,lo+j,none⟩=some (.int .i64 c)
theorem IntssL.stands {E E':Env} {w w':World} {ta:Option Addr} {ba bo:Nat} {LA:Nat→Option Addr} {LC:Nat→Nat} {ts:List (List Int)} (h:IntssL E w ta ba bo LA LC ts) (S:Stands E w E' w'):IntssL E' w' ta ba bo LA LC ts:=by
  refine ⟨h.ta,fun i l hi=>S.cell (h.row i l hi).1 (h.row i l hi).2,fun i l hi hne=>?_⟩
  obtain ⟨la,lo,e1,e2,e3⟩:=h.ops i l hi hne
  cases l with
  | nil=>exact absurd rfl hne
  | cons c r=>exact ⟨la,lo,e1,(S.cell (e3 0 c rfl) e2).2,fun j d hj=>(S.cell (e3 j d hj) e2).1⟩
theorem IntssL.toX {E:Env} {w x:World} {ta:Option Addr} {ba bo:Nat} {LA:Nat→Option Addr} {LC:Nat→Nat} {ts:List (List Int)} (h:IntssL E w ta ba bo LA LC ts) (hx:∀ b,E.H b=none→x.heap[b]?=w.heap[b]?):IntsTX x ta ba bo LA LC ts:=by
  refine ⟨h.ta,fun i l hi=>?_,fun i l hi hne=>?_⟩
  · obtain ⟨q1,q2⟩:=h.row i l hi
    exact (World.cell?_of_block (a:=⟨ba,bo+i,none⟩) (hx ba q2)).trans q1
  · obtain ⟨la,lo,e1,e2,e3⟩:=h.ops i l hi hne
    exact ⟨la,lo,e1,fun j c hj=>(World.cell?_of_block (a:=⟨la,lo+j,none⟩) (hx la e2)).trans (e3 j c hj)⟩
theorem IntssL.lt {E:Env} {w:World} {ta:Option Addr} {ba bo:Nat} {LA:Nat→Option Addr} {LC:Nat→Nat} {ts:List (List Int)} (h:IntssL E w ta ba bo LA LC ts) {i:Nat} {l:List Int} (hi:ts[i]?=some l):ba < w.heap.size:=World.block_lt_of_cell? w _ (h.row i l hi).1
def rtOf (LA:Nat→Option Addr) (LC:Nat→Nat) (ts:List (List Int)):List RT:=(List.range ts.length).map fun i=>⟨((LA i).map (·.block)).getD 0,((LA i).map (·.off)).getD 0,LA i,LC i,ts.getD i []⟩
theorem rtOf_len (LA:Nat→Option Addr) (LC:Nat→Nat) (ts:List (List Int)):(rtOf LA LC ts).length=ts.length:=by simp [rtOf]
theorem rtOf_get {LA:Nat→Option Addr} {LC:Nat→Nat} {ts:List (List Int)} {i:Nat} (hi:i < ts.length):(rtOf LA LC ts)[i]?=some ⟨((LA i).map (·.block)).getD 0,((LA i).map (·.off)).getD 0,LA i,LC i,ts.getD i []⟩:=by
  unfold rtOf
  rw [List.getElem?_map,List.getElem?_range hi]
  rfl
theorem rtOf_ops (LA:Nat→Option Addr) (LC:Nat→Nat) (ts:List (List Int)) (t:Nat):opsR (rtOf LA LC ts) t=opsOf ts t:=by
  unfold opsR opsOf
  by_cases h:t < ts.length
  · rw [rtOf_get h]
    simp [List.getD]
  · rw [List.getElem?_eq_none (by rw [rtOf_len]; omega),List.getElem?_eq_none (by omega)]
    rfl
theorem ops_lens {ts:List (List Int)} {N:Nat} (hl:∀ l ∈ ts,l.length≤N) (t:Nat):(opsOf ts t).length≤N:=by
  unfold opsOf
  cases e:ts[t]? with
  | none=>exact Nat.zero_le _
  | some l=>exact hl l (List.mem_of_getElem? e)
theorem ops_sum {ts:List (List Int)} {N:Nat} (hl:∀ l ∈ ts,l.length≤N) (hn:ts.length≤8):sumTo ts.length (fun t=>(opsOf ts t).length)≤8 * N:=by
  have h1:=sumTo_bound (f:=fun t=>(opsOf ts t).length) (B:=N) ts.length (fun i _=>ops_lens hl i)
  have h2:ts.length * N≤8 * N:=Nat.mul_le_mul_right _ hn
  omega
section
variable {h:Nat} {F:Machine→Trace→Prop} {E:Env} {w:World} {b₀:Frame} {a₀:Act} {ops₀:Array Oper} {i₀:Nat} {rest₀:List Nat} {k₀:List Item} {cl:List Frame}
theorem run_bodies {ts:List (List Int)} {picks:List Int} {drain:Bool} {tv v:Value} {ta pa:Option Addr} {ba bo cap B tbx bbx bb pb po pcap:Nat} {LA:Nat→Option Addr} {LC TB:Nat→Nat} {z:RA × Int} (htv:tv=.slice ta ts.length cap) (hT:IntssL E w ta ba bo LA LC ts) (hmd:MadeR E w B tbx bbx bb tv ts.length LA TB v) (hB:bb < B)
    (hlo:∀ i l,ts[i]?=some l→ba≠bb∧(l≠[]→∀ a,LA i=some a→a.block≠bb)) (hbb:w.heap[bb]?=some (.cells #[.slice none 0 0] 63)) (hbbH:E.H bb=none) (hpa:picks≠[]→pa=some ⟨pb,po,none⟩) (hpb:picks≠[]→pb≠bb) (hP:∀ i p,picks[i]?=some p→w.cell? ⟨pb,po+i,none⟩=some (.int .i64 p)∧E.H pb=none)
    (hl:∀ l ∈ ts,l.length≤100000000000) (hnp:picks.length≤1000000000000000) (hp64:∀ p ∈ picks,-9223372036854775808≤p∧p≤9223372036854775807) (hz:(runG ts).Run picks drain (ra0 ts ts.length) z) (hrole:E.role h=.gone) (hmode:∀ b,E.mode b=0)
    (hc:∀ E' w' mv,Kept h none E w E' w'→StandsBut (fun b=>b=bb) E w E' w'→w'.heap[bb]?=some (.cells #[mv] 63)→E'.H bb=none→TldV E' w' mv (rTl ts z)→HG Try.prog h F E' (G (b₀.at (a₀.put ((ops₀[i₀]?).bind (·.dst)) (.int .i64 (rK ts z))) (.inRegion ops₀ rest₀ :: k₀)) cl) w') :
    HG Try.prog h F E (entry 29 Try.f29 #[v,.slice pa picks.length pcap,.bool drain] (b₀.at a₀ (.inRegion ops₀ (i₀ :: rest₀) :: k₀) :: cl)) w:=by
  obtain ⟨aa,bcap,rfl,hvf⟩:=owns_form hmd.row
  by_cases h8:8 < ts.length
  · refine run_many h8 ?_
    have e1:rK ts z=0:=by unfold rK; rw [if_pos h8]
    have e2:rTl ts z=[]:=by unfold rTl; rw [if_pos h8]
    rw [e1] at hc
    exact hc E w _ (Kept.refl _ _ _ _) (fun b o _ h1 h2=>⟨h1,h2⟩) hbb hbbH ⟨by rw [e2]; exact ⟨by simp [tldsV],.inl ⟨rfl,rfl⟩⟩,fun g e=>by cases e⟩
  · have hN8:ts.length≤8:=by omega
    have e1:rK ts z=z.2:=by unfold rK; rw [if_neg h8]
    have e2:rTl ts z=z.1.told:=by unfold rTl; rw [if_neg h8]
    obtain ⟨L,hL⟩:∃ L,L=rtOf LA LC ts:=⟨_,rfl⟩
    obtain ⟨K,hKe⟩:∃ K:Nat→Obj→Prop,K=fun b o=>w.heap[b]?=some o∧E.H b=none∧b≠bb:=⟨_,rfl⟩
    have kc:∀ {a:Addr} {v:Value},w.cell? a=some v→E.H a.block=none→a.block≠bb→KC K a v:=fun h1 h2 h3=>by rw [hKe]; exact kc_of h1 h2 h3
    have hops:∀ t,opsR L t=opsOf ts t:=fun t=>by rw [hL]; exact rtOf_ops _ _ _ _
    have hget:∀ i,i < ts.length→ts[i]?=some (ts.getD i []):=fun i hi=>by simp [List.getD,List.getElem?_eq_getElem hi]
    have hbound:sumTo L.length (fun t=>(opsR L t).length)≤1000000000000:=by
      rw [hL,rtOf_len]
      have e:(fun t=>(opsR (rtOf LA LC ts) t).length)=fun t=>(opsOf ts t).length:=funext fun t=>by rw [rtOf_ops]
      rw [e]
      have:=ops_sum hl hN8
      omega
    have hRT:∀ i,i < ts.length→∀ a,LA i=some a→RTok K L bb tbx (TB i) bbx ba bo ts.length cap i ⟨a.block,a.off,LA i,LC i,ts.getD i []⟩:=fun i hi a ha=>by
      obtain ⟨q1,q2⟩:=hT.row i _ (hget i hi)
      obtain ⟨p1,p2⟩:=hlo i _ (hget i hi)
      have hta:=hT.ta (by omega)
      subst hta
      refine ⟨by rw [hL,rtOf_get hi,ha]; rfl,?_,kc (hmd.box i hi).1 (hmd.box i hi).2.1 (by have:=(hmd.box i hi).2.2; dsimp only; omega),kc hmd.cb hmd.cbH (by have:=hmd.le.2; dsimp only; omega),kc q1 q2 p1,fun j c hj=>?_,?_,hi⟩
      · have:=kc hmd.cx hmd.cxH (by have:=hmd.le.1; dsimp only; omega)
        rwa [htv] at this
      · have hj':(ts.getD i [])[j]?=some c:=hj
        have hne:ts.getD i []≠[]:=fun e=>by rw [e] at hj'; cases hj'
        obtain ⟨la,lo,r1,r2,r3⟩:=hT.ops i _ (hget i hi) hne
        rw [ha] at r1
        obtain rfl:=Option.some.inj r1
        exact ⟨ha,kc (r3 j c hj') r2 (p2 hne ⟨la,lo,none⟩ ha)⟩
      · have:=hl _ (List.mem_of_getElem? (hget i hi))
        dsimp only
        omega
    obtain ⟨V,hV⟩:∃ V,V=bodyV LA TB tbx bbx:=⟨_,rfl⟩
    obtain ⟨bs,hbs⟩:∃ bs,bs=runBs L V (List.range ts.length):=⟨_,rfl⟩
    have hbl:bs.length=ts.length:=by rw [hbs]; simp [runBs]
    have hbg:∀ i b,bs[i]?=some b→i < ts.length∧b=⟨V i,(opsR L i).length,AdvR (opsR L i) i 0 0 (0,0,0)⟩:=fun i b e=>by
      have hi:i < ts.length:=by rw [← hbl]; exact (List.getElem?_eq_some_iff.1 e).1
      refine ⟨hi,?_⟩
      rw [hbs] at e
      unfold runBs at e
      rw [List.getElem?_map,List.getElem?_range hi] at e
      exact (Option.some.inj e).symm
    have hM:RunM bb K L ⟨[],fun _=>0⟩ E w:=by
      refine ⟨hbbH,fun b o hk=>by rw [hKe] at hk; exact hk,⟨.slice none 0 0,hbb,⟨by simp [tldsV],.inl ⟨rfl,rfl⟩⟩,fun g e=>(by cases e)⟩,Nat.zero_le _,fun t=>Nat.zero_le _⟩
    rw [← hbl]
    refine run_holds (D:=runD bb K L) (s:=⟨[],fun _=>0⟩) (bs:=bs) (picks:=picks) (drain:=drain) (ba:=(aa.map (·.block)).getD 0) (bo:=0) (pb:=pb) (po:=po) (by rw [hbl]; exact hN8) hnp (fun b hb=>?_) (fun hne=>?_) hpa hp64 (fun s E' w' m i b hi=>?_) (fun s E' w' m i p hi=>?_) (fun i b hi=>?_) (fun i b hi=>?_) (fun _ _=>rfl) hrole hmode hM (fun z' E' w' hz' kk m=>?_)
    · obtain ⟨i,hi⟩:=List.mem_iff_getElem?.1 hb
      obtain ⟨hi',rfl⟩:=hbg i b hi
      have:=ops_lens hl i
      dsimp only
      rw [hops]
      omega
    · have:0 < ts.length:=by rw [← hbl]; exact List.length_pos_iff.2 hne
      obtain ⟨g,rfl,_⟩:=hvf this
      rfl
    · obtain ⟨hi',rfl⟩:=hbg i b hi
      obtain ⟨g,rfl,hg1,hg2⟩:=hvf (by omega)
      have h1:=hg2 i (V i) (by rw [List.getElem?_map,List.getElem?_range hi',hV]; rfl)
      have m':RunM bb K L s E' w':=m
      obtain ⟨k1,k2,_⟩:=m'.konst _ _ (kc h1 (hmd.rowH g rfl) (by dsimp only; omega))
      exact ⟨k1,k2⟩
    · have m':RunM bb K L s E' w':=m
      obtain ⟨q1,q2⟩:=hP i p hi
      obtain ⟨k1,k2,_⟩:=m'.konst _ _ (kc q1 q2 (hpb (fun e=>by rw [e] at hi; cases hi)))
      exact ⟨k1,k2⟩
    · obtain ⟨hi',rfl⟩:=hbg i b hi
      dsimp only
      cases hla:LA i with
      | none =>
        have eV:V i=.nilFunc:=by rw [hV]; unfold bodyV; rw [hla]; rfl
        have e0:opsR L i=[]:=by
          rw [hops,opsOf_get (hget i hi')]
          by_cases hne:ts.getD i []=[]
          · exact hne
          · obtain ⟨la,lo,r1,_⟩:=hT.ops i _ (hget i hi') hne
            rw [hla] at r1; cases r1
        rw [eV,e0]
        exact bornV_nil fun s=>AdvR.stop (Nat.zero_le _)
      | some a =>
        have eV:V i=.func (.func 78) #[] #[.pointer (some ⟨tbx,0,none⟩),.pointer (some ⟨TB i,0,none⟩),.pointer (some ⟨bbx,0,none⟩)]:=by rw [hV]; unfold bodyV; rw [hla]; rfl
        have P:=hRT i hi' a hla
        rw [eV]
        have:=rn_born P hbound
        rw [← P.o] at this
        exact bornV_clo (fb:=78) (fn:=Try.f78) Try.func78 rfl rfl this
    · obtain ⟨hi',rfl⟩:=hbg i b hi
      exact run_startOk i
    · have m':RunM bb K L z'.1 E' w':=m
      obtain ⟨mv,r1,r2,r3⟩:=m'.row
      rw [hbs] at hz'
      obtain ⟨a',hg,ht⟩:=run_game (run_sim hops) hops hz'
      have hdet:=Game.Run.det hg hz
      subst hdet
      dsimp only at e1 e2
      rw [e1] at hc
      refine hc E' w' mv kk (fun b o h0 h1 h2=>?_) r1 m'.bbH ?_
      · obtain ⟨k1,k2,_⟩:=m'.kobj b o (by rw [hKe]; exact ⟨h2,h1,h0⟩)
        exact ⟨k2,k1⟩
      · rw [e2,← ht]
        exact ⟨ownsRow_dn r2 (Nat.zero_le _),fun g hg=>(r3 g hg).1⟩
end
section
variable {h:Nat} {F:Machine→Trace→Prop} {E:Env} {w:World} {fr:Frame} {k:List Item} {cs:List Frame}
theorem HG.fstep {Fs:FuncId→Bool} (hC:Closed Try.prog Fs) {c:Code} (hq:quietCode Try.prog Fs c=true) {T:Array Value} (hk:fr.kind=.normal) {R:Array Value→World→World→Prop}
    (hwp:∀ x:World,x.heap.size=w.heap.size→(∀ b,E.H b=none→x.heap[b]?=w.heap[b]?)→c.wp Try.prog (fun e a' x'=>e=.normal∧a'.defers=[]∧(∀ b,b < x.heap.size→x'.heap[b]?=x.heap[b]?)∧R a'.tmps x x') ⟨T,[]⟩ x)
    (hc:∀ (E1:Env) (w1:World) (T':Array Value) (x x':World),Kept h none E w E1 w1→E1.H=E.H→x.heap.size=w.heap.size→(∀ b,E.H b=none→x.heap[b]?=w.heap[b]?)→(∀ b,E.H b=none→w1.heap[b]?=x'.heap[b]?)→(∀ b,w.heap.size≤b→E.H b=none)→Stands E w E1 w1→R T' x x'→HG Try.prog h F E1 (G (fr.at ⟨T',[]⟩ k) cs) w1) :
    HG Try.prog h F E (G (fr.at ⟨T,[]⟩ (.code c :: k)) cs) w:=by
  refine HG.quietS (h:=h) (fun _=>False) (fun _ z=>z.elim) hC (Q:=fun a' x x'=>R a'.tmps x x') hq hk rfl (fun x h1 h2=>Code.wp_mono (fun e a y hh=>⟨hh.1,hh.2.1,fun b hb _=>hh.2.2.1 b hb,hh.2.2.2⟩) (hwp x h1 h2)) (fun E1 w1 a1 x x' hE hd hxs hx hs' hx' hK hB hSo hR=>?_)
  obtain ⟨T',df⟩:=a1
  have hd':df=[]:=hd
  subst hd'
  refine hc E1 w1 T' x x' hK hE.H' hxs hx hx' hB (fun b o h1 h2=>⟨by rw [hE.H']; exact h1,?_⟩) hR
  have hl:=(Array.getElem?_eq_some_iff.1 h2).1
  rw [hx' b h1,hSo b (by omega) (fun z=>z),hx b h1]
  exact h2
end
section
variable {F:Machine→Trace→Prop} {E:Env} {w:World} {k:List Item}
end
noncomputable def yT0:Code:=Try.f8.body.getD .skip
noncomputable def yS0:Code:=match yT0 with | .seq x _=>x | _=>.skip
noncomputable def yT1:Code:=match yT0 with | .seq _ x=>x | _=>.skip
noncomputable def yS1:Code:=match yT1 with | .seq x _=>x | _=>.skip
noncomputable def yT2:Code:=match yT1 with | .seq _ x=>x | _=>.skip
noncomputable def yS2:Code:=match yT2 with | .seq x _=>x | _=>.skip
noncomputable def yT3:Code:=match yT2 with | .seq _ x=>x | _=>.skip
noncomputable def yS3:Code:=match yT3 with | .seq x _=>x | _=>.skip
noncomputable def yT4:Code:=match yT3 with | .seq _ x=>x | _=>.skip
noncomputable def yS4:Code:=match yT4 with | .seq x _=>x | _=>.skip
noncomputable def yT5:Code:=match yT4 with | .seq _ x=>x | _=>.skip
noncomputable def yS5:Code:=match yT5 with | .seq x _=>x | _=>.skip
noncomputable def yT6:Code:=match yT5 with | .seq _ x=>x | _=>.skip
noncomputable def yS6:Code:=match yT6 with | .seq x _=>x | _=>.skip
noncomputable def yT7:Code:=match yT6 with | .seq _ x=>x | _=>.skip
noncomputable def yS7:Code:=match yT7 with | .seq x _=>x | _=>.skip
noncomputable def yT8:Code:=match yT7 with | .seq _ x=>x | _=>.skip
noncomputable def yS8:Code:=match yT8 with | .seq x _=>x | _=>.skip
noncomputable def yT9:Code:=match yT8 with | .seq _ x=>x | _=>.skip
noncomputable def yS9:Code:=match yT9 with | .seq x _=>x | _=>.skip
noncomputable def yT10:Code:=match yT9 with | .seq _ x=>x | _=>.skip
noncomputable def yS10:Code:=match yT10 with | .seq x _=>x | _=>.skip
noncomputable def yT11:Code:=match yT10 with | .seq _ x=>x | _=>.skip
noncomputable def yS11:Code:=match yT11 with | .seq x _=>x | _=>.skip
noncomputable def yT12:Code:=match yT11 with | .seq _ x=>x | _=>.skip
theorem yT0_parts:yT0=.seq yS0 yT1:=by kernel_rfl
theorem yT1_parts:yT1=.seq yS1 yT2:=by kernel_rfl
theorem yT2_parts:yT2=.seq yS2 yT3:=by kernel_rfl
theorem yT3_parts:yT3=.seq yS3 yT4:=by kernel_rfl
theorem yT4_parts:yT4=.seq yS4 yT5:=by kernel_rfl
theorem yT5_parts:yT5=.seq yS5 yT6:=by kernel_rfl
theorem yT6_parts:yT6=.seq yS6 yT7:=by kernel_rfl
theorem yT7_parts:yT7=.seq yS7 yT8:=by kernel_rfl
theorem yT8_parts:yT8=.seq yS8 yT9:=by kernel_rfl
theorem yT9_parts:yT9=.seq yS9 yT10:=by kernel_rfl
theorem yT10_parts:yT10=.seq yS10 yT11:=by kernel_rfl
theorem yT11_parts:yT11=.seq yS11 yT12:=by kernel_rfl
theorem yT12_ret:yT12=.ret:=by kernel_rfl
theorem yS0_wp {f:Nat→Value} {x:World} {A0 A1 A3:Option Addr} {l0 c0 l1 c1 l3 c3:Nat} {b4:Bool} {Q:Exit→Act→World→Prop} (h0:f 0=.slice A0 l0 c0) (h1:f 1=.slice A1 l1 c1) (h3:f 3=.slice A3 l3 c3) (h4:f 4=.bool b4)
    (hQ:∀ T' x',T'.size=74→(∀ j,j < 23→j≠5→j≠6→j≠8→j≠9→j≠10→T'[j]?=some (f j))→T'[5]?=some (.pointer (some ⟨x.heap.size,0,none⟩))→T'[6]?=some (.pointer (some ⟨x.heap.size+1,0,none⟩))→T'[8]?=some (.pointer (some ⟨x.heap.size+2,0,none⟩))→T'[9]?=some (.pointer (some ⟨x.heap.size+3,0,none⟩))→x'=(((x.alloc (.cells #[.slice A0 l0 c0] 57)).alloc (.cells #[.slice A1 l1 c1] 57)).alloc (.cells #[.slice A3 l3 c3] 23)).alloc (.cells #[.bool b4] 4)→Q .normal ⟨T',[]⟩ x'):yS0.wp Try.prog Q ⟨(List.map f (List.range 74)).toArray,[]⟩ x:=by
  replace hQ:=Lib.hid hQ
  simp only [List.range,List.range.loop,List.map_cons,List.map_nil,h0,h1,h3,h4]
  simp only [yS0,yT0,Try.f8,Option.getD_some]
  go_wp2_with fail
  refine hQ.out _ _ (by simp) (fun j hj n5 n6 n8 n9 n10=>by
    match j,hj with
    | 0,_ | 1,_ | 2,_ | 3,_ | 4,_ | 7,_ | 11,_ | 12,_ | 13,_ | 14,_ | 15,_ | 16,_ | 17,_ | 18,_ | 19,_ | 20,_ | 21,_ | 22,_=>simp [h0,h1,h3,h4]
    | 5,_=>exact absurd rfl n5
    | 6,_=>exact absurd rfl n6
    | 8,_=>exact absurd rfl n8
    | 9,_=>exact absurd rfl n9
    | 10,_=>exact absurd rfl n10
    | j+23,h=>exact absurd h (by omega)) (by simp) (by simp) (by simp) (by simp) rfl
theorem yS2_wp {f:Nat→Value} {x:World} {v0 v2 v4:Value} {a1 a4:Nat} {PC:Ending→World→Prop} {Q:Exit→Act→World→Prop} (h5:f 5=.pointer (some ⟨a1,0,none⟩)) (h2:f 2=v2) (h9:f 9=.pointer (some ⟨a4,0,none⟩)) (k1:x.cell? ⟨a1,0,none⟩=some v0) (k4:x.cell? ⟨a4,0,none⟩=some v4) (hc:Calls Try.prog 38 #[v0,v2,v4] x PC) (hr:∀ e x',PC e x'→∃ A n c kk,e=.returned (.tuple #[.slice A n c,.int .i64 kk]))
    (hQ:∀ T' x',T'.size=74→(∀ j,j < 23→j≠12→j≠13→T'[j]?=some (f j))→(∃ A n c kk,PC (.returned (.tuple #[.slice A n c,.int .i64 kk])) x'∧T'[12]?=some (.slice A n c)∧T'[13]?=some (.int .i64 kk))→Q .normal ⟨T',[]⟩ x'):yS2.wp Try.prog Q ⟨(List.map f (List.range 74)).toArray,[]⟩ x:=by
  replace hQ:=Lib.hid hQ
  simp only [List.range,List.range.loop,List.map_cons,List.map_nil,h5,h2,h9]
  simp only [yS2,yT2,yT1,yT0,Try.f8,Option.getD_some]
  go_wp2_with fail
  refine hc.mono ?_
  rintro e x' he
  obtain ⟨A,n,c,kk,rfl⟩:=hr e x' he
  replace he:=Lib.hid he
  go_wp2_with fail
  refine hQ.out _ _ (by simp) (fun j hj n12 n13=>by
    match j,hj with
    | 0,_ | 1,_ | 2,_ | 3,_ | 4,_ | 5,_ | 6,_ | 7,_ | 8,_ | 9,_ | 10,_ | 11,_ | 14,_ | 15,_ | 16,_ | 17,_ | 18,_ | 19,_ | 20,_ | 21,_ | 22,_=>simp [h5,h2,h9]
    | 12,_=>exact absurd rfl n12
    | 13,_=>exact absurd rfl n13
    | j+23,h=>exact absurd h (by omega)) ⟨A,n,c,kk,he.out,by simp,by simp⟩
theorem yS3_wp {f:Nat→Value} {x:World} {v1 v3 v4:Value} {a2 a3 a4:Nat} {PC:Ending→World→Prop} {Q:Exit→Act→World→Prop} (h6:f 6=.pointer (some ⟨a2,0,none⟩)) (h8:f 8=.pointer (some ⟨a3,0,none⟩)) (h9:f 9=.pointer (some ⟨a4,0,none⟩)) (k2:x.cell? ⟨a2,0,none⟩=some v1) (k3:x.cell? ⟨a3,0,none⟩=some v3) (k4:x.cell? ⟨a4,0,none⟩=some v4) (hc:Calls Try.prog 38 #[v1,v3,v4] x PC) (hr:∀ e x',PC e x'→∃ A n c kk,e=.returned (.tuple #[.slice A n c,.int .i64 kk]))
    (hQ:∀ T' x',T'.size=74→(∀ j,j < 23→j≠14→j≠15→T'[j]?=some (f j))→(∃ y A n c kk,PC (.returned (.tuple #[.slice A n c,.int .i64 kk])) y∧T'[14]?=some (.pointer (some ⟨y.heap.size,0,none⟩))∧T'[15]?=some (.pointer (some ⟨y.heap.size+1,0,none⟩))∧(∀ b,b < y.heap.size→x'.heap[b]?=y.heap[b]?)∧x'.heap[y.heap.size]?=some (.cells #[.slice A n c] 58)∧x'.heap[y.heap.size+1]?=some (.cells #[.int .i64 kk] 3))→Q .normal ⟨T',[]⟩ x'):yS3.wp Try.prog Q ⟨(List.map f (List.range 74)).toArray,[]⟩ x:=by
  replace hQ:=Lib.hid hQ
  simp only [List.range,List.range.loop,List.map_cons,List.map_nil,h6,h8,h9]
  simp only [yS3,yT3,yT2,yT1,yT0,Try.f8,Option.getD_some]
  go_wp2_with fail
  refine hc.mono ?_
  rintro e y he
  obtain ⟨A,n,c,kk,rfl⟩:=hr e y he
  replace he:=Lib.hid he
  have m1:((y.alloc (.cells #[.slice none 0 0] 58)).alloc (.cells #[.int .i64 0] 3)).cell? ⟨y.heap.size,0,none⟩=some (.slice none 0 0):=obj_cell ((alloc_old (by rw [alloc_size]; omega)).trans alloc_new) rfl
  have z1:((y.alloc (.cells #[.slice none 0 0] 58)).alloc (.cells #[.int .i64 0] 3)).frozen? ⟨y.heap.size,0,none⟩=false:=obj_thaw ((alloc_old (by rw [alloc_size]; omega)).trans alloc_new) 0
  obtain ⟨W1,hW1⟩:∃ W,W=((y.alloc (.cells #[.slice none 0 0] 58)).alloc (.cells #[.int .i64 0] 3)).setCell ⟨y.heap.size,0,none⟩ (.slice A n c):=⟨_,rfl⟩
  have w1:W1.heap[y.heap.size]?=some (.cells #[.slice A n c] 58):=by rw [hW1]; exact heap_set (a:=⟨y.heap.size,0,none⟩) rfl ((alloc_old (b:=y.heap.size) (by rw [alloc_size]; omega)).trans alloc_new)
  have w2:W1.heap[y.heap.size+1]?=some (.cells #[.int .i64 0] 3):=by
    rw [hW1,heap_setCell_ne (a:=⟨y.heap.size,0,none⟩) (by dsimp only; omega)]
    have:=@alloc_new (y.alloc (.cells #[.slice none 0 0] 58)) (.cells #[.int .i64 0] 3)
    rwa [alloc_size] at this
  have w3:∀ b,b < y.heap.size→W1.heap[b]?=y.heap[b]?:=fun b hb=>by rw [hW1,heap_setCell_ne (a:=⟨y.heap.size,0,none⟩) (b:=b) (by dsimp only; omega),alloc_old (b:=b) (by rw [alloc_size]; omega),alloc_old hb]
  have m2:W1.cell? ⟨y.heap.size+1,0,none⟩=some (.int .i64 0):=obj_cell w2 rfl
  have z2:=obj_thaw w2 0
  replace w1:=Lib.hid w1
  replace w2:=Lib.hid w2
  replace w3:=Lib.hid w3
  have hW2:=hW1.symm
  replace hW1:=Lib.hid hW1
  go_wp2_with fail
  have hfin:∀ b,b < y.heap.size→(W1.setCell ⟨y.heap.size+1,0,none⟩ (.int .i64 kk)).heap[b]?=y.heap[b]?:=fun b hb=>by rw [heap_setCell_ne (a:=⟨y.heap.size+1,0,none⟩) (b:=b) (by dsimp only; omega)]; exact w3.out b hb
  have hf1:(W1.setCell ⟨y.heap.size+1,0,none⟩ (.int .i64 kk)).heap[y.heap.size]?=some (.cells #[.slice A n c] 58):=by rw [heap_setCell_ne (a:=⟨y.heap.size+1,0,none⟩) (b:=y.heap.size) (by dsimp only; omega)]; exact w1.out
  have hf2:(W1.setCell ⟨y.heap.size+1,0,none⟩ (.int .i64 kk)).heap[y.heap.size+1]?=some (.cells #[.int .i64 kk] 3):=heap_set (a:=⟨y.heap.size+1,0,none⟩) rfl w2.out
  try rw [hW2]
  refine hQ.out _ _ (by simp) (fun j hj n14 n15=>by
    match j,hj with
    | 0,_ | 1,_ | 2,_ | 3,_ | 4,_ | 5,_ | 6,_ | 7,_ | 8,_ | 9,_ | 10,_ | 11,_ | 12,_ | 13,_ | 16,_ | 17,_ | 18,_ | 19,_ | 20,_ | 21,_ | 22,_=>simp [h6,h8,h9]
    | 14,_=>exact absurd rfl n14
    | 15,_=>exact absurd rfl n15
    | j+23,h=>exact absurd h (by omega)) ⟨y,A,n,c,kk,he.out,by simp,by simp,hfin,hf1,hf2⟩
theorem yS4_wp {f:Nat→Value} {x:World}  {Q:Exit→Act→World→Prop}
    (hQ:∀ T' x',T'.size=74→(∀ j,j < 23→j≠16→T'[j]?=some (f j))→T'[16]?=some (.pointer (some ⟨x.heap.size+1,0,none⟩))→x'=(x.alloc (.cells #[.slice none 0 0] 63)).alloc (.cells #[.pointer (some ⟨x.heap.size,0,none⟩)] 61)→Q .normal ⟨T',[]⟩ x'):yS4.wp Try.prog Q ⟨(List.map f (List.range 74)).toArray,[]⟩ x:=by
  replace hQ:=Lib.hid hQ
  have w1:((x.alloc (.cells #[.slice none 0 0] 63)).alloc (.cells #[.pointer none] 61)).heap[x.heap.size+1]?=some (.cells #[.pointer none] 61):=by
    have:=@alloc_new (x.alloc (.cells #[.slice none 0 0] 63)) (.cells #[.pointer none] 61)
    rwa [alloc_size] at this
  have m1:=obj_cell (o:=0) w1 rfl
  have z1:=obj_thaw w1 0
  simp only [List.range,List.range.loop,List.map_cons,List.map_nil]
  simp only [yS4,yT4,yT3,yT2,yT1,yT0,Try.f8,Option.getD_some]
  go_wp2_with fail
  refine hQ.out _ _ (by simp) (fun j hj n16=>by
    match j,hj with
    | 0,_ | 1,_ | 2,_ | 3,_ | 4,_ | 5,_ | 6,_ | 7,_ | 8,_ | 9,_ | 10,_ | 11,_ | 12,_ | 13,_ | 14,_ | 15,_ | 17,_ | 18,_ | 19,_ | 20,_ | 21,_ | 22,_=>simp
    | 16,_=>exact absurd rfl n16
    | j+23,h=>exact absurd h (by omega)) (by simp) rfl
theorem yS5_wp {f:Nat→Value} {x:World}  {Q:Exit→Act→World→Prop}
    (hQ:∀ T' x',T'.size=74→(∀ j,j < 23→j≠17→T'[j]?=some (f j))→T'[17]?=some (.pointer (some ⟨x.heap.size,0,none⟩))→x'=x.alloc (.cells #[.bool true] 4)→Q .normal ⟨T',[]⟩ x'):yS5.wp Try.prog Q ⟨(List.map f (List.range 74)).toArray,[]⟩ x:=by
  replace hQ:=Lib.hid hQ
  have w1:(x.alloc (.cells #[.bool false] 4)).heap[x.heap.size]?=some (.cells #[.bool false] 4):=alloc_new
  have m1:=obj_cell (o:=0) w1 rfl
  have z1:=obj_thaw w1 0
  simp only [List.range,List.range.loop,List.map_cons,List.map_nil]
  simp only [yS5,yT5,yT4,yT3,yT2,yT1,yT0,Try.f8,Option.getD_some]
  go_wp2_with fail
  refine hQ.out _ _ (by simp) (fun j hj n17=>by
    match j,hj with
    | 0,_ | 1,_ | 2,_ | 3,_ | 4,_ | 5,_ | 6,_ | 7,_ | 8,_ | 9,_ | 10,_ | 11,_ | 12,_ | 13,_ | 14,_ | 15,_ | 16,_ | 18,_ | 19,_ | 20,_ | 21,_ | 22,_=>simp
    | 17,_=>exact absurd rfl n17
    | j+23,h=>exact absurd h (by omega)) (by simp) rfl
theorem yS6_wp {f:Nat→Value} {x:World}  {Q:Exit→Act→World→Prop}
    (hQ:∀ T' x',T'.size=74→(∀ j,j < 23→j≠18→T'[j]?=some (f j))→T'[18]?=some (.pointer (some ⟨x.heap.size,0,none⟩))→x'=x.alloc (.cells #[.int .i64 0] 3)→Q .normal ⟨T',[]⟩ x'):yS6.wp Try.prog Q ⟨(List.map f (List.range 74)).toArray,[]⟩ x:=by
  replace hQ:=Lib.hid hQ
  have w1:(x.alloc (.cells #[.int .i64 0] 3)).heap[x.heap.size]?=some (.cells #[.int .i64 0] 3):=alloc_new
  have m1:=obj_cell (o:=0) w1 rfl
  have z1:=obj_thaw w1 0
  simp only [List.range,List.range.loop,List.map_cons,List.map_nil]
  simp only [yS6,yT6,yT5,yT4,yT3,yT2,yT1,yT0,Try.f8,Option.getD_some]
  go_wp2_with fail
  refine hQ.out _ _ (by simp) (fun j hj n18=>by
    match j,hj with
    | 0,_ | 1,_ | 2,_ | 3,_ | 4,_ | 5,_ | 6,_ | 7,_ | 8,_ | 9,_ | 10,_ | 11,_ | 12,_ | 13,_ | 14,_ | 15,_ | 16,_ | 17,_ | 19,_ | 20,_ | 21,_ | 22,_=>simp
    | 18,_=>exact absurd rfl n18
    | j+23,h=>exact absurd h (by omega)) (by simp) rfl
theorem yS7_wp {f:Nat→Value} {x:World}  {Q:Exit→Act→World→Prop}
    (hQ:∀ T' x',T'.size=74→(∀ j,j < 23→j≠19→T'[j]?=some (f j))→T'[19]?=some (.slice (some ⟨x.heap.size,0,none⟩) 0 0)→x'=x.alloc (.cells #[] 52)→Q .normal ⟨T',[]⟩ x'):yS7.wp Try.prog Q ⟨(List.map f (List.range 74)).toArray,[]⟩ x:=by
  replace hQ:=Lib.hid hQ
  simp only [List.range,List.range.loop,List.map_cons,List.map_nil]
  simp only [yS7,yT7,yT6,yT5,yT4,yT3,yT2,yT1,yT0,Try.f8,Option.getD_some]
  go_wp2_with fail
  refine hQ.out _ _ (by simp) (fun j hj n19=>by
    match j,hj with
    | 0,_ | 1,_ | 2,_ | 3,_ | 4,_ | 5,_ | 6,_ | 7,_ | 8,_ | 9,_ | 10,_ | 11,_ | 12,_ | 13,_ | 14,_ | 15,_ | 16,_ | 17,_ | 18,_ | 20,_ | 21,_ | 22,_=>simp
    | 19,_=>exact absurd rfl n19
    | j+23,h=>exact absurd h (by omega)) (by simp) rfl
theorem yS10_wp {f:Nat→Value} {x:World} {bbx bb:Nat} {mv v1:Value} {PC:Ending→World→Prop} {Q:Exit→Act→World→Prop} (h16:f 16=.pointer (some ⟨bbx,0,none⟩)) (h12:f 12=v1) (k1:x.cell? ⟨bbx,0,none⟩=some (.pointer (some ⟨bb,0,none⟩))) (k2:x.cell? ⟨bb,0,none⟩=some mv) (hc:Calls Try.prog 40 #[mv,v1] x PC) (hr:∀ e x',PC e x'→∃ rv,e=.returned rv)
    (hQ:∀ T' x',T'.size=74→(∀ j,j < 23→j≠22→T'[j]?=some (f j))→(∃ rv,PC (.returned rv) x'∧T'[22]?=some rv)→Q .normal ⟨T',[]⟩ x'):yS10.wp Try.prog Q ⟨(List.map f (List.range 74)).toArray,[]⟩ x:=by
  replace hQ:=Lib.hid hQ
  simp only [List.range,List.range.loop,List.map_cons,List.map_nil,h16,h12]
  simp only [yS10,yT10,yT9,yT8,yT7,yT6,yT5,yT4,yT3,yT2,yT1,yT0,Try.f8,Option.getD_some]
  go_wp2_with fail
  refine hc.mono ?_
  rintro e x' he
  obtain ⟨rv,rfl⟩:=hr e x' he
  replace he:=Lib.hid he
  go_wp2_with fail
  refine hQ.out _ _ (by simp) (fun j hj n22=>by
    match j,hj with
    | 0,_ | 1,_ | 2,_ | 3,_ | 4,_ | 5,_ | 6,_ | 7,_ | 8,_ | 9,_ | 10,_ | 11,_ | 12,_ | 13,_ | 14,_ | 15,_ | 16,_ | 17,_ | 18,_ | 19,_ | 20,_ | 21,_=>simp [h16,h12]
    | 22,_=>exact absurd rfl n22
    | j+23,h=>exact absurd h (by omega)) ⟨rv,he.out,by simp⟩
theorem yS11_wp {f:Nat→Value} {x:World} {okb:Nat} {n:Int} {Q:Exit→Act→World→Prop} (h11:f 11=.bool true) (h21:f 21=.int .i64 n) (h13:f 13=.int .i64 n) (h22:f 22=.bool true) (h17:f 17=.pointer (some ⟨okb,0,none⟩)) (k1:x.cell? ⟨okb,0,none⟩=some (.bool true))
    (hQ:∀ T' x',T'.size=74→(∀ j,j < 23→j≠10→T'[j]?=some (f j))→T'[10]?=some (.bool true)→x'=x→Q .normal ⟨T',[]⟩ x'):yS11.wp Try.prog Q ⟨(List.map f (List.range 74)).toArray,[]⟩ x:=by
  replace hQ:=Lib.hid hQ
  simp only [List.range,List.range.loop,List.map_cons,List.map_nil,h11,h21,h13,h22,h17]
  simp only [yS11,yT11,yT10,yT9,yT8,yT7,yT6,yT5,yT4,yT3,yT2,yT1,yT0,Try.f8,Option.getD_some]
  go_wp2_with fail
  refine hQ.out _ _ (by simp) (fun j hj n10=>by
    match j,hj with
    | 0,_ | 1,_ | 2,_ | 3,_ | 4,_ | 5,_ | 6,_ | 7,_ | 8,_ | 9,_ | 11,_ | 12,_ | 13,_ | 14,_ | 15,_ | 16,_ | 17,_ | 18,_ | 19,_ | 20,_ | 21,_ | 22,_=>simp [h11,h21,h13,h22,h17]
    | 10,_=>exact absurd rfl n10
    | j+23,h=>exact absurd h (by omega)) (by simp) rfl
def bvW (C:Nat→Nat) (TB:Nat→Nat) (i:Nat):Value:=.func (.func 41) #[] #[.pointer (some ⟨C 1,0,none⟩),.pointer (some ⟨TB i,0,none⟩),.pointer (some ⟨C 3,0,none⟩),.pointer (some ⟨C 4,0,none⟩),.pointer (some ⟨C 5,0,none⟩),.pointer (some ⟨C 6,0,none⟩),.pointer (some ⟨C 7,0,none⟩),.pointer (some ⟨C 8,0,none⟩),.pointer (some ⟨C 9,0,none⟩),.pointer (some ⟨C 10,0,none⟩)]
theorem bvW_succ (C:Nat→Nat) (TB:Nat→Nat) (i c:Nat):(List.range (i+1)).map (bvW C fun j=>if j=i then c else TB j)=(List.range i).map (bvW C TB) ++ [bvW C (fun _=>c) i]:=by
  rw [List.range_succ,List.map_append]
  congr 1
  · refine List.map_congr_left fun j hj=>?_
    have:=List.mem_range.1 hj
    have hne:j≠i:=by omega
    simp [bvW,hne]
  · simp [bvW]
theorem yS8_wp {f:Nat→Value} {x:World} {n cap B:Nat} {ta:Option Addr} {C:Nat→Nat} {v0:Value} {Q:Exit→Act→World→Prop} (h5:f 5=.pointer (some ⟨C 1,0,none⟩)) (h16:f 16=.pointer (some ⟨C 3,0,none⟩)) (h18:f 18=.pointer (some ⟨C 4,0,none⟩)) (h6:f 6=.pointer (some ⟨C 5,0,none⟩)) (h8:f 8=.pointer (some ⟨C 6,0,none⟩)) (h9:f 9=.pointer (some ⟨C 7,0,none⟩)) (h14:f 14=.pointer (some ⟨C 8,0,none⟩)) (h17:f 17=.pointer (some ⟨C 9,0,none⟩)) (h15:f 15=.pointer (some ⟨C 10,0,none⟩)) (h19:f 19=v0) (hv0:x.ownsRow B 52 1 v0 0 []) (hx:x.cell? ⟨C 1,0,none⟩=some (.slice ta n cap)) (hn:n≤1000000000000) (hB:B≤x.heap.size) (hold:C 1 < B)
    (hQ:∀ T' x' v TB,T'.size=74→(∀ j,j < 23→j≠19→j≠20→T'[j]?=some (f j))→T'[19]?=some v→Bx2 B (bvW C) TB v n x'→Below B x x'→Q .normal ⟨T',[]⟩ x'):yS8.wp Try.prog Q ⟨(List.map f (List.range 74)).toArray,[]⟩ x:=by
  obtain ⟨i0,hinf,hz0,hz1,hz2⟩:=info52
  replace hQ:=Lib.hid hQ
  replace hv0:=Lib.hid hv0
  replace hx:=Lib.hid hx
  simp only [List.range,List.range.loop,List.map_cons,List.map_nil,h5,h16,h18,h6,h8,h9,h14,h17,h15,h19]
  simp only [yS8,yT8,yT7,yT6,yT5,yT4,yT3,yT2,yT1,yT0,Try.f8,Option.getD_some]
  have w0:(x.alloc (.cells #[.int .i64 0] 3)).heap[x.heap.size]?=some (.cells #[.int .i64 0] 3):=alloc_new
  have b0:Below B x (x.alloc (.cells #[.int .i64 0] 3)):=(Below.refl _ _).alloc hB _
  have r0:(x.alloc (.cells #[.int .i64 0] 3)).ownsRow B 52 1 v0 0 []:=hv0.out.alloc _
  have m0:(x.alloc (.cells #[.int .i64 0] 3)).cell? ⟨x.heap.size,0,none⟩=some (.int .i64 0):=obj_cell alloc_new rfl
  have z0:(x.alloc (.cells #[.int .i64 0] 3)).frozen? ⟨x.heap.size,0,none⟩=false:=obj_thaw alloc_new 0
  replace w0:=Lib.hid w0
  replace b0:=Lib.hid b0
  replace r0:=Lib.hid r0
  go_wp2_with fail
  go_loopw [19,20] (fun b c wr=>∃ (i cb:Nat) (TB:Nat→Nat),c=.pointer (some ⟨cb,0,none⟩)∧i≤n∧Hid (Bx2 B (bvW C) TB b i wr)∧Hid (BxC B cb TB b i wr)∧Hid (Below B x wr)∧wr.cell? ⟨cb,0,none⟩=some (.int .i64 (i:Int))∧wr.frozen? ⟨cb,0,none⟩=false) (fun _ c wr=>match c with | .pointer (some a)=>n+1 - natOfV ((wr.cell? a).getD undef) | _=>0)
  case atStart =>
    refine ⟨0,x.heap.size,fun _=>0,rfl,Nat.zero_le _,Lib.hid ⟨r0.out,fun i hi=>absurd hi (Nat.not_lt_zero _)⟩,Lib.hid ⟨w0.out,hB,fun e=>?_,fun i hi=>absurd hi (Nat.not_lt_zero _)⟩,b0,obj_cell w0.out rfl,obj_thaw w0.out 0⟩
    have:=(hv0.out.lt _ e).2
    omega
  case round =>
    obtain ⟨i,cb,TB,rfl,hi,hb2,hC,hbel,hcur,hfz⟩:=hrel
    have hbs:=hbel.out.size
    have hbs2:B≤wr.heap.size:=by omega
    have k1:wr.cell? ⟨C 1,0,none⟩=some (.slice ta n cap):=(hbel.out.cell (p:=⟨C 1,0,none⟩) hold).trans hx.out
    by_cases hlt:i < n
    · have g1:(i:Int) < (n:Int):=by omega
      have g0:(0:Int)≤(i:Int):=by omega
      have hiw:IntKind.i64.wrap ((i:Int)+1)=((i+1:Nat):Int):=by rw [IntKind.wrap_i64]; omega
      have hcv:(Value.func (.func 41) #[] #[.pointer (some ⟨C 1,0,none⟩),.pointer (some ⟨cb,0,none⟩),.pointer (some ⟨C 3,0,none⟩),.pointer (some ⟨C 4,0,none⟩),.pointer (some ⟨C 5,0,none⟩),.pointer (some ⟨C 6,0,none⟩),.pointer (some ⟨C 7,0,none⟩),.pointer (some ⟨C 8,0,none⟩),.pointer (some ⟨C 9,0,none⟩),.pointer (some ⟨C 10,0,none⟩)])=bvW C (fun _=>cb) i:=rfl
      obtain ⟨w3,hw3⟩:∃ w3,w3=wr.alloc (.cells #[(Value.func (.func 41) #[] #[.pointer (some ⟨C 1,0,none⟩),.pointer (some ⟨cb,0,none⟩),.pointer (some ⟨C 3,0,none⟩),.pointer (some ⟨C 4,0,none⟩),.pointer (some ⟨C 5,0,none⟩),.pointer (some ⟨C 6,0,none⟩),.pointer (some ⟨C 7,0,none⟩),.pointer (some ⟨C 8,0,none⟩),.pointer (some ⟨C 9,0,none⟩),.pointer (some ⟨C 10,0,none⟩)])] 52):=⟨_,rfl⟩
      have s3:w3.heap.size=wr.heap.size+1:=by rw [hw3,alloc_size]
      have row3:w3.ownsRow B 52 1 u19 i ((List.range i).map (bvW C TB)):=by rw [hw3]; exact hb2.out.row.alloc _
      have hnews:∀ j u,[(Value.func (.func 41) #[] #[.pointer (some ⟨C 1,0,none⟩),.pointer (some ⟨cb,0,none⟩),.pointer (some ⟨C 3,0,none⟩),.pointer (some ⟨C 4,0,none⟩),.pointer (some ⟨C 5,0,none⟩),.pointer (some ⟨C 6,0,none⟩),.pointer (some ⟨C 7,0,none⟩),.pointer (some ⟨C 8,0,none⟩),.pointer (some ⟨C 9,0,none⟩),.pointer (some ⟨C 10,0,none⟩)])][j]?=some u→w3.cell? ((⟨wr.heap.size,0,none⟩:Addr).add j)=some u:=by
        rw [hw3]
        exact World.news_of_block (cs:=#[(Value.func (.func 41) #[] #[.pointer (some ⟨C 1,0,none⟩),.pointer (some ⟨cb,0,none⟩),.pointer (some ⟨C 3,0,none⟩),.pointer (some ⟨C 4,0,none⟩),.pointer (some ⟨C 5,0,none⟩),.pointer (some ⟨C 6,0,none⟩),.pointer (some ⟨C 7,0,none⟩),.pointer (some ⟨C 8,0,none⟩),.pointer (some ⟨C 9,0,none⟩),.pointer (some ⟨C 10,0,none⟩)])]) (heap_alloc_new _ _)
      have c3:w3.heap[cb]?=some (.cells #[.int .i64 (i:Int)] 3):=by rw [hw3]; exact (alloc_old (Array.getElem?_eq_some_iff.1 hC.out.cur).1).trans hC.out.cur
      have hone:∀ u ∈ [(Value.func (.func 41) #[] #[.pointer (some ⟨C 1,0,none⟩),.pointer (some ⟨cb,0,none⟩),.pointer (some ⟨C 3,0,none⟩),.pointer (some ⟨C 4,0,none⟩),.pointer (some ⟨C 5,0,none⟩),.pointer (some ⟨C 6,0,none⟩),.pointer (some ⟨C 7,0,none⟩),.pointer (some ⟨C 8,0,none⟩),.pointer (some ⟨C 9,0,none⟩),.pointer (some ⟨C 10,0,none⟩)])],u.oneCell'=true:=by intro u hu; simp at hu; subst hu; rfl
      have hnb:=hC.out.ne
      have hcl:=(Array.getElem?_eq_some_iff.1 c3).1
      replace hw3:=Lib.hid hw3
      replace hcv:=Lib.hid hcv
      replace c3:=Lib.hid c3
      go_wp2_with (at_builtin; rw [← hw3.out]; refine wpList_append_lies _ rfl _ _ _ rfl B 52 i0 _ 1 8 Try.underlying53 hinf hz0 hz1 hz2 rfl (by decide) u19 i _ (by rfl) row3 ⟨wr.heap.size,0,none⟩ 1 1 [(Value.func (.func 41) #[] #[.pointer (some ⟨C 1,0,none⟩),.pointer (some ⟨cb,0,none⟩),.pointer (some ⟨C 3,0,none⟩),.pointer (some ⟨C 4,0,none⟩),.pointer (some ⟨C 5,0,none⟩),.pointer (some ⟨C 6,0,none⟩),.pointer (some ⟨C 7,0,none⟩),.pointer (some ⟨C 8,0,none⟩),.pointer (some ⟨C 9,0,none⟩),.pointer (some ⟨C 10,0,none⟩)])] (by rfl) (by rfl) hnews hone (by omega) (by unfold maxLen; omega) (by omega) (by omega) _ rfl ?_; intro gg cp w4 ho4 hgrow hat hlt4; have hb4:=(hgrow.block cb hcl (fun e=>hnb e.symm)).trans c3.out; have hc4:w4.cell? ⟨cb,0,none⟩=some (.int .i64 (i:Int)):=obj_cell hb4 (o:=0) rfl; have hf4:=obj_thaw hb4 0; have hm4:(w4.alloc (.cells #[.int .i64 0] 3)).cell? ⟨w4.heap.size,0,none⟩=some (.int .i64 0):=obj_cell alloc_new rfl; have hz4:(w4.alloc (.cells #[.int .i64 0] 3)).frozen? ⟨w4.heap.size,0,none⟩=false:=obj_thaw alloc_new 0; replace hb4:=Lib.hid hb4)
      have h6:∀ b,b < w4.heap.size→(w4.alloc (.cells #[.int .i64 ((i:Int)+1)] 3)).heap[b]?=w4.heap[b]?:=fun b hb=>alloc_old hb
      have h6n:(w4.alloc (.cells #[.int .i64 ((i:Int)+1)] 3)).heap[w4.heap.size]?=some (.cells #[.int .i64 ((i+1:Nat):Int)] 3):=alloc_new
      obtain ⟨nb2,nC⟩:=bx_next (bvW_succ C TB i cb) hb2.out.row hb2.out.box hC.out hw3.out hcv.out ho4 hgrow hat rfl h6 h6n hbs2
      have hbel4:Below B x (w4.alloc (.cells #[.int .i64 ((i:Int)+1)] 3)):=by
        have b3:Below B x w3:=by rw [hw3.out]; exact hbel.out.alloc (by omega) _
        have b4:Below B x w4:=b3.grown hgrow (by omega) (fun k hk=>(row3.lt k hk).1)
        have s4:=hgrow.size
        exact b4.alloc (by omega) _
      have hcn:(w4.alloc (.cells #[.int .i64 ((i:Int)+1)] 3)).cell? ⟨w4.heap.size,0,none⟩=some (.int .i64 ((i+1:Nat):Int)):=obj_cell h6n (o:=0) rfl
      have hfn:=obj_thaw h6n 0
      have e1:((w4.alloc (.cells #[.int .i64 ((i:Int)+1)] 3)).cell? ⟨w4.heap.size,0,none⟩).getD undef=.int .i64 ((i+1:Nat):Int):=by rw [hcn]; rfl
      have hmeas:n+1 - natOfV (((w4.alloc (.cells #[.int .i64 ((i:Int)+1)] 3)).cell? ⟨w4.heap.size,0,none⟩).getD undef) < n+1 - natOfV ((wr.cell? ⟨cb,0,none⟩).getD undef):=by
        rw [e1,hcur]
        simp [natOfV]
        omega
      exact ⟨⟨i+1,_,_,rfl,by omega,Lib.hid nb2,Lib.hid nC,Lib.hid hbel4,hcn,hfn⟩,hmeas⟩
    · obtain rfl:i=n:=by omega
      have g1:¬ (i:Int) < (i:Int):=by omega
      go_wp2_with fail
      refine hQ.out _ _ _ TB (by simp) (fun j hj n19 n20=>by
    match j,hj with
    | 0,_ | 1,_ | 2,_ | 3,_ | 4,_ | 5,_ | 6,_ | 7,_ | 8,_ | 9,_ | 10,_ | 11,_ | 12,_ | 13,_ | 14,_ | 15,_ | 16,_ | 17,_ | 18,_ | 21,_ | 22,_=>simp [h5,h16,h18,h6,h8,h9,h14,h17,h15,h19]
    | 19,_=>exact absurd rfl n19
    | 20,_=>exact absurd rfl n20
    | j+23,h=>exact absurd h (by omega)) (by simp) hb2.out hbel.out
end Go.Proofs.Ytimlbbleblijnaa.Co
