/- Lemmas for the laws of this seat, laid together of PGce, PGcf, PGcg, PGch, PGcj, PHa. -/
import Derived.Test.YtimlbbleblijnaaV17
import Derived.Conc.LeavingOf
import Derived.Below
import Derived.JoinedCond
import Derived.Conc.AtomicLaws2

open Go.ConcR.Gen (base_kind baseD_kind)
set_option linter.unusedVariables false
set_option linter.unusedSimpArgs false
set_option maxRecDepth 100000
set_option maxHeartbeats 4000000
namespace Go.Proofs.Ytimlbbleblijnaa.Co
open Go Go.Conc Go.RowKit
noncomputable def nBody:Code:=Try.f29.body.getD .skip
noncomputable def n0:Code:=match nBody with | .seq x _=>x | _=>.skip
noncomputable def n1:Code:=match nBody with | .seq _ (.seq x _)=>x | _=>.skip
noncomputable def n2:Code:=match nBody with | .seq _ (.seq _ x)=>x | _=>.skip
theorem n_parts:nBody=.seq n0 (.seq n1 n2):=by kernel_rfl
noncomputable def y0:Code:=n0
noncomputable def y1:Code:=n1
section
variable {h:Nat} {F:Machine→Trace→Prop} {E:Env} {w:World} {b₀:Frame} {a₀:Act} {ops₀:Array Oper} {i₀:Nat} {rest₀:List Nat} {k₀:List Item} {cl:List Frame}
theorem run_many {N bcap:Nat} {ba:Option Addr} {pv dv:Value} (hN:8 < N)
    (hc:HG Try.prog h F E (G (b₀.at (a₀.put ((ops₀[i₀]?).bind (·.dst)) (.int .i64 0)) (.inRegion ops₀ rest₀ :: k₀)) cl) w) :
    HGn Try.prog h F E w 100 (entry 29 Try.f29 #[.slice ba N bcap,pv,dv] (b₀.at a₀ (.inRegion ops₀ (i₀ :: rest₀) :: k₀) :: cl)):=by
  have q1:decide ((8:Int) < (N:Int))=true:=decide_eq_true (by omega)
  unfold entry
  rw [show Try.f29.body.getD .skip=.seq y0 (.seq y1 n2) from n_parts,show Try.f29.ntmps=121 from rfl]
  generalize hG:n2=L
  simp only [y0,y1,n0,n1,nBody,Try.f29,Option.getD_some]
  walk_nrm
  refine Idl.q (idl_hg Try.prog h F E w) (Idl.rg (idl_hg Try.prog h F E w) [0] rfl ?_)
  apply Idl.value (idl_hg Try.prog h F E w) rfl rfl (by first | decide | exact base_kind _ | exact baseD_kind _ | assumption)
  focus (intro w; go_simp; (try w_num); first | done | rfl)
  focus (intro w; simp [go_sem, *])
  walk_nrm
  refine Idl.re (idl_hg Try.prog h F E w) (Idl.q (idl_hg Try.prog h F E w) (Idl.q (idl_hg Try.prog h F E w) (Idl.rg (idl_hg Try.prog h F E w) [0,1,2] rfl ?_)))
  apply Idl.value (idl_hg Try.prog h F E w) rfl rfl (by first | decide | exact base_kind _ | exact baseD_kind _ | assumption)
  focus (intro w; go_simp; (try w_num); first | done | rfl)
  focus (intro w; simp [go_sem, *])
  walk_nrm
  refine Idl.value (v:=.int .i64 (N:Int)) (idl_hg Try.prog h F E w) rfl rfl (by k_ne) (fun w=>by simp [go_sem]) (fun w=>by simp [go_sem]) ?_
  walk_nrm
  apply Idl.value (idl_hg Try.prog h F E w) rfl rfl (by first | decide | exact base_kind _ | exact baseD_kind _ | assumption)
  focus (intro w; go_simp; (try w_num); first | done | rfl)
  focus (intro w; simp [go_sem, *])
  walk_nrm
  refine Idl.re (idl_hg Try.prog h F E w) (Idl.ct (idl_hg Try.prog h F E w) rfl (Idl.q (idl_hg Try.prog h F E w) (Idl.rg (idl_hg Try.prog h F E w) [0] rfl ?_)))
  apply Idl.value (idl_hg Try.prog h F E w) rfl rfl (by first | decide | exact base_kind _ | exact baseD_kind _ | assumption)
  focus (intro w; go_simp; (try w_num); first | done | rfl)
  focus (intro w; simp [go_sem, *])
  walk_nrm
  refine Idl.re (idl_hg Try.prog h F E w) (Idl.rt (idl_hg Try.prog h F E w) ?_)
  refine Idl.leave1 (n:=1) (idl_hg Try.prog h F E w) rfl rfl Try.func29 rfl ?_
  exact hc
noncomputable def x4q:Code:=q4
theorem play_to_run {T:Array Value} {bv pv:Value} {drain:Bool} {c:Frame} (hs:T.size=28) (h1:T[1]?=some pv) (h2:T[2]?=some (.bool drain)) (h8:T[8]?=some bv)
    (hc:∀ T' ops i rest k,T'.size=28→(∀ j,j < 9→T'[j]?=T[j]?)→(ops[i]?).bind (·.dst)=some 26→rest=[]→k=[.code (match q4 with | .seq _ x=>x | _=>.skip)] →
      HGn Try.prog h F E w 100 (entry 29 Try.f29 #[bv,pv,.bool drain] ((base 21).at ⟨T',[]⟩ (.inRegion ops (i :: rest) :: k) :: c :: cl))) :
    HGn Try.prog h F E w 200 (G ((base 21).at ⟨T,[]⟩ [.code q4]) (c :: cl)):=by
  obtain ⟨f,hf,fz⟩:=arrfv T hs
  have e1:=fz 1 _ h1
  have e2:=fz 2 _ h2
  have e8:=fz 8 _ h8
  clear fz
  subst hf
  change HGn Try.prog h F E w 200 (G ((base 21).at _ [.code x4q]) (c :: cl))
  simp only [x4q,q4,qBody,Try.f21,Option.getD_some,List.range,List.range.loop,List.map_cons,List.map_nil,e1,e2,e8]
  refine Idl.q (idl_hg Try.prog h F E w) (Idl.rg (idl_hg Try.prog h F E w) [0,1,2,3] rfl ?_)
  iterate 3 (apply Idl.value (idl_hg Try.prog h F E w) rfl rfl (by first | decide | exact base_kind _ | exact baseD_kind _ | assumption); (focus (intro w; go_simp; (try w_num); first | done | rfl)); (focus (intro w; simp [go_sem, *])); walk_nrm)
  refine Idl.callE (fn:=Try.f29) (vs:=#[bv,pv,.bool drain]) (idl_hg Try.prog h F E w) rfl rfl (by k_ne) rfl Try.func29 rfl rfl (by simp [Act.eval]) ?_
  refine hc _ _ _ _ _ (by simp) (fun j hj=>?_) rfl rfl rfl
  match j,hj with
  | 0,_ | 1,_ | 2,_ | 3,_ | 4,_ | 5,_ | 6,_ | 7,_ | 8,_=>simp [e1,e2,e8]
  | n+9,h=>exact absurd h (by omega)
noncomputable def q5:Code:=match q4 with | .seq _ x=>x | _=>.skip
noncomputable def q6:Code:=match q5 with | .seq x _=>x | _=>.skip
theorem play_out {T:Array Value} {ops:Array Oper} {mb N cap:Nat} {A:Option Addr} {v:Value} {i:Nat} (hs:T.size=28) (h7:T[7]?=some (.pointer (some ⟨mb,0,none⟩))) (hcell:w.cell? ⟨mb,0,none⟩=some (.slice A N cap)) (hH:E.H mb=none) (hd:(ops[i]?).bind (·.dst)=some 26)
    (hc:∀ E1 w',E.Eq h E1→Kept h none E w E1 w'→(∀ b,E.H b=none→b < w.heap.size→w'.heap[b]?=w.heap[b]?)→HG Try.prog h F E1 (G (b₀.at (a₀.put ((ops₀[i₀]?).bind (·.dst)) (.slice A N cap)) (.inRegion ops₀ rest₀ :: k₀)) cl) w') :
    HG Try.prog h F E (G ((base 21).at ((⟨T,[]⟩:Act).put ((ops[i]?).bind (·.dst)) v) (.inRegion ops [] :: [.code q5])) (b₀.at a₀ (.inRegion ops₀ (i₀ :: rest₀) :: k₀) :: cl)) w:=by
  rw [hd]
  change HGn Try.prog h F E w 100 _
  refine Idl.step (idl_hg Try.prog h F E w) _ _ _ rfl (fun _=>stepG_region_end) ?_
  obtain ⟨f,hf,fz⟩:=arrfv (n:=28) (T.setIfInBounds 26 v) (by simp [hs])
  have e7:=fz 7 _ (by rw [Array.getElem?_setIfInBounds_ne (by omega)]; exact h7)
  clear fz
  have hput:(⟨T,[]⟩:Act).put (some 26) v=⟨T.setIfInBounds 26 v,[]⟩:=rfl
  rw [hput,hf]
  clear hput hf h7
  have hq:q5=.seq q6 .ret:=by kernel_rfl
  rw [hq]
  refine Idl.step (idl_hg Try.prog h F E w) _ _ _ rfl (fun _=>stepG_seq) ?_
  refine HG.quietS (fun _=>False) (fun _ z=>z.elim) (closed_none _) (Q:=fun a' x x'=>a'.tmps.size=28∧a'.tmps[6]?=some (.slice A N cap)∧x'=x) (by kernel_rfl) (by rfl) rfl (fun x hxs hx=>?_) (fun E1 w1 a' x x' hE hd hxs hx hxs' hx' hK hB hS hq=>?_)
  · have hcx:x.cell? ⟨mb,0,none⟩=some (.slice A N cap):=(World.cell?_of_block (hx mb hH)).trans hcell
    simp only [List.range,List.range.loop,List.map_cons,List.map_nil,e7,q6,q5,q4,qBody,Try.f21,Option.getD_some]
    go_wp2
  · obtain ⟨Ta,df⟩:=a'
    have hd':df=[]:=hd
    subst hd'
    obtain ⟨a1,a2,rfl⟩:=hq
    have hcc:=hc E1 w1 hE hK (fun b hb hl=>by rw [hx' b hb,hx b hb])
    obtain ⟨f2,hf2,fz⟩:=arrfv Ta a1
    have e6:=fz 6 _ a2
    clear fz
    subst hf2
    simp only [List.range,List.range.loop,List.map_cons,List.map_nil,e6]
    change HGn Try.prog h F E1 w1 100 _
    refine Idl.rt (idl_hg Try.prog h F E1 w1) ?_
    refine Idl.leave1 (n:=1) (idl_hg Try.prog h F E1 w1) rfl rfl Try.func21 rfl ?_
    exact hcc
end
end Go.Proofs.Ytimlbbleblijnaa.Co

namespace Go.Proofs.Ytimlbbleblijnaa.Co
open Go Go.Conc Go.RowKit
open Go.ConcN (sumTo upd sumTo_upd upd_ne upd_same sumTo_congr le_sumTo)
abbrev Op3:=Int × Int × Int
structure OpsAt (E:Env) (w:World) (tv:Value) (ts:List (List Op3)):Prop where
  at_:∃ (ta:Option Addr) (ba bo cap:Nat) (LA:Nat→Option Addr) (LC:Nat→Nat),tv=.slice ta ts.length cap∧(0 < ts.length→ta=some ⟨ba,bo,none⟩)∧∀ i l,ts[i]?=some l →
    (w.cell? ⟨ba,bo+i,none⟩=some (.slice (LA i) l.length (LC i))∧E.H ba=none)∧(l≠[]→∃ la lo,LA i=some ⟨la,lo,none⟩∧E.H la=none∧∀ j op,l[j]?=some op →
      w.cell? ⟨la,lo+j * 3,none⟩=some (.int .i64 op.1)∧w.cell? ⟨la,lo+j * 3+1,none⟩=some (.int .i64 op.2.1)∧w.cell? ⟨la,lo+j * 3+2,none⟩=some (.int .i64 op.2.2))
structure IntsAt (E:Env) (w:World) (pv:Value) (ps:List Int):Prop where
  at_:∃ (pa:Option Addr) (pb po cap:Nat),pv=.slice pa ps.length cap∧(ps≠[]→pa=some ⟨pb,po,none⟩)∧∀ i p,ps[i]?=some p→w.cell? ⟨pb,po+i,none⟩=some (.int .i64 p)∧E.H pb=none
def Stands (E:Env) (w:World) (E':Env) (w':World):Prop:=∀ b o,E.H b=none→w.heap[b]?=some o→E'.H b=none∧w'.heap[b]?=some o
theorem Stands.cell {E E':Env} {w w':World} (S:Stands E w E' w') {a:Addr} {v:Value} (h:w.cell? a=some v) (hH:E.H a.block=none):w'.cell? a=some v∧E'.H a.block=none:=by
  have hl:=World.block_lt_of_cell? w _ h
  obtain ⟨s1,s2⟩:=S a.block _ hH (Array.getElem?_eq_getElem hl)
  exact ⟨(World.cell?_of_block (by rw [s2,Array.getElem?_eq_getElem hl])).trans h,s1⟩
theorem Stands.trans {E E' E2:Env} {w w' w2:World} (S:Stands E w E' w') (S2:Stands E' w' E2 w2):Stands E w E2 w2:=fun b o h1 h2=>by
  obtain ⟨a1,a2⟩:=S b o h1 h2
  exact S2 b o a1 a2
theorem OpsAt.stands {E E':Env} {w w':World} {tv:Value} {ts:List (List Op3)} (h:OpsAt E w tv ts) (S:Stands E w E' w'):OpsAt E' w' tv ts:=by
  obtain ⟨ta,ba,bo,cap,LA,LC,h1,h2,h3⟩:=h.at_
  refine ⟨ta,ba,bo,cap,LA,LC,h1,h2,fun i l hi=>?_⟩
  obtain ⟨⟨q1,q2⟩,q3⟩:=h3 i l hi
  refine ⟨S.cell q1 q2,fun hne=>?_⟩
  obtain ⟨la,lo,e1,e2,e3⟩:=q3 hne
  by_cases hE:E'.H la=none
  · exact ⟨la,lo,e1,hE,fun j op hj=>⟨(S.cell (e3 j op hj).1 e2).1,(S.cell (e3 j op hj).2.1 e2).1,(S.cell (e3 j op hj).2.2 e2).1⟩⟩
  · cases l with
    | nil=>exact absurd rfl hne
    | cons op l=>exact absurd (S.cell (e3 0 op rfl).1 e2).2 hE
theorem IntsAt.stands {E E':Env} {w w':World} {pv:Value} {ps:List Int} (h:IntsAt E w pv ps) (S:Stands E w E' w'):IntsAt E' w' pv ps:=by
  obtain ⟨pa,pb,po,cap,h1,h2,h3⟩:=h.at_
  exact ⟨pa,pb,po,cap,h1,h2,fun i p hi=>S.cell (h3 i p hi).1 (h3 i p hi).2⟩
structure PA where
  ms:List Mk
  cnt:Nat→Nat
def nOf (ts:List (List Op3)) (t i:Nat):Int:=(((ts[t]?).bind (·[i]?)).map (·.2.2)).getD 0
def lenOf (ts:List (List Op3)) (t:Nat):Nat:=((ts[t]?).map (·.length)).getD 0
def playG (ts:List (List Op3)):Game PA where
  n:=ts.length
  alive a t:=decide (a.cnt t < lenOf ts t)
  pick a t k:=⟨a.ms ++ [((t:Int),k,(a.cnt t:Int),nOf ts t (a.cnt t))],upd a.cnt t (a.cnt t+1)⟩
def pa0:PA:=⟨[],fun _=>0⟩
def ptOf (ts:List (List Op3)) (LB TB LA LO LC:Nat→Nat):List PT:=(List.range ts.length).map fun i=>⟨TB i,LB i,LA i,LO i,LC i,ts.getD i []⟩
theorem ptOf_get {ts:List (List Op3)} {LB TB LA LO LC:Nat→Nat} {i:Nat} (hi:i < ts.length):(ptOf ts LB TB LA LO LC)[i]?=some ⟨TB i,LB i,LA i,LO i,LC i,ts.getD i []⟩:=by
  unfold ptOf
  rw [List.getElem?_map,List.getElem?_range hi]
  rfl
theorem ptOf_len {ts:List (List Op3)} {LB TB LA LO LC:Nat→Nat}:(ptOf ts LB TB LA LO LC).length=ts.length:=by simp [ptOf]
theorem opLen_of (ts:List (List Op3)) (LB TB LA LO LC:Nat→Nat) (t:Nat):opLen (ptOf ts LB TB LA LO LC) t=lenOf ts t:=by
  unfold opLen lenOf
  by_cases h:t < ts.length
  · rw [ptOf_get h,List.getElem?_eq_getElem h]
    simp [List.getD,List.getElem?_eq_getElem h]
  · rw [List.getElem?_eq_none (by rw [ptOf_len]; omega),List.getElem?_eq_none (by omega)]
    rfl
theorem opN_of {ts:List (List Op3)} {LB TB LA LO LC:Nat→Nat} {t i:Nat} {n:Int} (h:opN (ptOf ts LB TB LA LO LC) t i=some n):nOf ts t i=n:=by
  have ht:=(opN_lt h).2
  rw [ptOf_len] at ht
  unfold opN at h
  rw [ptOf_get ht] at h
  unfold nOf
  rw [List.getElem?_eq_getElem ht]
  simp only [Option.bind_some,List.getD,List.getElem?_eq_getElem ht,Option.getD_some] at h ⊢
  rw [h]; rfl
structure PR (ts:List (List Op3)) (x:RS PS PL) (a:PA):Prop where
  len:x.1.length=ts.length
  ms:x.2.1.ms=a.ms
  cnt:x.2.1.cnt=a.cnt
  th:∀ t,t < ts.length→(∃ n b,x.1[t]?=some (some (n,⟨t,a.cnt t,b⟩))∧a.cnt t < lenOf ts t)∨(x.1[t]?=some none∧¬ a.cnt t < lenOf ts t)
theorem play_sim {mb:Nat} {K:Nat→Obj→Prop} {ts:List (List Op3)} {LB TB LA LO LC:Nat→Nat}:Sim (playD mb K (ptOf ts LB TB LA LO LC)) (playG ts) (PR ts):=by
  refine ⟨fun x a h=>h.len,fun x a h t ht=>?_,fun x a x' t h ht ha hp=>?_,fun x a h=>⟨h.len,h.ms,h.cnt,h.th⟩⟩
  · rcases h.th t ht with ⟨n,b,e1,e2⟩ | ⟨e1,e2⟩
    · rw [e1]
      exact (decide_eq_true e2).symm
    · rw [e1]
      exact (decide_eq_false e2).symm
  · rcases h.th t ht with ⟨n,b,e1,e2⟩ | ⟨e1,e2⟩
    · unfold PickR at hp
      rw [e1] at hp
      obtain ⟨n',s',o,hm,⟨m,hn,had⟩,rfl⟩:=hp
      dsimp only at hn had
      have hnm:=opN_of hn
      have htl:t < x.1.length:=by rw [h.len]; exact ht
      have hset:∀ (y:Option (Nat × PL)) t',(x.1.set t y)[t']?=if t'=t then some y else x.1[t']?:=fun y t'=>by
        by_cases e:t'=t
        · subst e
          rw [if_pos rfl,List.getElem?_set_self htl]
        · rw [if_neg e,List.getElem?_set_ne (Ne.symm e)]
      have hms:(mark x.2.1 t (a.cnt t) (x.2.2+1) m).ms=((playG ts).pick a t (x.2.2+1)).ms:=by
        show x.2.1.ms ++ _=a.ms ++ _
        rw [h.ms,hnm]
      have hcn:(mark x.2.1 t (a.cnt t) (x.2.2+1) m).cnt=((playG ts).pick a t (x.2.2+1)).cnt:=by
        show upd x.2.1.cnt t _=upd a.cnt t _
        rw [h.cnt]
      have hct:((playG ts).pick a t (x.2.2+1)).cnt t=a.cnt t+1:=upd_same ..
      have hcn':∀ t',t'≠t→((playG ts).pick a t (x.2.2+1)).cnt t'=a.cnt t':=fun t' e=>upd_ne _ _ e
      have hth:∀ t',t'≠t→t' < ts.length→(∃ n b,x.1[t']?=some (some (n,⟨t',((playG ts).pick a t (x.2.2+1)).cnt t',b⟩))∧((playG ts).pick a t (x.2.2+1)).cnt t' < lenOf ts t')∨(x.1[t']?=some none∧¬ ((playG ts).pick a t (x.2.2+1)).cnt t' < lenOf ts t'):=fun t' e ht'=>by
        rw [hcn' t' e]; exact h.th t' ht'
      rcases had with ⟨b',n2,h3,h4⟩ | ⟨h3,h4⟩
      · cases h4
        have hlt:=(opN_lt h3).1
        rw [opLen_of] at hlt
        refine ⟨by simp [h.len],hms,hcn,fun t' ht'=>?_⟩
        dsimp only
        rw [hset]
        by_cases e:t'=t
        · subst e
          rw [if_pos rfl,hct]
          exact .inl ⟨n',b',rfl,hlt⟩
        · rw [if_neg e]
          exact hth t' e ht'
      · cases h4
        rw [opLen_of] at h3
        refine ⟨by simp [h.len],hms,hcn,fun t' ht'=>?_⟩
        dsimp only
        rw [hset]
        by_cases e:t'=t
        · subst e
          rw [if_pos rfl,hct]
          exact .inr ⟨rfl,by omega⟩
        · rw [if_neg e]
          exact hth t' e ht'
    · rw [e1] at ha; cases ha
theorem sumTo_bound {f:Nat→Nat} {B:Nat}:∀ n,(∀ i,i < n→f i≤B)→sumTo n f≤n * B
  | 0,_=>Nat.zero_le _
  | n+1,h=>by
    have h1:=sumTo_bound n (fun i hi=>h i (by omega))
    have h2:=h n (by omega)
    have e:sumTo (n+1) f=sumTo n f+f n:=rfl
    rw [e,Nat.add_mul,Nat.one_mul]
    omega
theorem sumTo_zero:∀ n,sumTo n (fun _=>0)=0
  | 0=>rfl
  | n+1=>by
    have e:sumTo (n+1) (fun _=>0)=sumTo n (fun _=>0)+0:=rfl
    rw [e,sumTo_zero n]
theorem owns_form {x:World} {B e n:Nat} {v:Value} {xs:List Value} (h:x.ownsRow B e 1 v n xs):∃ aa cap,v=.slice aa n cap∧(0 < n→∃ g,aa=some ⟨g,0,none⟩∧B≤g∧∀ i u,xs[i]?=some u→x.cell? ⟨g,0+i,none⟩=some u):=by
  obtain ⟨h1,h2⟩:=h
  rcases h2 with ⟨rfl,rfl⟩ | ⟨g,cap,cur,rfl,hb,hg,c1,c2,c3,c4⟩
  · exact ⟨none,0,rfl,fun h=>absurd h (by omega)⟩
  · refine ⟨_,cap,rfl,fun _=>⟨g,rfl,hb,fun i u hu=>?_⟩⟩
    refine obj_cell hg ?_
    rw [← c4,List.getElem?_take] at hu
    split at hu
    · rw [Nat.zero_add]
      simpa using hu
    · cases hu
theorem owns_slice {x:World} {B e sz n:Nat} {v:Value} {xs:List Value} (h:x.ownsRow B e sz v n xs):∃ A cap,v=.slice A n cap:=by
  obtain ⟨h1,h2⟩:=h
  rcases h2 with ⟨rfl,rfl⟩ | ⟨g,cap,cur,rfl,hb,hg,c1,c2,c3,c4⟩
  · exact ⟨none,0,rfl⟩
  · exact ⟨_,cap,rfl⟩
theorem owns_lower {x:World} {B B' e sz n:Nat} {v:Value} {xs:List Value} (h:x.ownsRow B e sz v n xs) (hB:B'≤B):x.ownsRow B' e sz v n xs:=by
  obtain ⟨h1,h2⟩:=h
  refine ⟨h1,h2.imp id ?_⟩
  rintro ⟨g,cap,cur,e1,e2,r⟩
  exact ⟨g,cap,cur,e1,Nat.le_trans hB e2,r⟩
def playBs (ts:List (List Op3)) (L:List PT) (LB TB:Nat→Nat) (mb:Nat) (l:List Nat):List (Body PS PL):=l.map fun i=>⟨clo LB TB mb i,(ts.getD i []).length,adv L i 0⟩
theorem start_pr {ts:List (List Op3)} {LB TB LA LO LC:Nat→Nat} {mb:Nat}:∀ (m i:Nat) (x x0:List (Option (Nat × PL)) × PS),i+m=ts.length→StartR (playBs ts (ptOf ts LB TB LA LO LC) LB TB mb (List.range' i m)) x x0→x.1.length=i→x.2.ms=[]→x.2.cnt=(fun _=>0) →
    (∀ t,t < i→(∃ n b,x.1[t]?=some (some (n,⟨t,0,b⟩))∧0 < lenOf ts t)∨(x.1[t]?=some none∧¬ 0 < lenOf ts t))→PR ts (x0.1,x0.2,0) pa0
  | 0,i,x,x0,hi,h,h1,h2,h3,h4=>by
    cases h
    exact ⟨by dsimp only; omega,h2,h3,fun t ht=>h4 t (by omega)⟩
  | m+1,i,x,x0,hi,h,h1,h2,h3,h4=>by
    unfold playBs at h
    rw [List.range'_succ,List.map_cons] at h
    cases h with
    | @cons _ _ _ s' o _ hs ht =>
      dsimp only at hs ht
      have hget:∀ (y:Option (Nat × PL)) t,t < i+1→(x.1 ++ [y])[t]?=if t=i then some y else x.1[t]?:=fun y t ht=>by
        by_cases e:t=i
        · subst e
          rw [if_pos rfl,← h1,List.getElem?_append_right (Nat.le_refl _)]
          simp
        · rw [if_neg e,List.getElem?_append_left (by omega)]
      rcases hs with ⟨b,n,e1,e2⟩ | ⟨e1,e2⟩
      · cases e2
        have hlt:=(opN_lt e1).1
        rw [opLen_of] at hlt
        refine start_pr m (i+1) _ x0 (by omega) ht (by simp [h1]) h2 h3 (fun t hl=>?_)
        dsimp only
        rw [hget _ t hl]
        by_cases e:t=i
        · subst e
          rw [if_pos rfl]
          exact .inl ⟨_,b,rfl,hlt⟩
        · rw [if_neg e]
          exact h4 t (by omega)
      · cases e2
        rw [opLen_of] at e1
        refine start_pr m (i+1) _ x0 (by omega) ht (by simp [h1]) h2 h3 (fun t hl=>?_)
        dsimp only
        rw [hget _ t hl]
        by_cases e:t=i
        · subst e
          rw [if_pos rfl]
          exact .inr ⟨rfl,by omega⟩
        · rw [if_neg e]
          exact h4 t (by omega)
structure PlayOut (h:Nat) (ts:List (List Op3)) (picks:List Int) (drain:Bool) (E:Env) (w:World) (E':Env) (w':World) (mv:Value) (ms:List Mk):Prop where
  kept:Kept h none E w E' w'
  stands:Stands E w E' w'
  row:w'.ownsRow w.heap.size 37 4 mv ms.length (mksV ms)
  rowH:∀ g,mv.ownBlock=some g→E'.H g=none
  many:8 < ts.length→ms=[]
  game:ts.length≤8→∃ a' k,(playG ts).Run picks drain pa0 (a',k)∧a'.ms=ms
section
variable {h:Nat} {F:Machine→Trace→Prop} {E:Env} {w:World} {b₀:Frame} {a₀:Act} {ops₀:Array Oper} {i₀:Nat} {rest₀:List Nat} {k₀:List Item} {cl:List Frame}
theorem kc_of {E2:Env} {w2:World} {mb:Nat} {a:Addr} {v:Value} (h1:w2.cell? a=some v) (h2:E2.H a.block=none) (h3:a.block≠mb):KC (fun b o=>w2.heap[b]?=some o∧E2.H b=none∧b≠mb) a v:=by
  have hl:=World.block_lt_of_cell? w2 _ h1
  refine ⟨w2.heap[a.block],⟨Array.getElem?_eq_getElem hl,h2,h3⟩,fun w' hw'=>?_⟩
  rw [← h1]
  exact World.cell?_of_block (by rw [hw',Array.getElem?_eq_getElem hl])
theorem play_holds {ts:List (List Op3)} {picks:List Int} {drain:Bool} {tv pv:Value} (hT:OpsAt E w tv ts) (hP:IntsAt E w pv picks) (hn:ts.length≤1000000000000) (hl:∀ l ∈ ts,l.length≤100000000000) (hnp:picks.length≤1000000000000000) (hp64:∀ p ∈ picks,-9223372036854775808≤p∧p≤9223372036854775807)
    (hrole:E.role h=.gone) (hmode:∀ b,E.mode b=0)
    (hc:∀ E' w' mv ms,PlayOut h ts picks drain E w E' w' mv ms→HG Try.prog h F E' (G (b₀.at (a₀.put ((ops₀[i₀]?).bind (·.dst)) mv) (.inRegion ops₀ rest₀ :: k₀)) cl) w') :
    HGn Try.prog h F E w 100 (entry 21 Try.f21 #[tv,pv,.bool drain] (b₀.at a₀ (.inRegion ops₀ (i₀ :: rest₀) :: k₀) :: cl)):=by
  obtain ⟨ta,ba,bo,cap,LA,LC,rfl,hta,hts⟩:=hT.at_
  obtain ⟨pa,pb,po,pcap,rfl,hpa,hps⟩:=hP.at_
  have hget:∀ i,i < ts.length→ts[i]?=some (ts.getD i []):=fun i hi=>by simp [List.getD,List.getElem?_eq_getElem hi]
  refine play_in (LA:=LA) (LN:=fun i=>(ts.getD i []).length) (LC:=LC) rfl hta hn (fun i hi=>(hts i _ (hget i hi)).1) (fun E2 w2 T' v LB TB hE hK hold hB hmb hbx hs t1 t2 t6 t7 t8=>?_)
  have hH2:E2.H=E.H:=hE.H'
  obtain ⟨mb,hmbe⟩:∃ mb,mb=w.heap.size:=⟨_,rfl⟩
  rw [← hmbe] at hmb hbx t7
  have hS2:Stands E w E2 w2:=fun b o h1 h2=>⟨by rw [hH2]; exact h1,by rw [hold b h1 (Array.getElem?_eq_some_iff.1 h2).1]; exact h2⟩
  have hT2:=hT.stands hS2
  have hmbH:E2.H mb=none:=by rw [hH2]; exact hB mb (by omega)
  obtain ⟨aa,bcap,rfl,hvf⟩:=owns_form hbx.row
  refine play_to_run hs t1 t2 t8 (fun T2 ops i rest k hs2 hj hd hr hk=>?_)
  subst hr hk
  have t7':=(hj 7 (by decide)).trans t7
  by_cases h8:8 < ts.length
  · refine run_many h8 ?_
    refine play_out hs2 t7' (obj_cell (v:=.slice none 0 0) hmb rfl) hmbH hd (fun E3 w3 hE3 hK3 hold3=>?_)
    have hH3:E3.H=E2.H:=hE3.H'
    refine hc E3 w3 _ [] ⟨hK.trans hK3,hS2.trans (fun b o h1 h2=>⟨by rw [hH3]; exact h1,by rw [hold3 b h1 (Array.getElem?_eq_some_iff.1 h2).1]; exact h2⟩),⟨by simp [mksV],.inl ⟨rfl,rfl⟩⟩,fun g e=>(by cases e),fun _=>rfl,fun h=>absurd h (by omega)⟩
  · have hN8:ts.length≤8:=by omega
    let la:Nat→Nat:=fun i=>((LA i).map (·.block)).getD 0
    let lo:Nat→Nat:=fun i=>((LA i).map (·.off)).getD 0
    obtain ⟨L,hL⟩:∃ L,L=ptOf ts LB TB la lo LC:=⟨_,rfl⟩
    obtain ⟨K,hKe⟩:∃ K:Nat→Obj→Prop,K=fun b o=>w2.heap[b]?=some o∧E2.H b=none∧b≠mb:=⟨_,rfl⟩
    have kc:∀ {a:Addr} {v:Value},w2.cell? a=some v→E2.H a.block=none→a.block≠mb→KC K a v:=fun h1 h2 h3=>by rw [hKe]; exact kc_of h1 h2 h3
    have kold:∀ {a:Addr} {v:Value},w.cell? a=some v→E.H a.block=none→KC K a v:=fun {a v} h1 h2=>by
      obtain ⟨q1,q2⟩:=hS2.cell h1 h2
      exact kc q1 q2 (by have:=World.block_lt_of_cell? w _ h1; omega)
    have hlen:∀ i,i < ts.length→(ts.getD i []).length≤100000000000:=fun i hi=>hl _ (List.mem_of_getElem? (hget i hi))
    have hbound:sumTo L.length (opLen L)≤1000000000000:=by
      have h1:=sumTo_bound (f:=opLen L) (B:=100000000000) L.length (fun i hi=>by
        rw [hL,opLen_of]
        rw [hL,ptOf_len] at hi
        unfold lenOf
        rw [hget i hi]
        exact hlen i hi)
      have h2:L.length≤8:=by rw [hL,ptOf_len]; exact hN8
      have h3:L.length * 100000000000≤8 * 100000000000:=Nat.mul_le_mul_right _ h2
      omega
    have hPT:∀ i,i < ts.length→PTok K L i ⟨TB i,LB i,la i,lo i,LC i,ts.getD i []⟩:=fun i hi=>by
      obtain ⟨b1,b2,b3,b4,b5,b6⟩:=hbx.box i hi
      obtain ⟨_,hops⟩:=hts i _ (hget i hi)
      have hbl:∀ hne:ts.getD i []≠[],LA i=some ⟨la i,lo i,none⟩:=fun hne=>by
        obtain ⟨x,y,e1,_,_⟩:=hops hne
        show LA i=some ⟨((LA i).map (·.block)).getD 0,((LA i).map (·.off)).getD 0,none⟩
        rw [e1]; rfl
      refine ⟨by rw [hL]; exact ptOf_get hi,kc b2 (by rw [hH2]; exact hB _ (by dsimp only; omega)) (by dsimp only; omega),⟨LA i,kc b1 (by rw [hH2]; exact hB _ (by dsimp only; omega)) (by dsimp only; omega),hbl⟩,fun j op hj=>?_,?_⟩
      · have hne:ts.getD i []≠[]:=fun e=>by
          have hj':(ts.getD i [])[j]?=some op:=hj
          rw [e] at hj'; cases hj'
        obtain ⟨x,y,e1,e2,e3⟩:=hops hne
        have e4:=hbl hne
        rw [e1] at e4
        injection e4 with e5
        injection e5 with e6 e7 _
        subst e6 e7
        obtain ⟨c1,c2,c3⟩:=e3 j op hj
        exact ⟨kold c1 e2,kold c2 e2,kold c3 e2⟩
      · have:=hlen i hi
        dsimp only
        omega
    obtain ⟨bs,hbs⟩:∃ bs,bs=playBs ts L LB TB mb (List.range ts.length):=⟨_,rfl⟩
    have hbl:bs.length=ts.length:=by rw [hbs]; simp [playBs]
    have hbg:∀ i b,bs[i]?=some b→i < ts.length∧b=⟨clo LB TB mb i,(ts.getD i []).length,adv L i 0⟩:=fun i b e=>by
      have hi:i < ts.length:=by rw [← hbl]; exact (List.getElem?_eq_some_iff.1 e).1
      refine ⟨hi,?_⟩
      rw [hbs] at e
      unfold playBs at e
      rw [List.getElem?_map,List.getElem?_range hi] at e
      exact (Option.some.inj e).symm
    have hM:PlayM mb K L ⟨[],[],fun _=>0⟩ E2 w2:=by
      refine ⟨hmbH,fun b o hk=>by rw [hKe] at hk; exact hk,⟨.slice none 0 0,hmb,⟨by simp [mksV],.inl ⟨rfl,rfl⟩⟩,fun g e=>(by cases e)⟩,fun ob ho=>(by cases ho),by rw [sumTo_zero]; rfl,fun t=>Nat.zero_le _⟩
    rw [← hbl]
    refine run_holds (D:=playD mb K L) (s:=⟨[],[],fun _=>0⟩) (bs:=bs) (picks:=picks) (drain:=drain) (ba:=(aa.map (·.block)).getD 0) (bo:=0) (pb:=pb) (po:=po) (by rw [hbl]; exact hN8) hnp (fun b hb=>?_) (fun hne=>?_) hpa hp64 (fun s E' w' m i b hi=>?_) (fun s E' w' m i p hi=>?_) (fun i b hi=>?_) (fun i b hi=>?_) (fun _ _=>rfl) (hE.roleH.trans hrole) (fun b=>hE.mode b (hmode b)) hM (fun z E' w' hz kk m=>?_)
    · obtain ⟨i,hi⟩:=List.mem_iff_getElem?.1 hb
      obtain ⟨hi',rfl⟩:=hbg i b hi
      have:=hlen i hi'
      dsimp only
      omega
    · have:0 < ts.length:=by rw [← hbl]; exact List.length_pos_iff.2 hne
      obtain ⟨g,rfl,_⟩:=hvf this
      rfl
    · obtain ⟨hi',rfl⟩:=hbg i b hi
      obtain ⟨g,rfl,hg1,hg2⟩:=hvf (by omega)
      have h1:=hg2 i (clo LB TB mb i) (by rw [List.getElem?_map,List.getElem?_range hi']; rfl)
      have m':PlayM mb K L s E' w':=m
      obtain ⟨k1,k2,_⟩:=m'.konst _ _ (kc h1 (by rw [hH2]; exact hB _ (by dsimp only; omega)) (by dsimp only; omega))
      exact ⟨k1,k2⟩
    · have m':PlayM mb K L s E' w':=m
      obtain ⟨q1,q2⟩:=hps i p hi
      obtain ⟨k1,k2,_⟩:=m'.konst _ _ (kold q1 q2)
      exact ⟨k1,k2⟩
    · obtain ⟨hi',rfl⟩:=hbg i b hi
      exact bornV_clo (fb:=67) (fn:=Try.f67) Try.func67 rfl rfl (play_born (hPT i hi') hbound)
    · obtain ⟨hi',rfl⟩:=hbg i b hi
      exact play_start i
    · have m':PlayM mb K L z.1 E' w':=m
      obtain ⟨mv,r1,r2,r3⟩:=m'.row
      obtain ⟨A,mcap,rfl⟩:=owns_slice r2
      refine play_out hs2 t7' (obj_cell (v:=.slice A z.1.ms.length mcap) r1 rfl) m'.mbH hd (fun E3 w3 hE3 hK3 hold3=>?_)
      have hH3:E3.H=E'.H:=hE3.H'
      have hS3:Stands E w E' w':=fun b o h1 h2=>by
        obtain ⟨a1,a2⟩:=hS2 b o h1 h2
        have hlt:=(Array.getElem?_eq_some_iff.1 h2).1
        obtain ⟨k1,k2,_⟩:=m'.kobj b o (by rw [hKe]; exact ⟨a2,a1,by omega⟩)
        exact ⟨k2,k1⟩
      refine hc E3 w3 _ z.1.ms ⟨(hK.trans kk).trans hK3,hS3.trans (fun b o h1 h2=>⟨by rw [hH3]; exact h1,by rw [hold3 b h1 (Array.getElem?_eq_some_iff.1 h2).1]; exact h2⟩),?_,fun g e=>?_,fun h=>absurd h h8,fun _=>?_⟩
      · refine owns_lower (ownsRow_same r2 (fun g hg=>hold3 g (r3 g hg).1 (r2.lt g hg).2)) (by omega)
      · rw [hH3]; exact (r3 g e).1
      · have p1:∀ x0,StartR bs ([],⟨[],[],fun _=>0⟩) x0→PR ts (x0.1,x0.2,0) pa0:=fun x0 hx0=>by
          rw [hbs,hL,List.range_eq_range'] at hx0
          exact start_pr ts.length 0 _ x0 (by omega) hx0 rfl rfl rfl (fun t ht=>absurd ht (by omega))
        have p2:bs.length=0→PR ts ([],⟨[],[],fun _=>0⟩,0) pa0:=fun h0=>⟨by dsimp only [List.length_nil]; omega,rfl,rfl,fun t ht=>absurd ht (by omega)⟩
        obtain ⟨a',st,hr,hg⟩:=Sim.run (R:=PR ts) (G:=playG ts) (D:=playD mb K L) (by rw [hL]; exact play_sim) hz hbl pa0 p1 p2
        exact ⟨a',_,hg,hr.ms.symm⟩
end
section
variable {P:Program} {h:Nat} {F:Machine→Trace→Prop} {E:Env} {w:World} {n:Nat} {fr:Frame} {a:Act} {k:List Item} {cs:List Frame} {ops:Array Oper} {i:Nat} {rest:List Nat} {o:Oper}
theorem HGn.mkV {c:Array Value} {t:TypeId} (val:Nat→Value) (hrole:E.role h=.gone) (ho:ops[i]?=some o) (hw:Region.wanted o (yielded ops a.tmps)=true) (hk:fr.kind≠.early)
    (hr:∀ w₁:World,(execOp a.eval o).run P w₁=.ok (.value (val w₁.heap.size)) (w₁.alloc (.cells c t))∧(execOp a.eval o).events P w₁ #[]=#[]) (hg:(∀ b,w.heap.size≤b→E.H b=none)→E.W w.heap.size=false→HGn P h F E (w.alloc (.cells c t)) n (G (fr.at (a.put o.dst (val w.heap.size)) (.inRegion ops rest :: k)) cs)) :
    HGn P h F E w (n+1) (G (fr.at a (.inRegion ops (i :: rest) :: k)) cs):=by
  refine HG.withB fun hB _ _=>HG.withH fun hWH _=>?_
  have hWn:E.W w.heap.size=false:=by
    cases e:E.W w.heap.size with
    | false=>rfl
    | true=>have:=hWH _ e; rw [hB _ (Nat.le_refl _)] at this; cases this
  replace hg:=hg hB hWn
  refine HG.open fun E1 w1 hA ⟨gs,T,q,C,_⟩=>?_
  have hAw:=hA.2
  have hW1:E1.W=E.W:=hA.1.W'
  refine (HG.clo P h F E1).own rfl fun w₂ h2=>?_
  obtain ⟨e1,e2⟩:=hr w₂
  have hsz:w₂.heap.size=w.heap.size:=h2.size.trans hAw.size
  have hget:∀ b,b < w₂.heap.size→(w₂.alloc (.cells c t)).heap[b]?=w₂.heap[b]?:=fun b hb=>alloc_old hb
  refine ⟨G (fr.at (a.put o.dst (val w.heap.size)) (.inRegion ops rest :: k)) cs,w₂.alloc (.cells c t),#[],?_,⟨by rw [alloc_size]; omega,fun a' ⟨i,hi⟩=>?_,fun c' ⟨i,home,hi⟩=>?_,fun b hb x st sm e' hx=>?_,fit_alloc,fun ev he=>by simp at he,⟨rfl,rfl⟩⟩,?_⟩
  · rw [stepG_value ho hw hk e1]
    unfold listed
    rw [e2,seen_none,hsz]
  · have hl:a'.block < w₂.heap.size:=by rw [h2.size]; exact C.S_lt hi
    unfold World.cell?
    rw [hget _ hl]
  · have hih:i≠h:=fun z=>by
      subst z
      have:=hA.1.roleH
      rw [hi,hrole] at this
      cases this
    obtain ⟨k',hk'⟩:=C.chans i c' home hih (C.seat_lt hi) hi
    exact hget _ (by rw [h2.size]; exact (Array.getElem?_eq_some_iff.1 hk').1)
  · exact ⟨x,by rw [hget _ (Array.getElem?_eq_some_iff.1 hx).1]; exact hx⟩
  · have hA2:Aw E.W (w.alloc (.cells c t)) (w₂.alloc (.cells c t)):=aw_alloc (hAw.trans _ _ _ (by rw [← hW1]; exact h2)) hWn
    exact (show HG P h F E _ _ from hg).at ⟨hA.1,hA2⟩
end
def standD (K:Nat→Obj→Prop):Prot Unit Empty where
  M _ E w:=∀ b o,K b o→w.heap[b]?=some o∧E.H b=none
  next ℓ:=nomatch ℓ
  fits ℓ:=nomatch ℓ
  who ℓ:=nomatch ℓ
  init _ _:=True
  mono ℓ:=nomatch ℓ
  fresh ℓ:=nomatch ℓ
  tal ℓ:=nomatch ℓ
  closed:=fun s E w E' w' m hb b o hk=>by
    obtain ⟨k1,k2⟩:=m b o hk
    obtain ⟨h1,h2⟩:=hb b (Array.getElem?_eq_some_iff.1 k1).1 k2
    exact ⟨h2.trans k1,h1⟩
theorem stands_alloc {E:Env} {w:World} {o:Obj}:Stands E w E (w.alloc o):=fun b x h1 h2=>⟨h1,by rw [alloc_old (Array.getElem?_eq_some_iff.1 h2).1]; exact h2⟩
section
variable {h:Nat} {F:Machine→Trace→Prop} {E:Env} {w:World} {b₀:Frame} {a₀:Act} {ops₀:Array Oper} {i₀:Nat} {rest₀:List Nat} {k₀:List Item} {cl:List Frame}
theorem run_empty {picks:List Int} {drain:Bool} {pv:Value} (hP:IntsAt E w pv picks) (hnp:picks.length≤1000000000000000) (hp64:∀ p ∈ picks,-9223372036854775808≤p∧p≤9223372036854775807) (hrole:E.role h=.gone) (hmode:∀ b,E.mode b=0)
    (hc:∀ E' w',Kept h none E w E' w'→Stands E w E' w'→HG Try.prog h F E' (G (b₀.at (a₀.put ((ops₀[i₀]?).bind (·.dst)) (.int .i64 0)) (.inRegion ops₀ rest₀ :: k₀)) cl) w') :
    HG Try.prog h F E (entry 29 Try.f29 #[.slice none 0 0,pv,.bool drain] (b₀.at a₀ (.inRegion ops₀ (i₀ :: rest₀) :: k₀) :: cl)) w:=by
  obtain ⟨pa,pb,po,pcap,rfl,hpa,hps⟩:=hP.at_
  refine run_holds (D:=standD (fun b o=>w.heap[b]?=some o∧E.H b=none)) (s:=()) (bs:=[]) (picks:=picks) (drain:=drain) (ba:=0) (bo:=0) (pb:=pb) (po:=po) (by simp) hnp (fun b hb=>by cases hb) (fun h=>absurd rfl h) hpa hp64 (fun s E' w' m i b hi=>by simp at hi) (fun s E' w' m i p hi=>?_) (fun i b hi=>by simp at hi) (fun i b hi=>by simp at hi) trivial hrole hmode (fun b o hk=>hk) (fun z E' w' hz kk m=>?_)
  · obtain ⟨q1,q2⟩:=hps i p hi
    have hl:=World.block_lt_of_cell? w _ q1
    obtain ⟨k1,k2⟩:=m pb _ ⟨Array.getElem?_eq_getElem hl,q2⟩
    exact ⟨(World.cell?_of_block (by rw [k1,Array.getElem?_eq_getElem hl])).trans q1,k2⟩
  · unfold RunR at hz
    rw [if_pos (by rfl)] at hz
    rw [hz]
    exact hc E' w' kk (fun b o h1 h2=>by
      obtain ⟨k1,k2⟩:=m b o ⟨h2,h1⟩
      exact ⟨k2,k1⟩)
end
end Go.Proofs.Ytimlbbleblijnaa.Co

namespace Go.Proofs.Ytimlbbleblijnaa.Co
open Go Go.Conc Go.RowKit
theorem stepG_done {P:Program} {b:Frame} {a:Act} {fn:Func} {todo:List Item} {w:World} {t:Tmp} (hn:b.kind=.normal) (hd:a.defers=[]) (hf:P.funcs[b.fn]?=some fn) (hr:fn.results=#[.tmp t]) (hin:P.inits.idxOf? b.fn=none) :
    stepG P true (G { b.at a todo with mode:=.returning } []) w=.ended (.done (a.tmps.getD t undef)) w #[]:=by
  have h1:=results_tmp (fn:=fn) hr a.tmps P w
  have h2:=fun es=>events_results_tmp (fn:=fn) (P:=P) (w:=w) hr a.tmps es
  simp [G,stepG,unwind,doReturn,Frame.at,hn,hd,hf,h1,h2,hin,seen,GStep.after]
def FinF (P:Program) (Post:Value→World→Prop) (m:Machine) (T:Trace):Prop :=
  ∃ N last o w' t',runNT P (N+1) m T=(.ended o w',t')∧runN P N m=.next last∧step P last=.ended o w'∧Go.Conc.Good P Post last o w' t'
section
variable {P:Program} {E:Env} {w:World} {Post:Value→World→Prop}
theorem HG.done {b:Frame} {a:Act} {fn:Func} {todo:List Item} {t:Tmp} {v:Value} (hn:b.kind=.normal) (hd:a.defers=[]) (hf:P.funcs[b.fn]?=some fn) (hr:fn.results=#[.tmp t]) (hin:P.inits.idxOf? b.fn=none) (hv:a.tmps[t]?=some v) (hgone:∀ i,0 < i→E.role i=.gone)
    (hpost:∀ w',SameIo E.io w'→Aw E.W w w'→Post v w'):HG P 0 (FinF P Post) E (G { b.at a todo with mode:=.returning } []) w:=by
  intro E' w' gs T q sl hA C ha
  have hret:AtRet P Post E' (G { b.at a todo with mode:=.returning } []) w':=by
    refine ⟨rfl,fun i hi=>hA.1.gone i (hgone i hi),fun w2 h2=>⟨_,_,stepG_done hn hd hf hr hin,fun e he=>by simp at he,?_⟩⟩
    rw [show a.tmps.getD t undef=v by simp [Array.getD_eq_getD_getElem?,hv]]
    have hW:E'.W=E.W:=hA.1.W'
    rw [hW] at h2
    refine hpost w2 ?_ (hA.2.trans _ _ _ h2)
    have h3:=C.io
    rw [hA.1.io] at h3
    exact h3.trans ⟨h2.os,h2.output⟩
  obtain ⟨N,last,o,w2,t2,h1,h2,h3,h4⟩:=C.ends ha hret (sl:=sl)
  exact ⟨0,_,_,rfl,N,last,o,w2,t2,h1,h2,h3,h4⟩
theorem hg_run {g:Goroutine} {W:World} (hg:HG P 0 (FinF P Post) (Env.zero W) g W):∃ M last o w' t',runNT P (M+1) (solo g W) #[]=(.ended o w',t')∧runN P M (solo g W)=.next last∧step P last=.ended o w'∧Go.Conc.Good P Post last o w' t':=by
  obtain ⟨N,m',T',h1,N2,last,o,w',t',k1,k2,k3,k4⟩:=hg (Env.zero W) W #[g] #[] (fun _=>0) none ⟨.refl 0 _,Aw.refl _ _⟩ (Co.start P g W) rfl
  refine ⟨N+N2,last,o,w',t',?_,?_,k3,k4⟩
  · have:=runNT_add P N (N2+1) (crowd #[g] W none) #[]
    rw [h1] at this
    show runNT P (N+(N2+1)) (crowd #[g] W none) #[]=_
    rw [this]
    exact k1
  · have h5:runN P N (crowd #[g] W none)=.next m':=by rw [← runNT_fst _ _ _ #[],h1]
    show runN P (N+N2) (crowd #[g] W none)=_
    rw [runN_add,h5]
    exact k2
theorem below_end {W w' w2:World} {E':Env} (hk:Kept 0 none (Env.zero W) W E' w') (hs:Stands (Env.zero W) W E' w') (hio:SameIo E'.io w2) (hA:Aw E'.W w' w2):Below W.heap.size W { w2 with tape:=W.tape }:=by
  have h1:E'.io=W:=hk.le.io
  rw [h1] at hio
  have hWn:∀ b,b < W.heap.size→E'.W b=false:=fun b hb=>by
    cases e:E'.W b with
    | false=>rfl
    | true =>
      rcases hk.WN b e with z | z
      · cases z
      · omega
  refine ⟨hio.1,rfl,hio.2,?_,fun b hb=>?_⟩
  · show W.heap.size≤w2.heap.size
    rw [hA.size]; exact hk.size
  · show w2.heap[b]?=_
    rw [hA.heap b (hWn b hb)]
    cases e:(Env.zero W).H b with
    | some n=>exact hk.heap b n e rfl (by simp) hb
    | none=>rw [(hs b _ e (Array.getElem?_eq_getElem hb)).2,Array.getElem?_eq_getElem hb]
theorem law_good {f:FuncId} {fn:Func} {t:Tmp} {args:Array Value} {W:World} {v:Value} (hf:P.funcs[f]?=some fn) (hb:fn.body.isSome=true) (hr:fn.results=#[.tmp t]) (hin:P.inits.idxOf? f=none)
    (hg:∀ F,(∀ E' w' T todo,Kept 0 none (Env.zero W) W E' w'→Stands (Env.zero W) W E' w'→T[t]?=some v→HG P 0 F E' (G { (base f).at ⟨T,[]⟩ todo with mode:=.returning } []) w')→HG P 0 F (Env.zero W) (entry f fn args []) W)
    (hpost:∀ w2,Below W.heap.size W { w2 with tape:=W.tape }→Post v w2) :
    ∃ M last o w' t',runNT P (M+1) (solo (G (Frame.enter P f args .normal) []) W) #[]=(.ended o w',t')∧runN P M (solo (G (Frame.enter P f args .normal) []) W)=.next last∧step P last=.ended o w'∧Go.Conc.Good P Post last o w' t':=by
  cases hb':fn.body with
  | none=>rw [hb'] at hb; cases hb
  | some c =>
    rw [enter_at args hf hb']
    refine hg_run ?_
    have:=hg (FinF P Post) (fun E' w' T todo hk hs hv=>HG.done (b:=base f) (a:=⟨T,[]⟩) rfl rfl hf hr hin hv (fun i hi=>hk.le.gone i rfl) (fun w2 h1 h2=>hpost w2 (below_end hk hs h1 h2)))
    unfold entry at this
    rw [hb'] at this
    exact this
end
section
variable {H:Type} {enc:TypeId × Value→H}
theorem post_tape {P:Program} {f:Func} {s:ChangeSpec} {apart fresh handsOn:Bool} {W W':World} {args:Array Value} {v:Value} (tp:Tape)
    (h:s.post enc P f apart fresh handsOn false W args v { W' with tape:=tp }):s.post enc P f apart fresh handsOn false W args v W':=by
  obtain ⟨ds,gs,before,pr,pa,pv,h1,h2,h3,h4,h5,h6⟩:=h
  exact ⟨ds,gs,before,pr,pa,pv,h1,h2.of_heap (by rfl),h3.of_heap (by rfl),h4.of_heap (by rfl),h5,fun ha=>(by cases ha)⟩
end
end Go.Proofs.Ytimlbbleblijnaa.Co

namespace Go.Proofs.Ytimlbbleblijnaa.Co
open Go Go.Conc
section
variable {P:Program} {ad:Addr} {x:World} {k:IntKind}
end
theorem w64 (n:Int):IntKind.i64.wrap n=RowKit.wrap64 n:=by
  rw [IntKind.wrap_i64]
  unfold RowKit.wrap64
  omega
def WordAt (x:World) (a:Addr) (v:Int):Prop:=a.spot=none∧∃ (c:Array Value) (t:TypeId),x.heap[a.block]?=some (.cells c t)∧c[a.off]?=some (.int .i64 v)
theorem WordAt.cell {x:World} {a:Addr} {v:Int} (h:WordAt x a v):x.cell? a=some (.int .i64 v):=by
  obtain ⟨h0,c,t,h1,h2⟩:=h
  obtain ⟨b,o,sp⟩:=a
  cases h0
  exact obj_cell h1 h2
theorem WordAt.thaw {x:World} {a:Addr} {v:Int} (h:WordAt x a v):x.frozen? a=false:=by
  obtain ⟨h0,c,t,h1,h2⟩:=h
  obtain ⟨b,o,sp⟩:=a
  cases h0
  exact obj_thaw h1 o
theorem WordAt.same {x x':World} {a:Addr} {v:Int} (h:WordAt x a v) (hs:x'.heap[a.block]?=x.heap[a.block]?):WordAt x' a v:=by
  obtain ⟨h0,c,t,h1,h2⟩:=h
  exact ⟨h0,c,t,hs.trans h1,h2⟩
section
variable {x:World} {b o:Nat} {v n:Int}
end
end Go.Proofs.Ytimlbbleblijnaa.Co
