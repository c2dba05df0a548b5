/- Lemmas for the laws of this seat, laid together of POa, PJl, PJm, PGed. -/
import Derived.Test.YtimlbbleblijnaaX18
import Derived.Test.YtimlbbleblijnaaX23
import Derived.Laws.CopyOwn

open Go.ConcR.Gen (base_kind baseD_kind)
set_option linter.unusedVariables false
set_option linter.unusedSimpArgs false
set_option maxRecDepth 100000
set_option maxHeartbeats 4000000
namespace Go.Proofs.Ytimlbbleblijnaa.Co
open Go Go.Conc Go.RowKit
open Go.ConcN (sumTo upd sumTo_upd upd_ne upd_same sumTo_congr le_sumTo)
def RFg {A:Type} (G:Game A) (picks:List Int) (drain:Bool) (a:A) (K nxt:Nat) (z:A × Int):Prop :=
 (0 < G.n∧((K≤picks.length∧nxt=0∧(if drain then G.Drn (G.picks (a,(K:Int)) (picks.drop K)) 0 z else z=G.picks (a,(K:Int)) (picks.drop K)))∨(picks.length≤K∧drain=true∧nxt < G.n∧G.Drn (a,(K:Int)) nxt z)))∨(G.n=0∧z=(a,(K:Int)))
theorem rfg_start {A:Type} {G:Game A} {a0:A} {picks:List Int} {drain:Bool} {z:A × Int} (h:G.Run picks drain a0 z):RFg G picks drain a0 0 0 z:=by
 unfold Game.Run at h
 by_cases hn:G.n=0
 ·rw [if_pos hn] at h
  exact .inr ⟨hn,h⟩
 ·rw [if_neg hn] at h
  exact .inl ⟨Nat.pos_of_ne_zero hn,.inl ⟨Nat.zero_le _,rfl,by simpa using h⟩⟩
theorem rfg_next {A:Type} {G:Game A} {picks:List Int} {drain:Bool} {a:A} {K nxt:Nat} {z:A × Int} (h:RFg G picks drain a K nxt z) {r:Int} {K' nxt':Nat} (hr:(r,K',nxt')=nextF picks drain G.n (G.alive a) K nxt) :
  (r = -2∧z=(a,(K:Int))∧K'=K)∨(r = -1∧K'=K+1∧K < picks.length∧RFg G picks drain a K' nxt' z)∨(∃ t:Nat,r=(t:Int)∧t < G.n∧G.alive a t=true∧K'=K+1∧RFg G picks drain (G.pick a t ((K:Int)+1)) K' nxt' z):=by
 unfold nextF at hr
 rcases h with ⟨hn,h⟩ | ⟨hn,rfl⟩
 ·rw [if_neg (by omega)] at hr
  rcases h with ⟨h1,h2,h3⟩ | ⟨h1,h2,h3,h4⟩
  ·subst h2
   cases hp:picks[K]? with
   | some p =>
     rw [hp] at hr
     have hlt:=(List.getElem?_eq_some_iff.1 hp).1
     have hdrop:picks.drop K=p :: picks.drop (K+1):=by
      rw [List.drop_eq_getElem_cons hlt]
      obtain ⟨_,e⟩:=List.getElem?_eq_some_iff.1 hp
      rw [e]
     have hpk:G.picks (a,(K:Int)) (picks.drop K)=G.picks ((if G.alive a (pickIx p G.n)=true then G.pick a (pickIx p G.n) ((K:Int)+1) else a),((K+1:Nat):Int)) (picks.drop (K+1)):=by
      rw [hdrop]
      unfold Game.picks
      rw [List.foldl_cons]
      rfl
     rw [hpk] at h3
     dsimp only at hr
     by_cases ha:G.alive a (pickIx p G.n)=true
     ·rw [if_pos ha] at hr h3
      simp only [Prod.mk.injEq] at hr
      obtain ⟨rfl,rfl,rfl⟩:=hr
      exact .inr (.inr ⟨_,rfl,pickIx_lt p hn,ha,rfl,.inl ⟨hn,.inl ⟨by omega,rfl,h3⟩⟩⟩)
     ·rw [if_neg ha] at hr h3
      simp only [Prod.mk.injEq] at hr
      obtain ⟨rfl,rfl,rfl⟩:=hr
      exact .inr (.inl ⟨rfl,rfl,hlt,.inl ⟨hn,.inl ⟨by omega,rfl,h3⟩⟩⟩)
   | none =>
     rw [hp] at hr
     have hle:=List.getElem?_eq_none_iff.1 hp
     have hdrop:picks.drop K=[]:=List.drop_eq_nil_of_le hle
     rw [hdrop] at h3
     have hz:G.picks (a,(K:Int)) []=(a,(K:Int)):=rfl
     rw [hz] at h3
     dsimp only at hr
     cases drain with
     | false =>
       simp only [Bool.false_eq_true,if_false] at hr h3
       simp only [Prod.mk.injEq] at hr
       obtain ⟨rfl,rfl,rfl⟩:=hr
       exact .inl ⟨rfl,h3,rfl⟩
     | true =>
       simp only [if_true] at hr h3
       cases h3 with
       | stop h =>
         have h':nx (G.alive a) G.n G.n 0=none:=h
         rw [h'] at hr
         simp only [Prod.mk.injEq] at hr
         obtain ⟨rfl,rfl,rfl⟩:=hr
         exact .inl ⟨rfl,rfl,rfl⟩
       | @go _ _ t _ h d =>
         have h':nx (G.alive a) G.n G.n 0=some t:=h
         obtain ⟨b1,b2⟩:=nx_some hn h'
         rw [h'] at hr
         simp only [Prod.mk.injEq] at hr
         obtain ⟨rfl,rfl,rfl⟩:=hr
         exact .inr (.inr ⟨t,rfl,b1,b2,rfl,.inl ⟨hn,.inr ⟨by omega,rfl,Nat.mod_lt _ hn,d⟩⟩⟩)
  ·subst h2
   rw [List.getElem?_eq_none h1] at hr
   simp only [if_true] at hr
   cases h4 with
   | stop h =>
     have h':nx (G.alive a) G.n G.n nxt=none:=h
     rw [h'] at hr
     simp only [Prod.mk.injEq] at hr
     obtain ⟨rfl,rfl,rfl⟩:=hr
     exact .inl ⟨rfl,rfl,rfl⟩
   | @go _ _ t _ h d =>
     have h':nx (G.alive a) G.n G.n nxt=some t:=h
     obtain ⟨b1,b2⟩:=nx_some h3 h'
     rw [h'] at hr
     simp only [Prod.mk.injEq] at hr
     obtain ⟨rfl,rfl,rfl⟩:=hr
     exact .inr (.inr ⟨t,rfl,b1,b2,rfl,.inl ⟨hn,.inr ⟨by omega,rfl,Nat.mod_lt _ hn,d⟩⟩⟩)
 ·rw [if_pos hn] at hr
  simp only [Prod.mk.injEq] at hr
  obtain ⟨rfl,rfl,rfl⟩:=hr
  exact .inl ⟨rfl,rfl,rfl⟩
theorem rfg_nxt {A:Type} {G:Game A} {picks:List Int} {drain:Bool} {a:A} {K nxt:Nat} {z:A × Int} (h:RFg G picks drain a K nxt z) (hn:0 < G.n):nxt < G.n:=by
 rcases h with ⟨_,⟨_,rfl,_⟩ | ⟨_,_,h,_⟩⟩ | ⟨h,_⟩
 ·exact hn
 ·exact h
 ·omega
theorem picksg_k {A:Type} {G:Game A}:∀ (l:List Int) (a:A × Int),(G.picks a l).2=a.2+l.length
 | [],a=>by simp [Game.picks]
 | p :: l,a=>by
   have e:G.picks a (p :: l)=G.picks (G.pk a (pickIx p G.n)) l:=by
    unfold Game.picks
    rw [List.foldl_cons]
   rw [e,picksg_k l]
   show a.2+1+_=_
   rw [List.length_cons]
   push_cast
   omega
theorem drng_k {A:Type} {G:Game A} {a z:A × Int} {x:Nat} (h:G.Drn a x z):a.2≤z.2:=by
 induction h with
 | stop _=>exact Int.le_refl _
 | go _ _ ih=>dsimp only at ih; omega
theorem rfg_le {A:Type} {G:Game A} {picks:List Int} {drain:Bool} {a:A} {K nxt:Nat} {z:A × Int} (h:RFg G picks drain a K nxt z):(K:Int)≤z.2:=by
 rcases h with ⟨_,⟨_,_,h⟩ | ⟨_,_,_,h⟩⟩ | ⟨_,rfl⟩
 ·have h1:=picksg_k (G:=G) (picks.drop K) (a,(K:Int))
  dsimp only at h1
  cases drain with
  | true =>
    simp only [if_true] at h
    have:=drng_k h
    omega
  | false =>
    simp only [Bool.false_eq_true,if_false] at h
    rw [h]
    omega
 ·exact drng_k h
 ·exact Int.le_refl _
theorem picksg_ms {A:Type} {G:Game A} {mu:A→Nat} (hmu:∀ a t k,mu a≤mu (G.pick a t k)):∀ (l:List Int) (a:A × Int),mu a.1≤mu (G.picks a l).1
 | [],a=>Nat.le_refl _
 | p :: l,a=>by
   have e:G.picks a (p :: l)=G.picks (G.pk a (pickIx p G.n)) l:=by
    unfold Game.picks
    rw [List.foldl_cons]
   rw [e]
   refine Nat.le_trans ?_ (picksg_ms hmu l _)
   unfold Game.pk
   split
   ·exact hmu _ _ _
   ·exact Nat.le_refl _
theorem drng_ms {A:Type} {G:Game A} {mu:A→Nat} (hmu:∀ a t k,mu a≤mu (G.pick a t k)) {a z:A × Int} {x:Nat} (h:G.Drn a x z):mu a.1≤mu z.1:=by
 induction h with
 | stop _=>exact Nat.le_refl _
 | go _ _ ih =>
   refine Nat.le_trans ?_ ih
   exact hmu _ _ _
theorem rfg_ms {A:Type} {G:Game A} {mu:A→Nat} (hmu:∀ a t k,mu a≤mu (G.pick a t k)) {picks:List Int} {drain:Bool} {a:A} {K nxt:Nat} {z:A × Int} (h:RFg G picks drain a K nxt z):mu a≤mu z.1:=by
 rcases h with ⟨_,⟨_,_,h⟩ | ⟨_,_,_,h⟩⟩ | ⟨_,rfl⟩
 ·have h1:=picksg_ms (G:=G) hmu (picks.drop K) (a,(K:Int))
  dsimp only at h1
  cases drain with
  | true =>
    simp only [if_true] at h
    exact Nat.le_trans h1 (drng_ms hmu h)
  | false =>
    simp only [Bool.false_eq_true,if_false] at h
    rw [h]
    exact h1
 ·exact drng_ms hmu h
 ·exact Nat.le_refl _
def NxtG {A:Type} (G:Game A) (picks:List Int) (drain:Bool) (a:A) (r:Int) (K nxt:Nat) (z:A × Int):Prop :=
 (r = -2∧z=(a,(K:Int)))∨(r = -1∧RFg G picks drain a K nxt z)∨∃ t:Nat,r=(t:Int)∧t < G.n∧G.alive a t=true∧RFg G picks drain (G.pick a t (K:Int)) K nxt z
theorem nextG {A:Type} {G:Game A} {n rb eb pcap pb po K nxt:Nat} {pa:Option Addr} {picks:List Int} {drain:Bool} {a:A} {y:World} {z:A × Int} (hGn:G.n=n) (hrun:y.heap[rb]?=some (runCells (.slice pa picks.length pcap) drain K nxt)) (hen:y.heap[eb]?=some (.cells ((List.range n).map fun t=>.bool (!G.alive a t)).toArray 4))
  (hf:RFg G picks drain a K nxt z) (hz2:z.2≤10000000000000000) (hn:n≤8) (hnp:picks.length≤100000000000) (hp64:∀ p ∈ picks,-9223372036854775808≤p∧p≤9223372036854775807)
  (hpa:picks≠[]→pa=some ⟨pb,po,none⟩) (hps:∀ i p,picks[i]?=some p→y.cell? ⟨pb,po+i,none⟩=some (.int .i64 p)) (d2:rb≠eb) :
  Calls Try.prog 66 #[.pointer (some ⟨rb,0,none⟩),.slice (some ⟨eb,0,none⟩) n n] y fun e y'=>∃ r K' nxt',e=.returned (.int .i64 r)∧RunTo rb (.slice pa picks.length pcap) drain K' nxt' y y'∧NxtG G picks drain a r K' nxt' z∧(r≠-2→K'=K+1)∧K≤K':=by
 subst hGn
 have hle:=rfg_le hf
 refine (next_any (alive:=G.alive a) hn (by omega) (by omega) hp64 (rfg_nxt hf) hrun hpa hps (fun t ht=>row_cell hen ht) d2).mono ?_
 rintro e y' ⟨rfl,hr⟩
 obtain ⟨r,K',nxt',hres⟩:∃ r K' nxt',(r,K',nxt')=nextF picks drain G.n (G.alive a) K nxt:=⟨_,_,_,rfl⟩
 rw [← hres] at hr ⊢
 have hs:=rfg_next hf hres
 refine ⟨r,K',nxt',rfl,hr,?_,fun hne=>?_,?_⟩
 ·rcases hs with ⟨e1,e2,e3⟩ | ⟨e1,_,_,e2⟩ | ⟨t,e1,e2,e3,e4,e5⟩
  ·exact .inl ⟨e1,by rw [e2,e3]⟩
  ·exact .inr (.inl ⟨e1,e2⟩)
  ·refine .inr (.inr ⟨t,e1,e2,e3,?_⟩)
   rw [e4] at e5 ⊢
   push_cast
   exact e5
 ·rcases hs with ⟨e1,_⟩ | ⟨_,e2,_⟩ | ⟨t,_,_,_,e4,_⟩
  ·exact absurd e1 hne
  ·exact e2
  ·exact e4
 ·rcases hs with ⟨_,_,e3⟩ | ⟨_,e2,_⟩ | ⟨t,_,_,_,e4,_⟩ <;> omega
theorem measG {A:Type} {z:A × Int} {r2:Int} {K K2:Nat} (hk:r2≠-2→K2=K+1) (hk2:K≤K2) (hle:(K:Int)≤z.2):2 * (z.2.toNat+1 - K2)+rWt (.int .i64 r2) < 2 * (z.2.toNat+1 - K)+1:=by
 unfold rWt
 by_cases h:r2 = -2
 ·dsimp only
  rw [if_pos h]
  omega
 ·dsimp only
  rw [if_neg h,hk h]
  omega
theorem kOf_run {rb K nxt:Nat} {pv:Value} {drain:Bool} {x:World} (h:x.heap[rb]?=some (runCells pv drain K nxt)):Co.kOf rb x=K:=by
 unfold Co.kOf
 rw [obj_cell h (o:=2) rfl]
 simp [natOfV]
theorem after_any {x:World} {la:Option Addr} {lb lo cap i:Nat} {l:List Op3} (hla:l≠[]→la=some ⟨lb,lo,none⟩) (hops:∀ j op,l[j]?=some op→x.cell? ⟨lb,lo+j * 3,none⟩=some (.int .i64 op.1)) (hi:i≤l.length) (hl:l.length≤1000000000000) :
  Calls Try.prog 79 #[.slice la l.length cap,.int .i64 (i:Int)] x fun e x'=>e=.returned (.int .i64 (aftI l i:Int))∧x'=x:=by
 obtain ⟨q,hq⟩:∃ q,q=aftI l i:=⟨_,rfl⟩
 rw [← hq]
 have hqi:=aftI_ge l i
 have hql:=aftI_le hi
 have hqo:q < l.length→∃ op,l[q]?=some op∧isC op.1=true:=fun h=>by
  rw [hq] at h ⊢
  exact aftI_op _ _ rfl h
 rw [← hq] at hqi hql
 replace hops:=Lib.hid hops
 replace hqo:=Lib.hid hqo
 replace hq':=Lib.hid hq.symm
 clear hq
 go_enter Try.func79,Try.ntmps79
 go_wp2_with fail
 go_loopw [1] (fun v wr=>∃ j:Nat,v=.int .i64 (j:Int)∧i≤j∧j≤q∧Hid (aftI l j=q)∧wr=x) (fun v _=>q+1 - natOfV v)
 case atStart=>exact ⟨i,rfl,Nat.le_refl _,hqi,hq',rfl⟩
 case round =>
  obtain ⟨j,rfl,hj1,hj2,hj3,rfl⟩:=hrel
  by_cases hlt:j < l.length
  ·obtain rfl:=hla (fun e=>by rw [e] at hlt; exact absurd hlt (Nat.not_lt_zero _))
   obtain ⟨op,hop⟩:∃ op,l[j]?=some op:=⟨_,List.getElem?_eq_getElem hlt⟩
   have c1:=hops.out j op hop
   have g1:(j:Int) < (l.length:Int):=by omega
   have g2:(0:Int)≤(j:Int):=by omega
   have hjw:IntKind.i64.wrap ((j:Int)+1)=((j+1:Nat):Int):=by rw [IntKind.wrap_i64]; omega
   replace hop:=Lib.hid hop
   obtain ⟨cb,hcb⟩:∃ b,b=isC op.1:=⟨_,rfl⟩
   have his:∀ W:World,Calls Try.prog 32 #[.int .i64 op.1] W fun e W'=>e=.returned (.bool cb)∧W'=W:=fun W=>by rw [hcb]; exact is_any
   replace hcb:=Lib.hid hcb
   go_wp2_with fail
   refine (his _).mono ?_
   rintro _ _ ⟨rfl,rfl⟩
   cases hC:cb with
   | true =>
     have e:j=q:=by rw [← hj3.out]; exact (aftI_call hop.out (by rw [← hcb.out,hC])).symm
     subst hC
     go_wp2_with fail
     go_ret
     exact ⟨rfl,rfl⟩
   | false =>
     have hne:j≠q:=fun e=>by
      obtain ⟨o2,h1,h2⟩:=hqo.out (by omega)
      rw [← e,hop.out] at h1
      cases h1
      rw [← hcb.out,hC] at h2
      cases h2
     have hj3':aftI l (j+1)=q:=by rw [← hj3.out]; exact (aftI_skip hop.out (by rw [← hcb.out,hC])).symm
     replace hj3':=Lib.hid hj3'
     subst hC
     go_wp2
     have e9:natOfV (.int .i64 ((j:Int)+1))=j+1:=by simp [natOfV]
     exact ⟨⟨j+1,by rw [Int.natCast_add]; rfl,by omega,by omega,hj3',by trivial⟩,by rw [e9]; simp [natOfV]; omega⟩
  ·have hjl:j=l.length:=by omega
   have hjq:j=q:=by rw [← hj3.out]; exact (aftI_end (by omega)).symm
   have g1:¬ (j:Int) < (l.length:Int):=by omega
   have hr:Value.int .i64 (j:Int)=Value.int .i64 (q:Int):=by rw [hjq]
   replace hr:=Lib.hid hr
   replace hjq:=Lib.hid hjq
   replace hjl:=Lib.hid hjl
   go_wp2
   go_ret
   rw [hr.out]
   exact ⟨rfl,rfl⟩
def hrow (n:Nat) (v:Nat→Int) (i:Nat):Obj:=.cells ((List.range n).map fun j=>Value.int .i64 (if j < i then v j else 0)).toArray 2
theorem hrow_set {n i:Nat} {v:Nat→Int} (hi:i < n):Obj.cells (((List.range n).map fun j=>Value.int .i64 (if j < i then v j else 0)).toArray.setIfInBounds i (.int .i64 (v i))) 2=hrow n v (i+1):=by
 unfold hrow
 rw [List.setIfInBounds_toArray]
 congr 2
 apply List.ext_getElem?
 intro j
 by_cases e:i=j
 ·subst e
  rw [List.getElem?_set_self (by simpa using hi),List.getElem?_map,List.getElem?_range hi]
  simp
 ·rw [List.getElem?_set_ne e]
  by_cases hj:j < n
  ·rw [List.getElem?_map,List.getElem?_map,List.getElem?_range hj]
   simp only [Option.map_some]
   by_cases h1:j < i
   ·rw [if_pos h1,if_pos (by omega)]
   ·rw [if_neg h1,if_neg (by omega)]
  ·simp [hj]
theorem hrow_0 (n:Nat) (v:Nat→Int):hrow n v 0=.cells ((List.range n).map fun _=>Value.int .i64 0).toArray 2:=by simp [hrow]
theorem hrow_n (n:Nat) (v:Nat→Int):hrow n v n=.cells ((List.range n).map fun j=>Value.int .i64 (v j)).toArray 2:=by
 unfold hrow
 congr 2
 refine List.map_congr_left fun j hj=>?_
 rw [if_pos (List.mem_range.1 hj)]
def KH (K:Nat→Obj→Prop) (wb hb n:Nat) (v:Nat→Int) (i:Nat) (b:Nat) (o:Obj):Prop:=KW K wb n v b o∨(b=hb∧o=hrow n v i)
noncomputable def uHead:Code:=match uS14 with | .seq x _=>x | _=>.skip
noncomputable def uL:Code:=match uS14 with | .seq _ (.block _ (.loop c))=>c | _=>.skip
noncomputable def uR15:Code:=match uL with | .seq x _=>x | _=>.skip
noncomputable def uC15:Code:=match uL with | .seq _ (.seq x _)=>x | _=>.skip
noncomputable def uIn:Code:=match uL with | .seq _ (.seq _ (.seq (.block _ x) _))=>x | _=>.skip
noncomputable def uR18:Code:=match uL with | .seq _ (.seq _ (.seq _ x))=>x | _=>.skip
noncomputable def uR16:Code:=match uIn with | .seq x _=>x | _=>.skip
noncomputable def uR17:Code:=match uIn with | .seq _ x=>x | _=>.skip
theorem uL_parts:uS14=.seq uHead (.block 2 (.loop uL))∧uL=.seq uR15 (.seq uC15 (.seq (.block 3 uIn) uR18))∧uIn=.seq uR16 uR17:=⟨by kernel_rfl,by kernel_rfl,by kernel_rfl⟩
noncomputable def xuHead:Code:=uHead
noncomputable def xuR15:Code:=uR15
noncomputable def xuC15:Code:=uC15
noncomputable def xuR16:Code:=uR16
noncomputable def xuR17:Code:=uR17
noncomputable def xuR18:Code:=uR18
noncomputable def xuS19:Code:=uS19
noncomputable def hdU:List Item:=[.code uL,.inLoop uL,.inBlock 2,.code uT19]
noncomputable def hdU17:List Item:=[.code uR17,.inBlock 3,.code uR18,.inLoop uL,.inBlock 2,.code uT19]
noncomputable def hdU18:List Item:=[.code uR18,.inLoop uL,.inBlock 2,.code uT19]
structure RegsU (T:Array Value) (ab mb hb n i:Nat):Prop where
 sz:T.size=65
 t10:T[10]?=some (.pointer (some ⟨ab,0,none⟩))
 t12:T[12]?=some (.pointer (some ⟨mb,0,none⟩))
 t16:T[16]?=some (.slice (some ⟨hb,0,none⟩) n n)
 t51:T[51]?=some (.int .i64 (n:Int))
 t52:T[52]?=some (.int .i64 (i:Int))
section
variable {h ab mb hb wb n i:Nat} {F:Machine→Trace→Prop} {E:Env} {w:World} {cs:List Frame} {T:Array Value}
variable {b₀:Frame} {a₀:Act} {ops₀:Array Oper} {i₀:Nat} {rest₀:List Nat} {k₀:List Item} {cl:List Frame}
theorem told_in (R:RegsU T ab mb hb n i) (hi:i < n) (hc:∀ T',RegsU T' ab mb hb n i→T'[17]?=some (.int .i64 (i:Int))→HG Try.prog h F E (G ((base 45).at ⟨T',[]⟩ hdU17) cs) w) :
  HGn Try.prog h F E w 100 (G ((base 45).at ⟨T,[]⟩ hdU) cs):=by
 obtain ⟨f,hf,fz⟩:=arrfv T R.sz
 have e10:=fz 10 _ R.t10
 have e12:=fz 12 _ R.t12
 have e16:=fz 16 _ R.t16
 have e51:=fz 51 _ R.t51
 have e52:=fz 52 _ R.t52
 have d1:decide ((i:Int) < (n:Int))=true:=decide_eq_true (by omega)
 clear fz R
 subst hf
 replace hc:=Lib.hid hc
 unfold hdU
 unfold hdU17 at hc
 rw [show ([.code uL,.inLoop uL,.inBlock 2,.code uT19]:List Item)=[.code (.seq xuR15 (.seq xuC15 (.seq (.block 3 (.seq xuR16 uR17)) uR18))),.inLoop uL,.inBlock 2,.code uT19] from congrArg (fun z=>[Item.code z,.inLoop uL,.inBlock 2,.code uT19]) (uL_parts.2.1.trans (congrArg (fun z=>Code.seq uR15 (.seq uC15 (.seq (.block 3 z) uR18))) uL_parts.2.2))]
 generalize hG1:uR17=L1 at hc ⊢
 generalize hG2:uR18=L2 at hc ⊢
 generalize hG3:uL=L3 at hc ⊢
 generalize hG4:uT19=L4 at hc ⊢
 simp only [xuR15,xuC15,xuR16,uR15,uC15,uR16,uIn,uL,uS14,uT14,uT13,uT12,uT7,uT6,uT5,uT4,uT3,uT1,uB,Try.f45,Option.getD_some,List.range,List.range.loop,List.map_cons,List.map_nil,e10,e12,e16,e51,e52]
 refine Idl.q (idl_hg Try.prog h F E w) (Idl.rg (idl_hg Try.prog h F E w) [0] rfl ?_)
 refine Idl.v (idl_hg Try.prog h F E w) ?_
 walk_nrm
 refine Idl.re (idl_hg Try.prog h F E w) (Idl.q (idl_hg Try.prog h F E w) (Idl.ct (idl_hg Try.prog h F E w) rfl (Idl.sk (idl_hg Try.prog h F E w) (Idl.q (idl_hg Try.prog h F E w) (Idl.bl (idl_hg Try.prog h F E w) (Idl.q (idl_hg Try.prog h F E w) (Idl.rg (idl_hg Try.prog h F E w) [0,1] rfl ?_)))))))
 iterate 2 (refine Idl.v (idl_hg Try.prog h F E w) ?_; walk_nrm)
 refine Idl.re (idl_hg Try.prog h F E w) ?_
 exact hc.out _ ⟨by simp,by simp,by simp,by simp,by simp,by simp⟩ (by simp)
theorem told_out (R:RegsU T ab mb hb n n) (hc:∀ T',RegsU T' ab mb hb n n→HG Try.prog h F E (G ((base 45).at ⟨T',[]⟩ [.code uT19]) cs) w) :
  HGn Try.prog h F E w 100 (G ((base 45).at ⟨T,[]⟩ hdU) cs):=by
 obtain ⟨f,hf,fz⟩:=arrfv T R.sz
 have e10:=fz 10 _ R.t10
 have e12:=fz 12 _ R.t12
 have e16:=fz 16 _ R.t16
 have e51:=fz 51 _ R.t51
 have e52:=fz 52 _ R.t52
 have d1:decide ((n:Int) < (n:Int))=false:=decide_eq_false (by omega)
 clear fz R
 subst hf
 replace hc:=Lib.hid hc
 unfold hdU
 rw [show ([.code uL,.inLoop uL,.inBlock 2,.code uT19]:List Item)=[.code (.seq xuR15 (.seq xuC15 (.seq (.block 3 uIn) uR18))),.inLoop uL,.inBlock 2,.code uT19] from congrArg (fun z=>[Item.code z,.inLoop uL,.inBlock 2,.code uT19]) uL_parts.2.1]
 generalize hG1:uIn=L1
 generalize hG2:uR18=L2
 generalize hG3:uL=L3
 generalize hG4:uT19=L4 at hc ⊢
 simp only [xuR15,xuC15,uR15,uC15,uL,uS14,uT14,uT13,uT12,uT7,uT6,uT5,uT4,uT3,uT1,uB,Try.f45,Option.getD_some,List.range,List.range.loop,List.map_cons,List.map_nil,e10,e12,e16,e51,e52]
 refine Idl.q (idl_hg Try.prog h F E w) (Idl.rg (idl_hg Try.prog h F E w) [0] rfl ?_)
 refine Idl.v (idl_hg Try.prog h F E w) ?_
 walk_nrm
 refine Idl.re (idl_hg Try.prog h F E w) (Idl.q (idl_hg Try.prog h F E w) (Idl.cf (idl_hg Try.prog h F E w) rfl (Idl.exit (idl_hg Try.prog h F E w) rfl ?_)))
 exact hc.out _ ⟨by simp,by simp,by simp,by simp,by simp,by simp⟩
theorem told_again (R:RegsU T ab mb hb n i) (hi:i < 1048576) (hc:∀ T',RegsU T' ab mb hb n (i+1)→HG Try.prog h F E (G ((base 45).at ⟨T',[]⟩ hdU) cs) w) :
  HGn Try.prog h F E w 100 (G ((base 45).at ⟨T,[]⟩ hdU18) cs):=by
 obtain ⟨f,hf,fz⟩:=arrfv T R.sz
 have e10:=fz 10 _ R.t10
 have e12:=fz 12 _ R.t12
 have e16:=fz 16 _ R.t16
 have e51:=fz 51 _ R.t51
 have e52:=fz 52 _ R.t52
 have w1:=wrap_nat i (by omega)
 clear fz R
 subst hf
 replace hc:=Lib.hid hc
 unfold hdU18
 unfold hdU at hc
 rw [show uR18=xuR18 from rfl]
 generalize hG3:uL=L3 at hc ⊢
 generalize hG4:uT19=L4 at hc ⊢
 simp only [xuR18,uR18,uL,uS14,uT14,uT13,uT12,uT7,uT6,uT5,uT4,uT3,uT1,uB,Try.f45,Option.getD_some,List.range,List.range.loop,List.map_cons,List.map_nil,e10,e12,e16,e51,e52]
 refine Idl.rg (idl_hg Try.prog h F E w) [0,1] rfl ?_
 iterate 2 (refine Idl.v (idl_hg Try.prog h F E w) ?_; walk_nrm)
 refine Idl.re (idl_hg Try.prog h F E w) (Idl.il (idl_hg Try.prog h F E w) ?_)
 try simp only [w1]
 exact hc.out _ ⟨by simp,by simp,by simp,by simp,by simp,by simp⟩
theorem told_word {v:Int} (R:RegsU T ab mb hb n i) (t17:T[17]?=some (.int .i64 (i:Int))) (hi:i < n) (ca:w.cell? ⟨ab,0,none⟩=some (.slice (some ⟨wb,0,none⟩) n n)) (Wa:E.W ab=false) (cw:WordAt w ⟨wb,i,none⟩ v) (Hw:E.H wb=none)
  (hmid:∀ E2 w2,E.Eq h E2→Kept h none E w E2 w2→WSet E w E2 w2 ⟨wb,i,none⟩ v→∃ u,w2.cell? ⟨hb,i,none⟩=some u∧w2.frozen? ⟨hb,i,none⟩=false∧E2.W hb=false∧(∀ j,E2.St j ⟨hb,i,none⟩=none)∧E2.role h=.gone∧∀ T',RegsU T' ab mb hb n i→HG Try.prog h F E2 (G ((base 45).at ⟨T',[]⟩ hdU18) cs) (w2.setCell ⟨hb,i,none⟩ (.int .i64 v))) :
  HGn Try.prog h F E w 100 (G ((base 45).at ⟨T,[]⟩ hdU17) cs):=by
 obtain ⟨f,hf,fz⟩:=arrfv T R.sz
 have e10:=fz 10 _ R.t10
 have e12:=fz 12 _ R.t12
 have e16:=fz 16 _ R.t16
 have e17:=fz 17 _ t17
 have e51:=fz 51 _ R.t51
 have e52:=fz 52 _ R.t52
 have gi:(i:Int) < (n:Int):=by omega
 have gi0:(0:Int)≤(i:Int):=by omega
 clear fz R t17
 subst hf
 replace hmid:=Lib.hid hmid
 replace cw:=Lib.hid cw
 unfold hdU17
 unfold hdU18 at hmid
 rw [show uR17=xuR17 from rfl]
 generalize hG2:uR18=L2 at hmid ⊢
 generalize hG3:uL=L3 at hmid ⊢
 generalize hG4:uT19=L4 at hmid ⊢
 simp only [xuR17,uR17,uIn,uL,uS14,uT14,uT13,uT12,uT7,uT6,uT5,uT4,uT3,uT1,uB,Try.f45,Option.getD_some,List.range,List.range.loop,List.map_cons,List.map_nil,e10,e12,e16,e17,e51,e52]
 refine Idl.rg (idl_hg Try.prog h F E w) [0,1,2,3,4,5,6,7] rfl ?_
 iterate 2 (refine Idl.v (idl_hg Try.prog h F E w) ?_; walk_nrm)
 refine HGn.ld ca (fun z=>by rw [Wa] at z; cases z) rfl rfl (by first | decide | exact base_kind _ | exact baseD_kind _ | assumption) (fun w₁ hc₁=>⟨by go_simp,fun e he=>by (have he':=he; simp [go_sem,hc₁] at he'; exact he')⟩) ?_
 walk_nrm
 iterate 2 (refine Idl.v (idl_hg Try.prog h F E w) ?_; walk_nrm)
 refine Idl.callE (fn:=Try.f70) (vs:=#[.pointer (some ⟨wb,i,none⟩),.pointer none]) (idl_hg Try.prog h F E w) rfl rfl (by k_ne) rfl Try.func70 rfl rfl (by simp [Act.eval]) ?_
 refine wload_nil cw.out Hw (fun E2 w2 hE hK hS=>?_)
 obtain ⟨u,c1,z1,W1,V1,r1,hc⟩:=hmid.out E2 w2 hE hK hS
 replace hc:=Lib.hid hc
 clear hE hK hS hmid cw ca
 change HGn Try.prog h F E2 w2 100 _
 walk_nrm
 refine Idl.v (idl_hg Try.prog h F E2 w2) ?_
 walk_nrm
 refine HGn.st c1 (fun z=>by rw [W1] at z; cases z) z1 V1 r1 rfl rfl (by first | decide | exact base_kind _ | exact baseD_kind _ | assumption) rfl (fun w₁ hc₁ hz₁=>⟨by go_simp; first | done | rfl,fun e he=>by (have he':=he; simp [go_sem,ev_st_int,ev_st_bool,ev_st_ptr,ev_st_slice,evSt_at hc₁ hz₁] at he'; exact he')⟩) ?_
 try walk_nrm
 refine Idl.re (idl_hg Try.prog h F E2 (w2.setCell ⟨hb,i,none⟩ (.int .i64 v))) (Idl.ib (idl_hg Try.prog h F E2 (w2.setCell ⟨hb,i,none⟩ (.int .i64 v))) ?_)
 exact hc.out _ ⟨by simp,by simp,by simp,by simp,by simp,by simp⟩
theorem told_ret {mv:Value} (R:RegsU T ab mb hb n i) (cm:w.cell? ⟨mb,0,none⟩=some mv) (Wm:E.W mb=false) (hmv:∃ A a c,mv=.slice A a c)
  (hc:HG Try.prog h F E (G (b₀.at (a₀.put ((ops₀[i₀]?).bind (·.dst)) (.tuple #[mv,.slice (some ⟨hb,0,none⟩) n n])) (.inRegion ops₀ rest₀ :: k₀)) cl) w) :
  HGn Try.prog h F E w 100 (G ((base 45).at ⟨T,[]⟩ [.code uT19]) (b₀.at a₀ (.inRegion ops₀ (i₀ :: rest₀) :: k₀) :: cl)):=by
 obtain ⟨A,a,cc,rfl⟩:=hmv
 obtain ⟨f,hf,fz⟩:=arrfv T R.sz
 have e12:=fz 12 _ R.t12
 have e16:=fz 16 _ R.t16
 clear fz R
 subst hf
 replace hc:=Lib.hid hc
 rw [show uT19=.seq xuS19 .ret from u_parts.2.2.2.2.2.2.2.2.2.2]
 simp only [xuS19,uS19,uT19,uT14,uT13,uT12,uT7,uT6,uT5,uT4,uT3,uT1,uB,Try.f45,Option.getD_some,List.range,List.range.loop,List.map_cons,List.map_nil,e12,e16]
 refine Idl.q (idl_hg Try.prog h F E w) (Idl.rg (idl_hg Try.prog h F E w) [0,1,2,3] rfl ?_)
 refine HGn.ld cm (fun z=>by rw [Wm] at z; cases z) rfl rfl (by first | decide | exact base_kind _ | exact baseD_kind _ | assumption) (fun w₁ hc₁=>⟨by go_simp,fun e he=>by (have he':=he; simp [go_sem,hc₁] at he'; exact he')⟩) ?_
 walk_nrm
 iterate 3 (refine Idl.v (idl_hg Try.prog h F E w) ?_; walk_nrm)
 refine Idl.re (idl_hg Try.prog h F E w) (Idl.rt (idl_hg Try.prog h F E w) ?_)
 refine Idl.leaveV (n:=1) (v:=.tuple #[.slice A a cc,.slice (some ⟨hb,0,none⟩) n n]) (fn:=Try.f45) (idl_hg Try.prog h F E w) rfl rfl Try.func45 (fun w=>by simp [results,Try.f45,go_sem]) (fun w=>by simp [results,Try.f45,go_sem]) ?_
 exact hc.out
end
section
variable {h ab mb hb wb n:Nat} {F:Machine→Trace→Prop} {K:Nat→Obj→Prop} {L:List PT} {ms:List Mk} {cnt:Nat→Nat} {vs:Nat→Int} {cs:List Frame}
theorem told_loop (hn : n ≤ 1048576) (hne : ∀ b o, K b o → b ≠ wb ∧ b ≠ hb) (hwh : wb ≠ hb) (ka : KC K ⟨ab, 0, none⟩ (.slice (some ⟨wb, 0, none⟩) n n)) : ∀ (m i : Nat), m + i = n → ∀ (E : Env) (w : World) (T : Array Value), E.role h = .gone → PlayM mb (KH K wb hb n vs i) L ⟨ms, [], cnt⟩ E w → RegsU T ab mb hb n i →
   (∀ E' w' T',Kept h none E w E' w'→PlayM mb (KH K wb hb n vs n) L ⟨ms,[],cnt⟩ E' w'→RegsU T' ab mb hb n n→HG Try.prog h F E' (G ((base 45).at ⟨T',[]⟩ [.code uT19]) cs) w') →
   HG Try.prog h F E (G ((base 45).at ⟨T,[]⟩ hdU) cs) w
 | 0,i,hi,E,w,T,hr,M,R,hc=>by
   obtain rfl:i=n:=by omega
   exact told_out R (fun T' R'=>hc E w T' (.refl _ _ _ _) M R')
 | m+1,i,hi,E,w,T,hr,M,R,hc=>by
   have hlt:i < n:=by omega
   refine no_W fun hWn=>HG.withV fun hV=>?_
   have kcell:∀ {E:Env} {w:World} {j:Nat} {a:Addr} {v:Value},PlayM mb (KH K wb hb n vs j) L ⟨ms,[],cnt⟩ E w→KC K a v→w.cell? a=some v∧E.H a.block=none:=fun M hk=>by
    obtain ⟨o,k1,k2⟩:=hk
    obtain ⟨q1,q2,_⟩:=M.kobj _ _ (.inl (.inl k1))
    exact ⟨k2 _ q1,q2⟩
   obtain ⟨ca,Ha⟩:=kcell M ka
   obtain ⟨w1,w2,w3⟩:=M.kobj wb _ (.inl (.inr ⟨rfl,rfl⟩))
   obtain ⟨h1,h2,h3⟩:=M.kobj hb _ (.inr ⟨rfl,rfl⟩)
   refine told_in R hlt (fun T1 R1 t17=>?_)
   refine told_word (v:=vs i) R1 t17 hlt ca (hWn _ Ha) (wrow_word w1 hlt) w2 (fun E2 x2 hE2 hK2 hS2=>?_)
   have hst:∀ b o,b≠wb→E.H b=none→w.heap[b]?=some o→E2.H b=none∧x2.heap[b]?=some o:=fun b o hb h1 h2=>hS2.stands h1 h2 hb
   have hcw:x2.heap[wb]?=some (wrow n vs):=by
    have e:=hS2.new _ _ w1
    rw [show (⟨wb,i,none⟩:Addr).block=wb from rfl,wrow_set hlt] at e
    rw [e]
    congr 1
    unfold wrow
    congr 2
    refine List.map_congr_left fun j _=>?_
    by_cases z:j=i
    ·subst z; rw [upd_same]
    ·rw [upd_ne _ _ z]
   have M2:PlayM mb (KH K wb hb n vs i) L ⟨ms,[],cnt⟩ E2 x2:=M.turn rfl wb ⟨_,.inl (.inr ⟨rfl,rfl⟩)⟩ hst (by rw [hS2.H]; exact w2) (fun b o hk=>by
    rcases hk with (hk | ⟨rfl,rfl⟩) | ⟨rfl,rfl⟩
    ·exact .inl ⟨(hne b o hk).1,.inl (.inl hk)⟩
    ·exact .inr ⟨rfl,hcw⟩
    ·exact .inl ⟨Ne.symm hwh,.inr ⟨rfl,rfl⟩⟩)
   obtain ⟨g1,g2,g3⟩:=M2.kobj hb _ (.inr ⟨rfl,rfl⟩)
   refine ⟨.int .i64 (if i < i then vs i else 0),obj_cell (c:=((List.range n).map fun j=>Value.int .i64 (if j < i then vs j else 0)).toArray) (e:=2) g1 (by simp [hlt]),obj_thaw (c:=((List.range n).map fun j=>Value.int .i64 (if j < i then vs j else 0)).toArray) (e:=2) g1 i,?_,?_,hE2.roleH.trans hr,fun T2 R2=>?_⟩
   ·rw [hE2.W']; exact hWn hb h2
   ·intro j
    rw [hE2.St']; exact hV j ⟨hb,i,none⟩ h2
   ·have W2:E2.W hb=false:=by rw [hE2.W']; exact hWn hb h2
    have hho:∀ b,b≠hb→(x2.setCell ⟨hb,i,none⟩ (.int .i64 (vs i))).heap[b]?=x2.heap[b]?:=fun b hne'=>heap_setCell_ne (a:=⟨hb,i,none⟩) (fun e=>hne' e.symm)
    have hhn:(x2.setCell ⟨hb,i,none⟩ (.int .i64 (vs i))).heap[hb]?=some (hrow n vs (i+1)):=by
     rw [← hrow_set hlt]
     exact heap_set (a:=⟨hb,i,none⟩) (w:=x2) (c:=((List.range n).map fun j=>Value.int .i64 (if j < i then vs j else 0)).toArray) (e:=2) (by simp [hlt]) g1
    have M3:PlayM mb (KH K wb hb n vs (i+1)) L ⟨ms,[],cnt⟩ E2 (x2.setCell ⟨hb,i,none⟩ (.int .i64 (vs i))):=M2.turn rfl hb ⟨_,.inr ⟨rfl,rfl⟩⟩ (fun b o hne' q1 q2=>⟨q1,by rw [hho b hne']; exact q2⟩) g2 (fun b o hk=>by
     rcases hk with (hk | ⟨rfl,rfl⟩) | ⟨rfl,rfl⟩
     ·exact .inl ⟨(hne b o hk).2,.inl (.inl hk)⟩
     ·exact .inl ⟨hwh,.inl (.inr ⟨rfl,rfl⟩)⟩
     ·exact .inr ⟨rfl,hhn⟩)
    have hK3:Kept h none E2 x2 E2 (x2.setCell ⟨hb,i,none⟩ (.int .i64 (vs i))):=kept_vis g2 W2
    refine told_again R2 (by omega) (fun T3 R3=>?_)
    exact told_loop hn hne hwh ka m (i+1) (by omega) E2 _ T3 (hE2.roleH.trans hr) M3 R3 (fun E' w' T' hk hm hr'=>hc E' w' T' ((hK2.trans hK3).trans hk) hm hr')
end
theorem uS13_wp {T:Array Value} {x:World} {n nb:Nat} {Q:Exit→Act→World→Prop} (hs:T.size=65) (h4:T[4]?=some (.pointer (some ⟨nb,0,none⟩))) (hn:n≤1048576) (c1:x.cell? ⟨nb,0,none⟩=some (.int .i64 (n:Int)))
  (hQ:∀ T' x',T'.size=65→(∀ j,j < 16→T'[j]?=T[j]?)→T'[16]?=some (.slice (some ⟨x.heap.size,0,none⟩) n n)→x'.heap=x.heap.push (.cells ((List.range n).map fun _=>Value.int .i64 0).toArray 2)→Q .normal ⟨T',[]⟩ x') :
  uS13.wp Try.prog Q ⟨T,[]⟩ x:=by
 obtain ⟨f,hf,fz⟩:=arrfv T hs
 have e4:=fz 4 _ h4
 have hQ':∀ T' x',T'.size=65→(∀ j,j < 16→T'[j]?=some (f j))→T'[16]?=some (.slice (some ⟨x.heap.size,0,none⟩) n n)→x'.heap=x.heap.push (.cells ((List.range n).map fun _=>Value.int .i64 0).toArray 2)→Q .normal ⟨T',[]⟩ x':=fun T' x' a1 a2 a3 a4=>hQ T' x' a1 (fun j h1=>by rw [a2 j h1,hf,arrf_get f (by omega)]) a3 a4
 clear hQ fz h4 hs
 subst hf
 have hmk:=make_h n hn x
 obtain ⟨r,hr⟩:∃ r,r=((List.range n).map fun _=>Value.int .i64 0).toArray:=⟨_,rfl⟩
 rw [← hr] at hmk hQ'
 replace hr:=Lib.hid hr
 replace hQ':=Lib.hid hQ'
 simp only [List.range,List.range.loop,List.map_cons,List.map_nil,e4]
 simp only [uS13,uT13,uT12,uT7,uT6,uT5,uT4,uT3,uT1,uB,Try.f45,Option.getD_some]
 go_wp2
 refine hQ'.out _ _ (by simp) (fun j hj=>?_) (by simp) rfl
 match j,hj with
 | 0,_ | 1,_ | 2,_ | 3,_ | 4,_ | 5,_ | 6,_ | 7,_ | 8,_ | 9,_ | 10,_ | 11,_ | 12,_ | 13,_ | 14,_ | 15,_=>simp [e4]
 | q+16,hq=>exact absurd hq (by omega)
section
variable {h:Nat} {F:Machine→Trace→Prop} {E:Env} {w:World} {b₀:Frame} {a₀:Act} {ops₀:Array Oper} {i₀:Nat} {rest₀:List Nat} {k₀:List Item} {cl:List Frame}
theorem word_to_run {T:Array Value} {bv pv:Value} {drain:Bool} {cs:List Frame} (hs:T.size=65) (h2:T[2]?=some pv) (h3:T[3]?=some (.bool drain)) (h13:T[13]?=some bv)
  (hc:∀ T' ops i rest k,T'.size=65→(∀ j,j < 14→T'[j]?=T[j]?)→(ops[i]?).bind (·.dst)=some 47→rest=[]→k=[.code uT13] →
   HGn Try.prog h F E w 100 (entry 29 Try.f29 #[bv,pv,.bool drain] ((base 45).at ⟨T',[]⟩ (.inRegion ops (i :: rest) :: k) :: cs))) :
  HGn Try.prog h F E w 200 (G ((base 45).at ⟨T,[]⟩ [.code uT12]) cs):=by
 obtain ⟨f,hf,fz⟩:=arrfv T hs
 have e2:=fz 2 _ h2
 have e3:=fz 3 _ h3
 have e13:=fz 13 _ h13
 have hc':∀ T' ops i rest k,T'.size=65→(∀ j,j < 14→T'[j]?=some (f j))→(ops[i]?).bind (·.dst)=some 47→rest=[]→k=[.code uT13] →
   HGn Try.prog h F E w 100 (entry 29 Try.f29 #[bv,pv,.bool drain] ((base 45).at ⟨T',[]⟩ (.inRegion ops (i :: rest) :: k) :: cs)):=fun T' ops i rest k a1 a2=>hc T' ops i rest k a1 (fun j hj=>by rw [a2 j hj,hf,arrf_get f (by omega)])
 clear hc fz h2 h3 h13 hs
 subst hf
 replace hc':=Lib.hid hc'
 rw [show uT12=.seq xuS12 uT13 from u_parts.2.2.2.2.2.2.2.1]
 generalize hG:uT13=L at hc' ⊢
 simp only [xuS12,uS12,uT12,uT7,uT6,uT5,uT4,uT3,uT1,uB,Try.f45,Option.getD_some,List.range,List.range.loop,List.map_cons,List.map_nil,e2,e3,e13]
 refine Idl.q (idl_hg Try.prog h F E w) (Idl.rg (idl_hg Try.prog h F E w) [0,1,2,3] rfl ?_)
 iterate 3 (refine Idl.v (idl_hg Try.prog h F E w) ?_; walk_nrm)
 refine Idl.callE (fn:=Try.f29) (vs:=#[bv,pv,.bool drain]) (idl_hg Try.prog h F E w) rfl rfl (by k_ne) rfl Try.func29 rfl rfl (by simp [Act.eval]) ?_
 refine hc'.out _ _ _ _ _ (by simp) (fun j hj=>?_) rfl rfl rfl
 match j,hj with
 | 0,_ | 1,_ | 2,_ | 3,_ | 4,_ | 5,_ | 6,_ | 7,_ | 8,_ | 9,_ | 10,_ | 11,_ | 12,_ | 13,_=>simp [e2,e3,e13]
 | q+14,hq=>exact absurd hq (by omega)
theorem word_head2 {T:Array Value} {ab mb hb wb n:Nat} {cs:List Frame} (hs:T.size=65) (t10:T[10]?=some (.pointer (some ⟨ab,0,none⟩))) (t12:T[12]?=some (.pointer (some ⟨mb,0,none⟩))) (t16:T[16]?=some (.slice (some ⟨hb,0,none⟩) n n)) (ca:w.cell? ⟨ab,0,none⟩=some (.slice (some ⟨wb,0,none⟩) n n)) (Wa:E.W ab=false)
  (hc:∀ T',RegsU T' ab mb hb n 0→HG Try.prog h F E (G ((base 45).at ⟨T',[]⟩ hdU) cs) w) :
  HGn Try.prog h F E w 100 (G ((base 45).at ⟨T,[]⟩ [.code uT14]) cs):=by
 obtain ⟨f,hf,fz⟩:=arrfv T hs
 have e10:=fz 10 _ t10
 have e12:=fz 12 _ t12
 have e16:=fz 16 _ t16
 clear fz t10 t12 t16 hs
 subst hf
 replace hc:=Lib.hid hc
 unfold hdU at hc
 rw [show uT14=.seq (.seq xuHead (.block 2 (.loop uL))) uT19 from (u_parts.2.2.2.2.2.2.2.2.2.1).trans (congrArg (fun z=>Code.seq z uT19) uL_parts.1)]
 generalize hG3:uL=L3 at hc ⊢
 generalize hG4:uT19=L4 at hc ⊢
 simp only [xuHead,uHead,uS14,uT14,uT13,uT12,uT7,uT6,uT5,uT4,uT3,uT1,uB,Try.f45,Option.getD_some,List.range,List.range.loop,List.map_cons,List.map_nil,e10,e12,e16]
 refine Idl.q (idl_hg Try.prog h F E w) (Idl.q (idl_hg Try.prog h F E w) (Idl.rg (idl_hg Try.prog h F E w) [0,1,2] rfl ?_))
 refine HGn.ld ca (fun z=>by rw [Wa] at z; cases z) rfl rfl (by first | decide | exact base_kind _ | exact baseD_kind _ | assumption) (fun w₁ hc₁=>⟨by go_simp,fun e he=>by (have he':=he; simp [go_sem,hc₁] at he'; exact he')⟩) ?_
 walk_nrm
 refine Idl.value (v:=.int .i64 (n:Int)) (idl_hg Try.prog h F E w) rfl rfl (by k_ne) (fun w=>by simp [go_sem]) (fun w=>by simp [go_sem]) ?_
 walk_nrm
 refine Idl.v (idl_hg Try.prog h F E w) ?_
 walk_nrm
 refine Idl.re (idl_hg Try.prog h F E w) (Idl.bl (idl_hg Try.prog h F E w) (Idl.lp (idl_hg Try.prog h F E w) ?_))
 exact hc.out _ ⟨by simp,by simp,by simp,by simp,by simp,by simp⟩
theorem word_after {K:Nat→Obj→Prop} {L:List PT} {s:WS} {T:Array Value} {ops:Array Oper} {i n nb ab mb wb:Nat} {v:Value} (hn:n≤1048576) (hne:∀ b o,K b o→b≠wb) (kn:KC K ⟨nb,0,none⟩ (.int .i64 (n:Int))) (ka:KC K ⟨ab,0,none⟩ (.slice (some ⟨wb,0,none⟩) n n))
  (hs:T.size=65) (t4:T[4]?=some (.pointer (some ⟨nb,0,none⟩))) (t10:T[10]?=some (.pointer (some ⟨ab,0,none⟩))) (t12:T[12]?=some (.pointer (some ⟨mb,0,none⟩))) (hd:(ops[i]?).bind (·.dst)=some 47) (hrole:E.role h=.gone) (M:WordM mb wb n K L s E w)
  (hc:∀ E' w' hb mv,Kept h none E w E' w'→w.heap.size≤hb→PlayM mb (KH K wb hb n s.vs n) L ⟨s.ms,[],s.cnt⟩ E' w'→w'.cell? ⟨mb,0,none⟩=some mv→HG Try.prog h F E' (G (b₀.at (a₀.put ((ops₀[i₀]?).bind (·.dst)) (.tuple #[mv,.slice (some ⟨hb,0,none⟩) n n])) (.inRegion ops₀ rest₀ :: k₀)) cl) w') :
  HG Try.prog h F E (G ((base 45).at ((⟨T,[]⟩:Act).put ((ops[i]?).bind (·.dst)) v) (.inRegion ops [] :: [.code uT13])) (b₀.at a₀ (.inRegion ops₀ (i₀ :: rest₀) :: k₀) :: cl)) w:=by
 rw [hd]
 change HGn Try.prog h F E w 100 _
 refine Idl.step (idl_hg Try.prog h F E w) _ _ _ rfl (fun _=>stepG_region_end) ?_
 rw [show uT13=.seq uS13 uT14 from u_parts.2.2.2.2.2.2.2.2.1]
 refine Idl.step (idl_hg Try.prog h F E w) _ _ _ rfl (fun _=>stepG_seq) ?_
 have hs1:(T.setIfInBounds 47 v).size=65:=by simp [hs]
 have hj1:∀ j,j < 47→(T.setIfInBounds 47 v)[j]?=T[j]?:=fun j hj=>Array.getElem?_setIfInBounds_ne (by omega)
 obtain ⟨cn,Hn,_⟩:=M.konst _ _ kn
 change HG Try.prog h F E (G ((base 45).at ⟨T.setIfInBounds 47 v,[]⟩ _) _) w
 generalize T.setIfInBounds 47 v=T1 at hs1 hj1
 refine HG.quietX [hrow n s.vs 0] (closed_none _) (fun T S=>T.size=65∧(∀ j,j < 16→T[j]?=T1[j]?)∧T[16]?=some (.slice (some ⟨S,0,none⟩) n n)) (by kernel_rfl) (by rfl) (fun x hxs hx=>?_) (fun E1 w1 T2 S1 z1 N1 hR=>?_)
 ·refine uS13_wp hs1 ((hj1 4 (by decide)).trans t4) hn ((World.cell?_of_block (a:=⟨nb,0,none⟩) (hx _ Hn)).trans cn) (fun T' x' a1 a2 a3 a4=>⟨rfl,rfl,fun b hb=>by rw [a4,Array.getElem?_push,if_neg (by omega)],by rw [a4]; simp,(fun i o hi=>?_),a1,a2,a3⟩)
  match i,hi with
  | 0,hi=>cases hi; rw [a4,hrow_0]; simp
 obtain ⟨s2,j2,t16⟩:=hR
 obtain ⟨n1,n1H⟩:=N1 0 _ rfl
 rw [Nat.add_zero] at n1 n1H
 generalize hhb:w.heap.size=hb at n1 n1H t16
 have M1:PlayM mb (KH K wb hb n s.vs 0) L ⟨s.ms,[],s.cnt⟩ E1 w1:=M.m.more rfl S1.st n1 n1H (by omega)
 have hne2:∀ b o,K b o→b≠wb∧b≠hb:=fun b o hk=>by
  have:=(Array.getElem?_eq_some_iff.1 (M.m.kobj b o (.inl hk)).1).1
  exact ⟨hne b o hk,by omega⟩
 have hwh:wb≠hb:=by
  have:=(Array.getElem?_eq_some_iff.1 (M.m.kobj wb _ (.inr ⟨rfl,rfl⟩)).1).1
  omega
 have hr1:E1.role h=.gone:=S1.kept.le.roleH.trans hrole
 refine no_W fun hWn=>?_
 have ca:w1.cell? ⟨ab,0,none⟩=some (.slice (some ⟨wb,0,none⟩) n n)∧E1.H ab=none:=by
  obtain ⟨o,k1,k2⟩:=ka
  obtain ⟨q1,q2,_⟩:=M1.kobj _ _ (.inl (.inl k1))
  exact ⟨k2 _ q1,q2⟩
 refine word_head2 s2 (by rw [j2 10 (by decide),hj1 10 (by decide)]; exact t10) (by rw [j2 12 (by decide),hj1 12 (by decide)]; exact t12) t16 ca.1 (hWn _ ca.2) (fun T3 R3=>?_)
 refine told_loop hn hne2 hwh ka n 0 (by omega) E1 w1 T3 hr1 M1 R3 (fun E2 w2 T4 hK2 M2 R4=>?_)
 refine no_W fun hWn2=>?_
 obtain ⟨mv,r1,r2,r3⟩:=M2.row
 obtain ⟨A,cap,rfl⟩:=owns_slice r2
 have cm:w2.cell? ⟨mb,0,none⟩=some (.slice A s.ms.length cap):=obj_cell r1 rfl
 exact told_ret R4 cm (hWn2 _ M2.mbH) ⟨_,_,_,rfl⟩ (hc E2 w2 hb _ (S1.kept.trans hK2) (by omega) M2 cm)
structure WordOut (h:Nat) (n:Int) (ts:List (List Op3)) (picks:List Int) (drain:Bool) (E:Env) (w:World) (E':Env) (w':World) (mv hv:Value) (ms:List Mk) (hs:List Int):Prop where
 kept:Kept h none E w E' w'
 stands:Stands E w E' w'
 row:w'.ownsRow w.heap.size 37 4 mv ms.length (mksV ms)
 rowH:∀ g,mv.ownBlock=some g→E'.H g=none
 held:w'.ownsRow w.heap.size 2 1 hv hs.length (hs.map (Value.int .i64))
 heldH:∀ g,hv.ownBlock=some g→E'.H g=none
 apart:∀ g,mv.ownBlock=some g→hv.ownBlock≠some g
 many:(n < 1∨1048576 < n∨8 < ts.length)→ms=[]∧hs=[]
 game:¬ (n < 1∨1048576 < n∨8 < ts.length)→∃ a' k,(wordG n.toNat ts).Run picks drain (wa0 ts) (a',k)∧a'.ms=ms∧hs=(List.range n.toNat).map a'.vs
theorem word_holds {n:Int} {ts:List (List Op3)} {picks:List Int} {drain:Bool} {tv pv:Value} (hT:OpsAt E w tv ts) (hP:IntsAt E w pv picks) (hl:∀ l ∈ ts,l.length≤100000000000) (hnp:picks.length≤1000000000000000) (hp64:∀ p ∈ picks,-9223372036854775808≤p∧p≤9223372036854775807) (ho64:∀ l ∈ ts,∀ op ∈ l,I64 op.1∧I64 op.2.1∧I64 op.2.2)
  (hrole:E.role h=.gone) (hmode:∀ b,E.mode b=0)
  (hc:∀ E' w' mv hv ms hs,WordOut h n ts picks drain E w E' w' mv hv ms hs→HG Try.prog h F E' (G (b₀.at (a₀.put ((ops₀[i₀]?).bind (·.dst)) (.tuple #[mv,hv])) (.inRegion ops₀ rest₀ :: k₀)) cl) w') :
  HGn Try.prog h F E w 100 (entry 45 Try.f45 #[.int .i64 n,tv,pv,.bool drain] (b₀.at a₀ (.inRegion ops₀ (i₀ :: rest₀) :: k₀) :: cl)):=by
 obtain ⟨ta,ba,bo,cap,LA,LC,rfl,hta,hts⟩:=hT.at_
 obtain ⟨pa,pb,po,pcap,rfl,hpa,hps⟩:=hP.at_
 by_cases hr:n < 1∨1048576 < n∨8 < ts.length
 ·refine word_refused hr (fun E' w' S=>?_)
  exact hc E' w' _ _ [] [] ⟨S.kept,S.st,⟨by simp [mksV],.inl ⟨rfl,rfl⟩⟩,fun g e=>(by cases e),⟨by simp,.inl ⟨rfl,rfl⟩⟩,fun g e=>(by cases e),fun g e=>(by cases e),fun _=>⟨rfl,rfl⟩,fun z=>absurd hr z⟩
 obtain ⟨m,rfl⟩:∃ m:Nat,n=(m:Int):=⟨n.toNat,by omega⟩
 have hm1:1≤m:=by omega
 have hm2:m≤1048576:=by omega
 have hN8:ts.length≤8:=by omega
 have hget:∀ i,i < ts.length→ts[i]?=some (ts.getD i []):=fun i hi=>by simp [List.getD,List.getElem?_eq_getElem hi]
 refine word_in (LA:=LA) (LN:=fun i=>(ts.getD i []).length) (LC:=LC) hm1 hm2 hN8 hta (fun i hi=>(hts i _ (hget i hi)).1) (fun E2 w2 T nb wb ab mpb db mb v LB TB S2 RD hs t2 t3 t4 t10 t12 t13=>?_)
 obtain ⟨o1,o2,o3,o4,o5,o6⟩:=RD.ord
 have hB:=RD.H
 obtain ⟨aa,bcap,rfl,hvf⟩:=owns_form RD.bx.row
 refine word_to_run hs t2 t3 t13 (fun T2 ops i rest k hs2 hj hd hr' hk=>?_)
 subst hr' hk
 let la:Nat→Nat:=fun i=>((LA i).map (·.block)).getD 0
 let lo:Nat→Nat:=fun i=>((LA i).map (·.off)).getD 0
 obtain ⟨L,hL⟩:∃ L,L=ptOf ts LB TB la lo LC:=⟨_,rfl⟩
 obtain ⟨K,hKe⟩:∃ K:Nat→Obj→Prop,K=fun b o=>w2.heap[b]?=some o∧E2.H b=none∧b≠mb∧b≠wb:=⟨_,rfl⟩
 have kc:∀ {a:Addr} {v:Value},w2.cell? a=some v→E2.H a.block=none→a.block≠mb→a.block≠wb→KC K a v:=fun {a v} h1 h2 h3 h4=>by
  have hl:=World.block_lt_of_cell? w2 _ h1
  refine ⟨w2.heap[a.block],by rw [hKe]; exact ⟨Array.getElem?_eq_getElem hl,h2,h3,h4⟩,fun w' hw'=>?_⟩
  rw [← h1]
  exact World.cell?_of_block (by rw [hw',Array.getElem?_eq_getElem hl])
 have kold:∀ {a:Addr} {v:Value},w.cell? a=some v→E.H a.block=none→KC K a v:=fun {a v} h1 h2=>by
  obtain ⟨q1,q2⟩:=S2.st.cell h1 h2
  have:=World.block_lt_of_cell? w _ h1
  exact kc q1 q2 (by omega) (by omega)
 have hlen:∀ i,i < ts.length→(ts.getD i []).length≤100000000000:=fun i hi=>hl _ (List.mem_of_getElem? (hget i hi))
 have hbound:sumTo L.length (opLen L)≤1000000000000:=by
  have h1:=sumTo_bound (f:=opLen L) (B:=100000000000) L.length (fun i hi=>by
   rw [hL,opLen_of]
   rw [hL,ptOf_len] at hi
   unfold lenOf
   rw [hget i hi]
   exact hlen i hi)
  have h2:L.length≤8:=by rw [hL,ptOf_len]; exact hN8
  have h3:L.length * 100000000000≤8 * 100000000000:=Nat.mul_le_mul_right _ h2
  omega
 have kn:KC K ⟨nb,0,none⟩ (.int .i64 (m:Int)):=kc RD.cn (hB _ (by dsimp only; omega)) (by dsimp only; omega) (by dsimp only; omega)
 have ka:KC K ⟨ab,0,none⟩ (.slice (some ⟨wb,0,none⟩) m m):=kc RD.ca (hB _ (by dsimp only; omega)) (by dsimp only; omega) (by dsimp only; omega)
 have hne:∀ b o,K b o→b≠wb:=fun b o hk=>by rw [hKe] at hk; exact hk.2.2.2
 have hWT:∀ i,i < ts.length→WTok K L i ⟨TB i,LB i,la i,lo i,LC i,ts.getD i []⟩ mb wb m db ab nb mpb:=fun i hi=>by
  obtain ⟨b1,b2,b3,b4,b5,b6⟩:=RD.bx.box i hi
  obtain ⟨_,hops⟩:=hts i _ (hget i hi)
  have hbl:∀ hne:ts.getD i []≠[],LA i=some ⟨la i,lo i,none⟩:=fun hne=>by
   obtain ⟨x,y,e1,_,_⟩:=hops hne
   show LA i=some ⟨((LA i).map (·.block)).getD 0,((LA i).map (·.off)).getD 0,none⟩
   rw [e1]; rfl
  refine ⟨⟨by rw [hL]; exact ptOf_get hi,kc b2 (hB _ (by dsimp only; omega)) (by dsimp only; omega) (by dsimp only; omega),⟨LA i,kc b1 (hB _ (by dsimp only; omega)) (by dsimp only; omega) (by dsimp only; omega),hbl⟩,fun j op hj=>?_,?_⟩,kc RD.cd (hB _ (by dsimp only; omega)) (by dsimp only; omega) (by dsimp only; omega),?_,ka,kn,hne,hm1,hm2,fun j op hj=>?_⟩
  ·have hne:ts.getD i []≠[]:=fun e=>by
    have hj':(ts.getD i [])[j]?=some op:=hj
    rw [e] at hj'; cases hj'
   obtain ⟨x,y,e1,e2,e3⟩:=hops hne
   have e4:=hbl hne
   rw [e1] at e4
   injection e4 with e5
   injection e5 with e6 e7 _
   subst e6 e7
   obtain ⟨c1,c2,c3⟩:=e3 j op hj
   exact ⟨kold c1 e2,kold c2 e2,kold c3 e2⟩
  ·have:=hlen i hi
   dsimp only
   omega
  ·obtain ⟨es,clk,hb,r⟩:=RD.cm
   exact ⟨.map es clk,by rw [hKe]; exact ⟨hb,hB _ (by omega),by omega,by omega⟩,fun w' hw'=>⟨es,clk,hw',r⟩⟩
  ·exact ho64 _ (List.mem_of_getElem? (hget i hi)) op (List.mem_of_getElem? hj)
 obtain ⟨bs,hbs⟩:∃ bs,bs=wordBs ts L (wclo db ab nb mb) LB TB (List.range ts.length):=⟨_,rfl⟩
 have hbl:bs.length=ts.length:=by rw [hbs]; simp [wordBs]
 have hbg:∀ i b,bs[i]?=some b→i < ts.length∧b=⟨wclo db ab nb mb (LB i) (TB i),(ts.getD i []).length,startW L i⟩:=fun i b e=>by
  have hi:i < ts.length:=by rw [← hbl]; exact (List.getElem?_eq_some_iff.1 e).1
  refine ⟨hi,?_⟩
  rw [hbs] at e
  unfold wordBs at e
  rw [List.getElem?_map,List.getElem?_range hi] at e
  exact (Option.some.inj e).symm
 have hM:WordM mb wb m K L ⟨[],fun _=>0,fun _=>0⟩ E2 w2:=by
  refine ⟨⟨hB _ (by omega),fun b o hk=>?_,⟨.slice none 0 0,RD.cmk,⟨by simp [mksV],.inl ⟨rfl,rfl⟩⟩,fun g e=>(by cases e)⟩,fun ob ho=>(by cases ho),by rw [sumTo_zero]; rfl,fun t=>Nat.zero_le _⟩,fun i=>by unfold I64; dsimp only; omega⟩
  rcases hk with hk | ⟨rfl,rfl⟩
  ·rw [hKe] at hk; exact ⟨hk.1,hk.2.1,hk.2.2.1⟩
  ·exact ⟨RD.row,hB _ (by omega),by omega⟩
 rw [← hbl]
 have hr2:E2.role h=.gone:=S2.kept.le.roleH.trans hrole
 refine run_holds (D:=wordD mb wb m K L) (s:=⟨[],fun _=>0,fun _=>0⟩) (bs:=bs) (picks:=picks) (drain:=drain) (ba:=(aa.map (·.block)).getD 0) (bo:=0) (pb:=pb) (po:=po) (by rw [hbl]; exact hN8) hnp (fun b hb=>?_) (fun hne=>?_) hpa hp64 (fun s E' w' m' i b hi=>?_) (fun s E' w' m' i p hi=>?_) (fun i b hi=>?_) (fun i b hi=>?_) (fun _ _=>rfl) hr2 (fun b=>S2.kept.le.mode b (hmode b)) hM (fun z E' w' hz kk m'=>?_)
 ·obtain ⟨i,hi⟩:=List.mem_iff_getElem?.1 hb
  obtain ⟨hi',rfl⟩:=hbg i b hi
  have:=hlen i hi'
  dsimp only
  omega
 ·have:0 < ts.length:=by rw [← hbl]; exact List.length_pos_iff.2 hne
  obtain ⟨g,rfl,_⟩:=hvf this
  rfl
 ·obtain ⟨hi',rfl⟩:=hbg i b hi
  obtain ⟨g,rfl,hg1,hg2⟩:=hvf (by omega)
  have h1:=hg2 i (wclo db ab nb mb (LB i) (TB i)) (by rw [List.getElem?_map,List.getElem?_range hi']; rfl)
  have m2:WordM mb wb m K L s E' w':=m'
  obtain ⟨k1,k2,_⟩:=m2.konst _ _ (kc h1 (hB _ (by dsimp only; omega)) (by dsimp only; omega) (by dsimp only; omega))
  exact ⟨k1,k2⟩
 ·have m2:WordM mb wb m K L s E' w':=m'
  obtain ⟨q1,q2⟩:=hps i p hi
  obtain ⟨k1,k2,_⟩:=m2.konst _ _ (kold q1 q2)
  exact ⟨k1,k2⟩
 ·obtain ⟨hi',rfl⟩:=hbg i b hi
  exact bornV_clo (fb:=81) (fn:=Try.f81) Try.func81 rfl rfl (word_born (hWT i hi') hbound)
 ·obtain ⟨hi',rfl⟩:=hbg i b hi
  exact word_start i
 ·have m2:WordM mb wb m K L z.1 E' w':=m'
  refine word_after hm2 hne kn ka hs2 ((hj 4 (by decide)).trans t4) ((hj 10 (by decide)).trans t10) ((hj 12 (by decide)).trans t12) hd (kk.le.roleH.trans hr2) m2 (fun E3 w3 hb mv hK3 hhb M3 cm=>?_)
  obtain ⟨mv',r1,r2,r3⟩:=M3.row
  have emv:mv=mv':=by
   have:=obj_cell r1 (o:=0) rfl
   rw [cm] at this
   exact Option.some.inj this
  subst emv
  obtain ⟨g1,g2,g3⟩:=M3.kobj hb _ (.inr ⟨rfl,rfl⟩)
  have z2:=S2.kept.size
  have z3:=kk.size
  have hbk:∀ b o,E.H b=none→w.heap[b]?=some o→E3.H b=none∧w3.heap[b]?=some o:=fun b o h1 h2=>by
   obtain ⟨a1,a2⟩:=S2.st b o h1 h2
   have hlt:=(Array.getElem?_eq_some_iff.1 h2).1
   obtain ⟨k1,k2,_⟩:=M3.kobj b o (.inl (.inl (by rw [hKe]; exact ⟨a2,a1,by omega,by omega⟩)))
   exact ⟨k2,k1⟩
  have hoff:¬ ((m:Int) < 1∨1048576 < (m:Int)∨8 < ts.length):=hr
  refine hc E3 w3 _ _ z.1.ms ((List.range m).map z.1.vs) ⟨(S2.kept.trans kk).trans hK3,hbk,?_,fun g e=>(r3 g e).1,?_,fun g e=>?_,fun g e e2=>?_,fun z'=>absurd z' hoff,fun _=>?_⟩
  ·exact owns_lower r2 (by omega)
  ·rw [hrow_n] at g1
   have e:((List.range m).map z.1.vs).map (Value.int .i64)=(List.range m).map fun j=>Value.int .i64 (z.1.vs j):=by rw [List.map_map]; rfl
   rw [e]
   refine ⟨by simp,.inr ⟨hb,m,_,by simp,by omega,g1,?_,?_,?_,?_⟩⟩
   ·simp
   ·unfold maxLen; omega
   ·simp
   ·rw [List.take_of_length_le (by simp)]
  ·have:hb=g:=by simpa [Value.ownBlock] using e
   rw [← this]; exact g2
  ·have:hb=g:=by simpa [Value.ownBlock] using e2
   exact (r3 g e).2.2 hb _ (.inr ⟨rfl,rfl⟩) this
  ·have p1:∀ x0,StartR bs ([],⟨[],fun _=>0,fun _=>0⟩) x0→WR ts (x0.1,x0.2,0) (wa0 ts):=fun x0 hx0=>by
    rw [hbs,hL,List.range_eq_range'] at hx0
    exact start_wr ts.length 0 _ x0 (by omega) hx0 rfl rfl rfl rfl (fun t ht=>absurd ht (by omega))
   have p2:bs.length=0→WR ts ([],⟨[],fun _=>0,fun _=>0⟩,0) (wa0 ts):=fun h0=>⟨by dsimp only [List.length_nil]; omega,rfl,rfl,rfl,fun t ht=>absurd ht (by omega)⟩
   obtain ⟨a',st,hr3,hg⟩:=Sim.run (R:=WR ts) (G:=wordG m ts) (D:=wordD mb wb m K L) (by rw [hL]; exact word_sim) hz hbl (wa0 ts) p1 p2
   rw [Int.toNat_natCast]
   exact ⟨a',_,hg,hr3.ms.symm,by rw [← hr3.vs]⟩
end
def MksAt (x:World) (v:Value) (ms:List Mk):Prop:=∃ (A:Option Addr) (g cap:Nat),v=.slice A ms.length cap∧(0 < ms.length→A=some ⟨g,0,none⟩)∧∀ i u,(mksV ms)[i]?=some u→x.cell? ⟨g,i,none⟩=some u
theorem MksAt.same {x x':World} {v:Value} {ms:List Mk} (h:MksAt x v ms) (hs:∀ g,v.ownBlock=some g→x'.heap[g]?=x.heap[g]?):MksAt x' v ms:=by
 obtain ⟨A,g,cap,rfl,h1,h2⟩:=h
 refine ⟨A,g,cap,rfl,h1,fun i u hu=>?_⟩
 have hp:0 < ms.length:=by
  cases ms with
  | nil=>cases i <;> cases hu
  | cons m ms=>exact Nat.succ_pos _
 rw [h1 hp] at hs
 exact (World.cell?_of_block (hs g rfl)).trans (h2 i u hu)
theorem MksAt.of_owns {x:World} {B:Nat} {v:Value} {ms:List Mk} (h:x.ownsRow B 37 4 v ms.length (mksV ms)):MksAt x v ms:=by
 obtain ⟨h1,h2⟩:=h
 rcases h2 with ⟨rfl,h0⟩ | ⟨g,cap,cur,rfl,hb,hg,_,_,_,ht⟩
 ·have:ms=[]:=List.eq_nil_of_length_eq_zero h0
  subst this
  exact ⟨none,0,0,rfl,fun h=>absurd h (Nat.lt_irrefl _),fun i u hu=>by simp [mksV] at hu⟩
 ·refine ⟨_,g,cap,rfl,fun _=>rfl,fun i u hu=>?_⟩
  rw [← ht] at hu
  refine obj_cell hg ?_
  rw [← Array.getElem?_toList]
  have hl:i < (cur.toList.take (ms.length * 4)).length:=(List.getElem?_eq_some_iff.1 hu).1
  rw [List.getElem?_take] at hu
  split at hu
  ·exact hu
  ·cases hu
theorem MksAt.mark {x:World} {g:Nat} {ms:List Mk} (h:∀ i u,(mksV ms)[i]?=some u→x.cell? ⟨g,i,none⟩=some u) {i:Nat} {m:Mk} (hm:ms[i]?=some m):x.cell? ⟨g,i * 4,none⟩=some (.int .i64 m.1)∧x.cell? ⟨g,i * 4+1,none⟩=some (.int .i64 m.2.1)∧x.cell? ⟨g,i * 4+2,none⟩=some (.int .i64 m.2.2.1)∧x.cell? ⟨g,i * 4+3,none⟩=some (.int .i64 m.2.2.2):=by
 have hmk:∀ j,j < 4→(mksV ms)[i * 4+j]?=(mkV m)[j]?:=fun j hj=>mksV_get hm hj
 exact ⟨h _ _ (by have:=hmk 0 (by decide); simpa [mkV] using this),h _ _ (by have:=hmk 1 (by decide); simpa [mkV] using this),h _ _ (by have:=hmk 2 (by decide); simpa [mkV] using this),h _ _ (by have:=hmk 3 (by decide); simpa [mkV] using this)⟩
theorem same_wp {x:World} {av bv:Value} {ms:List Mk} (ha:MksAt x av ms) (hb:MksAt x bv ms) (hml:ms.length≤1000000000000) :
  Calls Try.prog 22 #[av,bv] x fun e x'=>e=.returned (.bool true)∧∃ k,x'=x.drewN k:=by
 obtain ⟨A,g,cap,rfl,ha1,ha2⟩:=ha
 obtain ⟨A',g',cap',rfl,hb1,hb2⟩:=hb
 replace ha2:=Lib.hid ha2
 replace hb2:=Lib.hid hb2
 go_enter Try.func22,Try.ntmps22
 go_wp2
 go_loopw [5] (fun v wr=>∃ i:Nat,v=.int .i64 (i:Int)∧i≤ms.length∧∃ k,wr=x.drewN k) (fun v _=>ms.length+1 - natOfV v)
 case atStart=>exact ⟨0,rfl,Nat.zero_le _,0,rfl⟩
 case round =>
  obtain ⟨i,rfl,hi,k,rfl⟩:=hrel
  by_cases hlt:i < ms.length
  ·obtain rfl:=ha1 (by omega)
   obtain rfl:=hb1 (by omega)
   obtain ⟨⟨m1,m2,m3,m4⟩,hm⟩:∃ m,ms[i]?=some m:=⟨_,List.getElem?_eq_getElem hlt⟩
   obtain ⟨a1,a2,a3,a4⟩:=MksAt.mark ha2.out hm
   obtain ⟨b1,b2,b3,b4⟩:=MksAt.mark hb2.out hm
   dsimp only at a1 a2 a3 a4 b1 b2 b3 b4
   have g1:(i:Int) < (ms.length:Int):=by omega
   have g2:(0:Int)≤(i:Int):=by omega
   have hiw:IntKind.i64.wrap ((i:Int)+1)=((i+1:Nat):Int):=by rw [IntKind.wrap_i64]; omega
   go_wp2
   go_quiet (fail)
   go_wp2
   exact ⟨⟨i + 1, by rw [Int.natCast_add]; rfl, by omega, _, rfl⟩, by have e : natOfV (.int .i64 ((i : Int) + 1)) = i + 1 := by simp [natOfV]
                                                                      rw [e]; simp [natOfV]; omega⟩
  ·obtain rfl:i=ms.length:=by omega
   have g1:¬ (ms.length:Int) < (ms.length:Int):=by omega
   go_wp2
   go_ret
   exact ⟨rfl,k,rfl⟩
def IntsX (x:World) (v:Value) (ps:List Int):Prop:=∃ (pa:Option Addr) (pb po cap:Nat),v=.slice pa ps.length cap∧(ps≠[]→pa=some ⟨pb,po,none⟩)∧∀ i p,ps[i]?=some p→x.cell? ⟨pb,po+i,none⟩=some (.int .i64 p)
def ownI (ps:List Int):List Value:=ps.map (fun p=>.int .i64 p) ++ [.int .i64 (-91),.int .i64 (-92)]
theorem ownI_get {ps:List Int} {i:Nat} {p:Int} (h:ps[i]?=some p):(ownI ps)[i]?=some (.int .i64 p):=by
 unfold ownI
 rw [List.getElem?_append_left (by simpa using (List.getElem?_eq_some_iff.1 h).1),List.getElem?_map,h]
 rfl
theorem copy_run {P:Program} {w:World} {dT sT ty elem:TypeId} {g dLen dCap sLen sCap:Nat} {sp:Option Addr} {i:TypeInfo} {cur cs:List Value} {t:TypeId} (hu:P.underlying dT=some (.slice elem)) (hi:P.info? elem=some i)
  (hg:w.heap[g]?=some (.cells cur.toArray t (0,0))) (hn:cs.length=Nat.min sLen dLen * i.size) (hnil:sp=none→cs=[]) (hsrc:∀ ad,sp=some ad→∀ j v,cs[j]?=some v→w.cell? (ad.add j)=some v) (hfit:cs.length≤cur.length) (h1:∀ v ∈ cs,v.oneCell'=true) :
  (Builtin.copy_ #[dT,sT] ty #[.slice (some ⟨g,0,none⟩) dLen dCap,.slice sp sLen sCap]).run P w=.ok (goInt (Nat.min sLen dLen:Nat)) (w.setRow g (cs ++ cur.drop cs.length).toArray):=by
 have hst:=run_storeCells_at P g 0 t cs 0 cur.toArray w hg (by simpa using hfit) h1
 cases sp with
 | none =>
   obtain rfl:=hnil rfl
   simp only [Nat.add_zero,List.take_zero,List.nil_append,Nat.zero_add,List.length_nil,List.drop_zero] at hst ⊢
   simp [Builtin.copy_,run_underlying hu,Builtin.lenOf,Builtin.firstCells,sizeOf,typeInfo,hi,hst]
 | some ad =>
   have hl:=run_loadCells_list (P:=P) w ad cs (hsrc ad rfl)
   simp only [Nat.add_zero,List.take_zero,List.nil_append,Nat.zero_add] at hst
   simp [Builtin.copy_,run_underlying hu,Builtin.lenOf,Builtin.firstCells,sizeOf,typeInfo,hi,← hn,hl,hst]
end Go.Proofs.Ytimlbbleblijnaa.Co
