/- Lemmas for the laws of this seat, laid together of PHo, PIb, PGda, PGdb, PGea, PGeb. -/
import Derived.Test.YtimlbbleblijnaaV17
import Derived.Test.YtimlbbleblijnaaV18
import Derived.Test.YtimlbbleblijnaaV19
import Derived.BigQuiet
import Derived.Deep.QuietTactic
import Derived.Deep.RegionHeld3
import Derived.Deep.AppendLies

set_option linter.unusedVariables false
set_option linter.unusedSimpArgs false
set_option maxRecDepth 100000
set_option maxHeartbeats 4000000
namespace Go.Proofs.Ytimlbbleblijnaa.Co
open Go Go.Conc
def lastT (md:Region.Mode) (ops:Array Oper) (n:Nat):Bool :=
  (n+1 == ops.size) && ((List.range n).all fun j=>(List.range (n+1)).any fun i=>decide (j < i) && ((ops[i]?).map fun o:Oper=>o.after.any fun e=>Region.binds md e && e.on == j).getD false) && ops.all (fun o=>o.guard.isNone) && (List.range ops.size).all fun j=>((ops[j]?).map fun o:Oper=>o.after.all fun e=>decide (e.on < j)).getD false
section
variable {P:Program} {main:Bool} {R:World→World→Prop} {D:World→World→Array Event→Prop} {fn:FuncId} {ops:Array Oper} {Q:Exit→Act→World→Prop} {md:Region.Mode} {S:World→Prop} {Stop:Goroutine→World→Prop} {b:Frame} {k:List Item} {cs:List Frame}
theorem goes_last {n:Nat} {o:Oper} (ho:ops[n]?=some o) (hB:lastT md ops n=true) (hrefl:∀ w,R w w) (hb:b.fn=fn) (hk:b.kind≠.early) (hstop:∀ a w,Q .normal a w→Stop (G (b.at a (.inRegion ops [n] :: k)) cs) w) :
    ∀ (fuel t:Nat) (listed:Array Bool) (a:Act) (w:World),AnyCH P R D fn md (ops.setIfInBounds n (nopOf o)) Q S fuel listed a w→listed.size=ops.size→listed.getD n true=false→(∀ (j:Nat) (oj:Oper),ops[j]?=some oj→listed.getD j true=true→∀ e ∈ oj.after,Region.binds md e=true→listed.getD e.on false=true) →
      GoesW P main R D Stop (G (b.at a (.inRegion ops (Region.linearise.go md ops fuel t listed []) :: k)) cs) w:=by
  simp only [lastT,Bool.and_eq_true,beq_iff_eq,List.all_eq_true,List.any_eq_true,List.mem_range,Array.all_eq_true,decide_eq_true_eq] at hB
  obtain ⟨⟨⟨hn,hall⟩,hg⟩,hback⟩:=hB
  have hnl:n < ops.size:=by omega
  have hsz:(ops.setIfInBounds n (nopOf o)).size=ops.size:=by simp
  have haft:∀ i:Nat,((ops.setIfInBounds n (nopOf o))[i]?).map Oper.after=(ops[i]?).map Oper.after:=fun i=>by
    rw [Array.getElem?_setIfInBounds]
    by_cases hi:n=i
    · subst hi
      rw [if_pos rfl,if_pos hnl,ho]; rfl
    · rw [if_neg hi]
  have hready:=fun listed=>ready_set (md:=md) hsz haft listed
  have hguard:∀ (i:Nat) (oi:Oper),ops[i]?=some oi→oi.guard=none:=fun i oi e=>by
    obtain ⟨h1,h2⟩:=Array.getElem?_eq_some_iff.1 e
    have:=hg i h1
    rw [h2] at this
    simpa using this
  have hne:∀ (listed:Array Bool),listed.size=ops.size→∀ i,listed.getD i true=false→Region.ready md ops listed≠[]:=fun listed hsl i=>by
    induction i using Nat.strongRecOn with
    | _ i ih =>
      intro hun
      have hil:i < ops.size:=by
        rcases Nat.lt_or_ge i ops.size with z | z
        · exact z
        · rw [← hsl] at z
          simp [Array.getD,Nat.not_lt.2 z] at hun
      by_cases hr:i ∈ Region.ready md ops listed
      · exact fun e=>by rw [e] at hr; cases hr
      · have hoi:ops[i]?=some ops[i]:=Array.getElem?_eq_getElem hil
        have hnr:=fun z=>hr (mem_ready.2 ⟨hun,_,hoi,z⟩)
        have hb:=hback i hil
        rw [hoi] at hb
        simp only [Option.map_some,Option.getD_some,Array.all_eq_true,decide_eq_true_eq] at hb
        apply Classical.byContradiction
        intro hemp
        refine hnr fun e he hbd=>?_
        cases hl:listed.getD e.on false with
        | true=>rfl
        | false =>
          obtain ⟨j,hj,rfl⟩:=Array.mem_iff_getElem.1 he
          have hlt:=hb j hj
          refine absurd (ih _ hlt ?_) hemp
          have:ops[i].after[j].on < listed.size:=by omega
          simp only [Array.getD,this,dif_pos] at hl ⊢
          exact hl
  intro fuel
  induction fuel with
  | zero =>
    intro t listed a w h hsl hun hdc
    obtain ⟨h1,h2⟩:=h
    rw [hready] at h1
    exact absurd h1 (hne listed hsl n hun)
  | succ fuel ih =>
    intro t listed a w h hsl hun hdc
    obtain ⟨h1,h2⟩:=h
    rw [hready] at h1 h2
    have hnil:=hne listed hsl n hun
    simp only [Region.linearise.go]
    change GoesW P main R D Stop (G (b.at a (.inRegion ops (match (Region.ready md ops listed)[t % (Region.ready md ops listed).length]? with
      | some i=>Region.linearise.go md ops fuel (t / (Region.ready md ops listed).length) (listed.setIfInBounds i true) [i]
      | none=>[].reverse) :: k)) cs) w
    cases hi:(Region.ready md ops listed)[t % (Region.ready md ops listed).length]? with
    | none =>
      refine absurd ?_ hnil
      cases hr:Region.ready md ops listed with
      | nil=>rfl
      | cons x xs =>
        rw [hr] at hi
        have hlt:t % (x :: xs).length < (x :: xs).length:=Nat.mod_lt _ (by simp)
        simp at hi
        simp at hlt
        omega
    | some i =>
      simp only []
      rw [linearise_go_acc,List.reverse_singleton,List.singleton_append]
      have hmem:=List.mem_of_getElem? hi
      have h3:=h2 i hmem
      have hir:=mem_ready.1 hmem
      by_cases hin:i=n
      · subst hin
        have hemp:Region.ready md ops (listed.setIfInBounds i true)=[]:=by
          apply List.eq_nil_iff_forall_not_mem.2
          intro j hj
          obtain ⟨hju,oj,hoj,hje⟩:=mem_ready.1 hj
          have hjl:j < ops.size:=(Array.getElem?_eq_some_iff.1 hoj).1
          by_cases hji:i=j
          · subst hji
            simp [Array.getD,hsl,hnl] at hju
          · have hjn:j < i:=by omega
            have key:∀ d j,j+d=i→j≠i→listed.getD j true=true:=by
              intro d
              induction d using Nat.strongRecOn with
              | _ d ihd =>
                intro j hjd hne'
                obtain ⟨u,hu1,hu2,hu3⟩:=hall j (by omega)
                have hul:u < ops.size:=by omega
                rw [Array.getElem?_eq_getElem hul] at hu3
                simp only [Option.map_some,Option.getD_some,Array.any_eq_true] at hu3
                obtain ⟨q,hq,h7⟩:=hu3
                simp only [Bool.and_eq_true,beq_iff_eq] at h7
                have h8:listed.getD (ops[u].after[q]).on false=true:=by
                  by_cases hui:u=i
                  · obtain ⟨_,o2,ho2,hedge⟩:=hir
                    subst hui
                    rw [Array.getElem?_eq_getElem hul] at ho2
                    obtain rfl:=Option.some.inj ho2
                    exact hedge _ (Array.getElem_mem hq) h7.1
                  · exact hdc u _ (Array.getElem?_eq_getElem hul) (ihd (i - u) (by omega) u (by omega) hui) _ (Array.getElem_mem hq) h7.1
                rw [h7.2] at h8
                have hjs:j < listed.size:=by omega
                simp only [Array.getD,hjs,dif_pos] at h8 ⊢
                exact h8
            rw [getD_set_ne true hji] at hju
            rw [key (i - j) j (by omega) (by omega)] at hju
            cases hju
        have hend:Region.linearise.go md ops fuel (t / (Region.ready md ops listed).length) (listed.setIfInBounds i true) []=[]:=by
          cases fuel with
          | zero=>rfl
          | succ f =>
            simp only [Region.linearise.go]
            change (match (Region.ready md ops (listed.setIfInBounds i true))[(t / (Region.ready md ops listed).length) % (Region.ready md ops (listed.setIfInBounds i true)).length]? with
              | some j=>Region.linearise.go md ops f ((t / (Region.ready md ops listed).length) / (Region.ready md ops (listed.setIfInBounds i true)).length) ((listed.setIfInBounds i true).setIfInBounds j true) [j]
              | none=>[].reverse)=[]
            rw [hemp]
            rfl
        rw [hend]
        refine GoesW.stop (fun w₁ hR=>?_)
        unfold OpC at h3
        rw [Array.getElem?_setIfInBounds,if_pos rfl,if_pos hnl] at h3
        dsimp only at h3
        have g0:=hguard i o ho
        rw [if_pos (show Region.wanted (nopOf o) (yielded (ops.setIfInBounds i (nopOf o)) a.tmps)=true by simp [Region.wanted,nopOf,g0])] at h3
        have h4:=h3 w₁ hR
        have hr:(execOp a.eval (nopOf o)).run P w₁=.ok (.value undef) w₁:=by simp [nopOf,execOp,go_sem,Act.eval]
        rw [hr] at h4
        obtain ⟨_,_,h5⟩:=h4
        have hr0:=(hready (listed.setIfInBounds i true)).trans hemp
        refine hstop a w₁ ?_
        cases fuel with
        | zero=>exact h5.2
        | succ f=>exact h5.1 hr0
      · unfold OpC at h3
        rw [Array.getElem?_setIfInBounds,if_neg (Ne.symm hin)] at h3
        obtain ⟨hun',oi,hoi,hedge⟩:=hir
        rw [hoi] at h3
        have g0:=hguard i oi hoi
        have w1:∀ (ops2:Array Oper) (t:Array Value),Region.wanted oi (yielded ops2 t)=true:=fun ops2 t=>by simp [Region.wanted,g0]
        dsimp only at h3
        rw [if_pos (w1 _ _)] at h3
        have hun2:(listed.setIfInBounds i true).getD n true=false:=by
          rw [getD_set_ne true hin]; exact hun
        have hdc2:∀ (j:Nat) (oj:Oper),ops[j]?=some oj→(listed.setIfInBounds i true).getD j true=true→∀ e ∈ oj.after,Region.binds md e=true→(listed.setIfInBounds i true).getD e.on false=true:=fun j oj hoj hl e he hb=>by
          have h8:listed.getD e.on false=true:=by
            by_cases hji:i=j
            · subst hji
              rw [hoi] at hoj
              obtain rfl:=Option.some.inj hoj
              exact hedge e he hb
            · rw [getD_set_ne true hji] at hl
              exact hdc j oj hoj hl e he hb
          by_cases hei:i=e.on
          · subst hei
            have:e.on < listed.size:=by
              rcases Nat.lt_or_ge e.on listed.size with z | z
              · exact z
              · simp [Array.getD,Nat.not_lt.2 z] at h8
            simp [Array.getD,this]
          · have:e.on < listed.size:=by
              rcases Nat.lt_or_ge e.on listed.size with z | z
              · exact z
              · simp [Array.getD,Nat.not_lt.2 z] at h8
            simp only [Array.getD,this,dif_pos,Array.size_setIfInBounds] at h8 ⊢
            simp only [Array.getInternal_eq_getElem] at h8 ⊢
            rw [Array.getElem_setIfInBounds,if_neg hei]
            exact h8
        refine GoesW.step' rfl fun w₁ h₁=>?_
        have h4:=h3 w₁ h₁
        have h5:(stepG P main (G (b.at a (.inRegion ops (i :: Region.linearise.go md ops fuel (t / (Region.ready md ops listed).length) (listed.setIfInBounds i true) []) :: k)) cs) w₁).goes (fun g' w' es=>D w₁ w' es∧GoesW P main R D Stop g' w'):=by
          refine goes_oper hoi (w1 _ _) hk ?_
          revert h4
          cases (execOp a.eval oi).run P w₁ with
          | ok x w'=>cases x <;> first | exact fun ⟨d,_,g⟩=>⟨hb ▸ d,ih _ _ _ _ g (by simp [hsl]) hun2 hdc2⟩ | exact id
          | halt _ _=>exact id
        cases hg:stepG P main (G (b.at a (.inRegion ops (i :: Region.linearise.go md ops fuel (t / (Region.ready md ops listed).length) (listed.setIfInBounds i true) []) :: k)) cs) w₁ with
        | go g' w' es=>rw [hg,goes_go] at h5; exact ⟨g',w',es,rfl,h5.1,h5.2⟩
        | _=>rw [hg] at h5; exact h5.elim
end
section
variable {P:Program} {h:Nat} {F:Machine→Trace→Prop} {E:Env} {w:World}
theorem HG.looksTo {fr:Frame} {a aF:Act} {k:List Item} {cs:List Frame} {rid n:Nat} {o:Oper} {ops:Array Oper} {S:World→Prop} (hm:P.follows .mixedOrders=true) (hk:fr.kind=.normal) (ho:ops[n]?=some o) (hB:lastT .any ops n=true)
    (hany:∀ w₁,Aw E.W w w₁→AnyCH P (Aw E.W) E.D fr.fn .any (ops.setIfInBounds n (nopOf o)) (fun e a' w'=>e=.normal∧a'=aF∧Aw E.W w w') S ops.size (Array.replicate ops.size false) a { w₁ with drawn:=w₁.drawn+1 })
    (hg:∀ w',Aw E.W w w'→HG P h F E (G (fr.at aF (.inRegion ops [n] :: k)) cs) w'):HG P h F E (G (fr.at a (.code (.region rid ops true) :: k)) cs) w:=by
  refine (HG.clo P h F E).own rfl (fun w₁ hA=>⟨_,_,_,stepG_region_draw,⟨Nat.le_refl _,fun _ _=>rfl,fun _ _=>rfl,fun _ _ x _ _ _ h=>⟨x,h⟩,fun f=>(by cases f; constructor <;> assumption),fun e he=>by simp at he,SameIo.refl _⟩,?_⟩)
  simp only [Region.schedule,hm,Bool.true_or,if_true]
  refine (HG.clo P h F E).goes _ _ ?_
  have hs:(ops[n]?).isSome=true:=by rw [ho]; rfl
  have hnl:n < ops.size:=(Array.getElem?_eq_some_iff.1 ho).1
  refine goes_last (fn:=fr.fn) (Q:=fun e a' w'=>e=.normal∧a'=aF∧Aw E.W w w') (S:=S) ho hB (Aw.refl _) rfl (by rw [hk]; decide) (fun a' w' ⟨_,q2,q3⟩=>?_) _ _ _ _ _ (hany w₁ hA) (by simp) (by simp [Array.getD,hnl]) (fun j oj hoj hl=>by
    have:j < ops.size:=(Array.getElem?_eq_some_iff.1 hoj).1
    simp [Array.getD,this] at hl)
  subst q2
  exact hg w' q3
end
end Go.Proofs.Ytimlbbleblijnaa.Co

namespace Go.Proofs.Ytimlbbleblijnaa.Co
open Go Go.Conc Go.RowKit
open Go.ConcN (sumTo upd sumTo_upd upd_ne upd_same sumTo_congr le_sumTo)
abbrev Tld:=Int × Int × Int × Int × Int
abbrev Tl3:=Int × Int × Int
def actT (c k:Int) (tl:Tl3):Tl3:=if c=2 then (0,0,0) else if c=3 then (tl.1,IntKind.i64.wrap (tl.2.1+1),tl.2.2) else if c=4 then (tl.1,tl.2.1,k) else tl
def actL (c:Int) (t:Nat) (k:Int) (tl:Tl3) (L:List Tld):List Tld:=if c=5 then L ++ [((t:Int),k,tl.1,tl.2.1,tl.2.2)] else L
structure RL where
  t:Nat
  i:Nat
  tl:Tl3
structure RSt where
  told:List Tld
  cnt:Nat→Nat
def actS (c:Int) (t:Nat) (k:Int) (tl:Tl3) (i:Nat) (s:RSt):RSt:=⟨actL c t k tl s.told,upd s.cnt t (i+1)⟩
inductive AdvR (ops:List Int) (t:Nat) (k:Int):Nat→Tl3→RSt→RSt × Option RL→Prop
  | stop {i tl s} (h:ops.length≤i):AdvR ops t k i tl s (s,none)
  | step {i tl s} (h:ops[i]?=some 1):AdvR ops t k i tl s (s,some ⟨t,i,tl⟩)
  | act {i tl s c z} (h:ops[i]?=some c) (hc:c≠1) (hz:AdvR ops t k (i+1) (actT c k tl) (actS c t k tl i s) z):AdvR ops t k i tl s z
theorem AdvR.who {ops:List Int} {t:Nat} {k:Int} {i:Nat} {tl:Tl3} {L:RSt} {z:RSt × Option RL} (h:AdvR ops t k i tl L z):∀ {s':RSt} {l':RL},z=(s',some l')→l'.t=t∧(L.cnt t=i→s'.cnt t=l'.i):=by
  induction h with
  | stop=>intro s' l' e; cases e
  | step=>intro s' l' e; cases e; exact ⟨rfl,id⟩
  | act _ _ _ ih=>exact fun e=>⟨(ih e).1,fun _=>(ih e).2 (upd_same ..)⟩
theorem AdvR.other {ops:List Int} {t:Nat} {k:Int} {i:Nat} {tl:Tl3} {L:RSt} {z:RSt × Option RL} (h:AdvR ops t k i tl L z) {t':Nat} (hne:t'≠t):z.1.cnt t'=L.cnt t':=by
  induction h with
  | stop=>rfl
  | step=>rfl
  | act _ _ _ ih=>exact ih.trans (upd_ne _ _ hne)
structure RT where
  la:Nat
  lo:Nat
  A:Option Addr
  cap:Nat
  ops:List Int
def opsR (L:List RT) (t:Nat):List Int:=((L[t]?).map (·.ops)).getD []
def tldV (m:Tld):List Value:=[.int .i64 m.1,.int .i64 m.2.1,.int .i64 m.2.2.1,.int .i64 m.2.2.2.1,.int .i64 m.2.2.2.2]
def tldsV (l:List Tld):List Value:=(l.map tldV).flatten
theorem tldsV_snoc (l:List Tld) (m:Tld):tldsV (l ++ [m])=tldsV l ++ tldV m:=by simp [tldsV]
structure RunM (bb:Nat) (K:Nat→Obj→Prop) (L:List RT) (s:RSt) (E:Env) (w:World):Prop where
  bbH:E.H bb=none
  kobj:∀ b o,K b o→w.heap[b]?=some o∧E.H b=none∧b≠bb
  row:∃ mv,w.heap[bb]?=some (.cells #[mv] 63)∧w.ownsRow (bb+1) 117 5 mv s.told.length (tldsV s.told)∧∀ g,mv.ownBlock=some g→E.H g=none∧∀ b o,K b o→b≠g
  len:s.told.length≤sumTo L.length s.cnt
  cnt:∀ t,s.cnt t≤(opsR L t).length
theorem RunM.konst {bb:Nat} {K:Nat→Obj→Prop} {L:List RT} {s:RSt} {E:Env} {w:World} (m:RunM bb K L s E w) (a:Addr) (v:Value) (h:KC K a v):w.cell? a=some v∧E.H a.block=none∧a.block≠bb:=by
  obtain ⟨o,h1,h2⟩:=h
  obtain ⟨k1,k2,k3⟩:=m.kobj _ _ h1
  exact ⟨h2 w k1,k2,k3⟩
theorem RunM.move {bb:Nat} {K:Nat→Obj→Prop} {L:List RT} {s:RSt} {E E':Env} {w w':World} (m:RunM bb K L s E w) (hb:∀ b,b < w.heap.size→E.H b=none→E'.H b=none∧w'.heap[b]?=w.heap[b]?):RunM bb K L s E' w':=by
  obtain ⟨mv,r1,r2,r3⟩:=m.row
  have hl:=(Array.getElem?_eq_some_iff.1 r1).1
  refine ⟨(hb bb hl m.bbH).1,fun b o hk=>?_,⟨mv,by rw [(hb bb hl m.bbH).2]; exact r1,ownsRow_same r2 (fun g hg=>(hb g (r2.lt g hg).2 (r3 g hg).1).2),fun g hg=>⟨(hb g (r2.lt g hg).2 (r3 g hg).1).1,(r3 g hg).2⟩⟩,m.len,m.cnt⟩
  obtain ⟨k1,k2,k3⟩:=m.kobj b o hk
  have hl:=(Array.getElem?_eq_some_iff.1 k1).1
  exact ⟨(hb b hl k2).2.trans k1,(hb b hl k2).1,k3⟩
theorem RunM.still {bb j:Nat} {K:Nat→Obj→Prop} {L:List RT} {s:RSt} {E E':Env} {w w':World} (m:RunM bb K L s E w) (S:Still j E w E' w'):RunM bb K L s E' w' :=
  m.move fun b hb hn=>by
    obtain ⟨s1,s2⟩:=S.st b _ hn (Array.getElem?_eq_getElem hb)
    exact ⟨s1,by rw [s2,Array.getElem?_eq_getElem hb]⟩
theorem RunM.step {bb:Nat} {K:Nat→Obj→Prop} {L:List RT} {s:RSt} {E:Env} {w:World} (m:RunM bb K L s E w) {t i:Nat} (hi:s.cnt t=i) (hl:i < (opsR L t).length) (ht:t < L.length) {tl:List Tld} (e:tl=s.told):RunM bb K L ⟨tl,upd s.cnt t (i+1)⟩ E w:=by
  subst e
  refine ⟨m.bbH,m.kobj,m.row,?_,fun t'=>?_⟩
  · have h1:=sumTo_upd s.cnt (i+1) (fun x=>x) (j:=L.length) (i:=t) ht
    have h2:=m.len
    have h3:sumTo L.length (fun a=>upd s.cnt t (i+1) a)=sumTo L.length (upd s.cnt t (i+1)):=rfl
    have h4:sumTo L.length (fun a=>s.cnt a)=sumTo L.length s.cnt:=rfl
    show s.told.length≤sumTo L.length (upd s.cnt t (i+1))
    omega
  · show upd s.cnt t (i+1) t'≤_
    by_cases e:t'=t
    · subst e
      rw [upd_same]; exact hl
    · rw [upd_ne _ _ e]; exact m.cnt t'
def runD (bb:Nat) (K:Nat→Obj→Prop) (L:List RT):Prot RSt RL where
  M:=RunM bb K L
  next ℓ k s z:=AdvR (opsR L ℓ.t) ℓ.t k (ℓ.i+1) (IntKind.i64.wrap (ℓ.tl.1+1),ℓ.tl.2.1,ℓ.tl.2.2) ⟨s.told,upd s.cnt ℓ.t (ℓ.i+1)⟩ z
  fits ℓ s:=s.cnt ℓ.t=ℓ.i
  who ℓ:=ℓ.t
  init t s:=∀ t',t≤t'→s.cnt t'=0
  mono:=fun ℓ k s s' o l2 h1 h2 hw hn=>by
    have:=hn.other (t':=l2.t) hw
    exact (this.trans (upd_ne _ _ hw)).trans h2
  fresh:=fun ℓ k s s' l' _ h=>by
    obtain ⟨h1,h2⟩:=h.who rfl
    exact ⟨by show s'.cnt l'.t=l'.i; rw [h1]; exact h2 (upd_same ..),h1⟩
  tal ℓ:=ℓ.tl
  closed:=fun s E w E' w' m hb=>m.move hb
theorem run_startOk {bb:Nat} {K:Nat→Obj→Prop} {L:List RT} (t:Nat):StartOk (runD bb K L) t (AdvR (opsR L t) t 0 0 (0,0,0)):=by
  refine ⟨fun s s' o l2 hi ha hw hf=>?_,fun s s' l' hi ha=>?_,fun s s' o hi ha t' ht=>?_⟩
  · have hw':l2.t≠t:=Nat.ne_of_lt hw
    exact (ha.other (t':=l2.t) hw').trans hf
  · obtain ⟨h1,h2⟩:=ha.who rfl
    exact ⟨by show s'.cnt l'.t=l'.i; rw [h1]; exact h2 (hi t (Nat.le_refl _)),h1⟩
  · exact (ha.other (t':=t') (by omega)).trans (hi t' (by omega))
theorem info117:∃ i:TypeInfo,Try.prog.info? 117=some i∧i.zero=some (.agg #[.int .i64 0,.int .i64 0,.int .i64 0,.int .i64 0,.int .i64 0])∧i.size=5∧i.bytes=40:=by
  have h:(Try.prog.info? 117).isSome=true:=by kernel_rfl
  obtain ⟨i,hi⟩:=Option.isSome_iff_exists.1 h
  have h2:(Try.prog.info? 117).map (fun i=>(i.zero,i.size,i.bytes))=some (some (.agg #[.int .i64 0,.int .i64 0,.int .i64 0,.int .i64 0,.int .i64 0]),5,40):=by kernel_rfl
  rw [hi] at h2
  simp only [Option.map_some,Option.some.injEq,Prod.mk.injEq] at h2
  exact ⟨i,hi,h2.1,h2.2.1,h2.2.2⟩
structure Told1 (bb:Nat) (mv:Value) (xs:List Value) (n:Nat) (x x':World):Prop where
  size:x.heap.size≤x'.heap.size
  old:∀ c,c < x.heap.size→c≠bb→mv.ownBlock≠some c→x'.heap[c]?=x.heap[c]?
  new:∃ mv',x'.heap[bb]?=some (.cells #[mv'] 63)∧x'.ownsRow (bb+1) 117 5 mv' n xs∧∀ g,mv'.ownBlock=some g→mv.ownBlock=some g∨x.heap.size≤g
theorem runM_told {bb:Nat} {K:Nat→Obj→Prop} {L:List RT} {s:RSt} {E E1:Env} {w w1 x x':World} {mv:Value} {m:Tld} (M:RunM bb K L s E w) (hmv:w.heap[bb]?=some (.cells #[mv] 63)) (hE:E1.H=E.H) (hxs:x.heap.size=w.heap.size) (hx:∀ b,E.H b=none→x.heap[b]?=w.heap[b]?) (hx':∀ b,E.H b=none→w1.heap[b]?=x'.heap[b]?) (hB:∀ b,w.heap.size≤b→E.H b=none)
    (T:Told1 bb mv (tldsV s.told ++ tldV m) (s.told.length+1) x x') {s':RSt} (hs:s'.told=s.told ++ [m]) (hln:s'.told.length≤sumTo L.length s'.cnt) (hcn:∀ t,s'.cnt t≤(opsR L t).length):RunM bb K L s' E1 w1:=by
  obtain ⟨mv0,r1,r2,r3⟩:=M.row
  have e0:mv0=mv:=by
    rw [hmv] at r1
    simpa using r1.symm
  subst e0
  obtain ⟨mv',v1,v2,v3⟩:=T.new
  have hg':∀ g,mv'.ownBlock=some g→E.H g=none:=fun g hg=>by
    rcases v3 g hg with z | z
    · exact (r3 g z).1
    · exact hB g (by omega)
  refine ⟨by rw [hE]; exact M.bbH,fun b o hka=>?_,⟨mv',by rw [hx' bb M.bbH]; exact v1,?_,fun g hg=>⟨by rw [hE]; exact hg' g hg,fun b o hka=>?_⟩⟩,hln,hcn⟩
  · obtain ⟨k1,k2,k3⟩:=M.kobj b o hka
    have hl:=(Array.getElem?_eq_some_iff.1 k1).1
    refine ⟨?_,by rw [hE]; exact k2,k3⟩
    rw [hx' b k2,T.old b (by omega) k3 (fun e=>(r3 _ e).2 b o hka rfl),hx b k2]
    exact k1
  · have e1:s'.told.length=s.told.length+1:=by rw [hs]; simp
    rw [e1,hs,tldsV_snoc]
    exact ownsRow_same v2 (fun g hg=>hx' g (hg' g hg))
  · rcases v3 g hg with z | z
    · exact (r3 g z).2 b o hka
    · have:=(Array.getElem?_eq_some_iff.1 (M.kobj b o hka).1).1
      omega
def cntT (l:List Mk) (t:Nat):Nat:=(l.filter (fun m=>m.1 == (t:Int))).length
def lastK (l:List Mk):Int:=(l.getLast?.map (·.2.1)).getD 0
theorem cntT_snoc (l:List Mk) (m:Mk) (t:Nat):cntT (l ++ [m]) t=cntT l t+if m.1=(t:Int) then 1 else 0:=by
  unfold cntT
  rw [List.filter_append,List.length_append]
  by_cases h:m.1=(t:Int)
  · simp [h]
  · simp [h]
theorem lastK_snoc (l:List Mk) (m:Mk):lastK (l ++ [m])=m.2.1:=by simp [lastK]
def okMk (ts:List (List Op3)) (picks:List Int) (l:List Mk) (m:Mk):Prop :=
  ∃ t q:Nat,t < ts.length∧m=((t:Int),((q+1:Nat):Int),(cntT l t:Int),nOf ts t (cntT l t))∧cntT l t < lenOf ts t∧lastK l < ((q+1:Nat):Int)∧∀ p,picks[q]?=some p→pickIx p ts.length=t
def okMs (ts:List (List Op3)) (picks:List Int) (ms:List Mk):Prop:=∀ i m,ms[i]?=some m→okMk ts picks (ms.take i) m
theorem okMs_snoc {ts:List (List Op3)} {picks:List Int} {ms:List Mk} {m:Mk} (h:okMs ts picks ms) (hm:okMk ts picks ms m):okMs ts picks (ms ++ [m]):=by
  intro i x hx
  rcases Nat.lt_or_ge i ms.length with z | z
  · rw [List.getElem?_append_left z] at hx
    rw [List.take_append_of_le_length (Nat.le_of_lt z)]
    exact h i x hx
  · have hi:i=ms.length:=by
      have:=(List.getElem?_eq_some_iff.1 hx).1
      simp at this; omega
    subst hi
    rw [List.getElem?_append_right (Nat.le_refl _)] at hx
    simp at hx
    subst hx
    simpa using hm
structure GI (ts:List (List Op3)) (picks:List Int) (a:PA) (k:Nat):Prop where
  ms:okMs ts picks a.ms
  cnt:∀ t,cntT a.ms t=a.cnt t
  le:∀ t,a.cnt t≤lenOf ts t
  last:lastK a.ms≤(k:Int)
theorem GI.up {ts:List (List Op3)} {picks:List Int} {a:PA} {k:Nat} (h:GI ts picks a k):GI ts picks a (k+1):=⟨h.ms,h.cnt,h.le,by have:=h.last; push_cast; omega⟩
theorem GI.pick {ts:List (List Op3)} {picks:List Int} {a:PA} {k t:Nat} (h:GI ts picks a k) (ht:t < ts.length) (ha:(playG ts).alive a t=true) (hp:∀ p,picks[k]?=some p→pickIx p ts.length=t):GI ts picks ((playG ts).pick a t ((k:Int)+1)) (k+1):=by
  have ha':a.cnt t < lenOf ts t:=of_decide_eq_true ha
  have hl:=h.last
  refine ⟨?_,fun t'=>?_,fun t'=>?_,?_⟩
  · show okMs ts picks (a.ms ++ [_])
    refine okMs_snoc h.ms ⟨t,k,ht,?_,by rw [h.cnt]; exact ha',by push_cast; omega,hp⟩
    rw [h.cnt]
    push_cast
    rfl
  · show cntT (a.ms ++ [_]) t'=upd a.cnt t (a.cnt t+1) t'
    rw [cntT_snoc,h.cnt]
    dsimp only
    by_cases e:t'=t
    · subst e
      rw [upd_same,if_pos rfl]
    · rw [upd_ne _ _ e,if_neg (by omega),Nat.add_zero]
  · show upd a.cnt t (a.cnt t+1) t'≤_
    by_cases e:t'=t
    · subst e
      rw [upd_same]; exact ha'
    · rw [upd_ne _ _ e]; exact h.le t'
  · show lastK (a.ms ++ [_])≤_
    rw [lastK_snoc]
    push_cast
    exact Int.le_refl _
end Go.Proofs.Ytimlbbleblijnaa.Co

namespace Go.Proofs.Ytimlbbleblijnaa.Co
open Go Go.Conc Go.RowKit
theorem round_eq (p:Int) (n:Nat) (hn:0 < n):(if p.tmod n < 0 then p.tmod n+n else p.tmod n)=(pickIx p n:Int):=by
  unfold pickIx
  have h1:-(n:Int) < p.tmod n:=Int.lt_tmod_of_pos p (by omega)
  have h2:p.tmod n < n:=Int.tmod_lt_of_pos p (by omega)
  split
  · have e:(p.tmod n+n).tmod n=p.tmod n+n:=Int.tmod_eq_of_lt (by omega) (by omega)
    rw [e]
    omega
  · have e:(p.tmod n+n).tmod n=p.tmod n:=by
      rw [Int.tmod_eq_emod_of_nonneg (by omega),Int.add_emod_right,Int.emod_eq_of_lt (by omega) h2]
    rw [e]
    omega
set_option maxHeartbeats 400000 in
theorem round_any (p:Int) (n:Nat) (hn:0 < n) (hn2:n≤1000000000000) (hp:-9223372036854775808≤p∧p≤9223372036854775807) (w:World) :
    Calls Try.prog 26 #[.int .i64 p,.int .i64 (n:Int)] w fun e w'=>e=.returned (.int .i64 (pickIx p n:Int))∧w'=w:=by
  have h1:-(n:Int) < p.tmod n:=Int.lt_tmod_of_pos p (by omega)
  have h2:p.tmod n < n:=Int.tmod_lt_of_pos p (by omega)
  have h0:¬ (n:Int)=0:=by omega
  have hr:=round_eq p n hn
  obtain ⟨r,hr'⟩:∃ r,r=p.tmod n:=⟨_,rfl⟩
  obtain ⟨z,hz⟩:∃ z:Int,z=(pickIx p n:Int):=⟨_,rfl⟩
  rw [← hz] at hr ⊢
  rw [← hr'] at hr h1 h2
  replace hz:=Lib.hid hz
  have hrr:p.tmod n=r:=hr'.symm
  clear hr'
  by_cases hneg:r < 0
  · rw [if_pos hneg] at hr
    have hw:IntKind.i64.wrap (r+n)=z:=by rw [IntKind.wrap_i64]; omega
    replace hr:=Lib.hid hr
    go_enter Try.func26,Try.ntmps26
    go_wp2
    go_ret
    exact ⟨rfl,rfl⟩
  · rw [if_neg hneg] at hr
    subst hr
    go_enter Try.func26,Try.ntmps26
    go_wp2
    go_ret
    exact ⟨rfl,rfl⟩
theorem mksV_get:∀ {ms:List Mk} {i:Nat} {m:Mk},ms[i]?=some m→∀ {j:Nat},j < 4→(mksV ms)[i * 4+j]?=(mkV m)[j]?
  | m0 :: ms,0,m,h,j,hj=>by
    cases h
    have e:mksV (m0 :: ms)=mkV m0 ++ mksV ms:=by simp [mksV]
    rw [e,List.getElem?_append_left (by simp [mkV]; omega),Nat.zero_mul,Nat.zero_add]
  | m0 :: ms,i+1,m,h,j,hj=>by
    have e:mksV (m0 :: ms)=mkV m0 ++ mksV ms:=by simp [mksV]
    have hl:(mkV m0).length=4:=rfl
    rw [e,List.getElem?_append_right (by rw [hl]; omega),hl,show (i+1) * 4+j - 4=i * 4+j by omega]
    exact mksV_get (by simpa using h) hj
  | [],_,_,h,_,_=>by simp at h
structure AtRow (x wr:World) (ab n:Nat) (c:Nat→Nat):Prop where
  size:wr.heap.size=x.heap.size
  old:∀ b,b≠ab→wr.heap[b]?=x.heap[b]?
  row:wr.heap[ab]?=some (.cells ((List.range n).map fun t=>.int .i64 (c t:Int)).toArray 3)
theorem AtRow.cell {x wr:World} {ab n t:Nat} {c:Nat→Nat} (h:AtRow x wr ab n c) (ht:t < n):wr.cell? ⟨ab,t,none⟩=some (.int .i64 (c t:Int)):=by
  refine obj_cell h.row ?_
  simp [ht]
theorem AtRow.set {x wr:World} {ab n t:Nat} {c:Nat→Nat} (h:AtRow x wr ab n c) (ht:t < n):AtRow x (wr.setCell ⟨ab,t,none⟩ (.int .i64 ((c t+1:Nat):Int))) ab n (fun t'=>c t'+if t'=t then 1 else 0):=by
  refine ⟨by rw [← h.size]; simp [World.setCell],fun b hb=>by rw [heap_setCell_ne (a:=⟨ab,t,none⟩) (fun e=>hb e.symm)]; exact h.old b hb,?_⟩
  have hl:=(Array.getElem?_eq_some_iff.1 h.row).1
  have e:(wr.setCell ⟨ab,t,none⟩ (.int .i64 ((c t+1:Nat):Int))).heap[ab]?=some (.cells ((((List.range n).map fun t=>Value.int .i64 (c t:Int)).toArray).setIfInBounds t (.int .i64 ((c t+1:Nat):Int))) 3):=heap_set (a:=⟨ab,t,none⟩) (w:=wr) rfl h.row
  rw [e]
  congr 2
  refine Array.ext_getElem? fun i=>?_
  rw [Array.getElem?_setIfInBounds]
  by_cases hi:t=i
  · subst hi
    simp [ht]
  · have hi':¬ i=t:=fun e=>hi e.symm
    rw [if_neg hi]
    by_cases hin:i < n
    · simp [hin,hi']
    · simp [hin]
def nextF (picks:List Int) (drain:Bool) (n:Nat) (alive:Nat→Bool) (K nxt:Nat):Int × Nat × Nat :=
  if n=0 then (-2,K,nxt) else
  match picks[K]? with
  | some p=>(if alive (pickIx p n) then (pickIx p n:Int) else -1,K+1,nxt)
  | none=>if drain then (match nx alive n n nxt with
    | some t=>((t:Int),K+1,(t+1) % n)
    | none=>(-2,K,nxt)) else (-2,K,nxt)
def runCells (pv:Value) (drain:Bool) (K nxt:Nat):Obj:=.cells #[pv,.bool drain,.int .i64 (K:Int),.int .i64 (nxt:Int)] 89
structure RunTo (rb:Nat) (pv:Value) (drain:Bool) (K nxt:Nat) (x x':World):Prop where
  size:x'.heap.size=x.heap.size
  old:∀ b,b≠rb→x'.heap[b]?=x.heap[b]?
  run:x'.heap[rb]?=some (runCells pv drain K nxt)
  io:x'.os=x.os∧x'.tape=x.tape∧x'.output=x.output
theorem RunTo.set2 {rb:Nat} {pv:Value} {drain:Bool} {K nxt:Nat} {x x':World} (h:RunTo rb pv drain K nxt x x') (K':Nat):RunTo rb pv drain K' nxt x (x'.setCell ⟨rb,2,none⟩ (.int .i64 (K':Int))):=by
  refine ⟨by rw [← h.size]; simp [World.setCell],fun b hb=>by rw [heap_setCell_ne (a:=⟨rb,2,none⟩) (fun e=>hb e.symm)]; exact h.old b hb,?_,h.io⟩
  exact heap_set (a:=⟨rb,2,none⟩) (w:=x') rfl h.run
theorem RunTo.set3 {rb:Nat} {pv:Value} {drain:Bool} {K nxt:Nat} {x x':World} (h:RunTo rb pv drain K nxt x x') (n':Nat):RunTo rb pv drain K n' x (x'.setCell ⟨rb,3,none⟩ (.int .i64 (n':Int))):=by
  refine ⟨by rw [← h.size]; simp [World.setCell],fun b hb=>by rw [heap_setCell_ne (a:=⟨rb,3,none⟩) (fun e=>hb e.symm)]; exact h.old b hb,?_,h.io⟩
  exact heap_set (a:=⟨rb,3,none⟩) (w:=x') rfl h.run
theorem RunTo.drewN {rb:Nat} {pv:Value} {drain:Bool} {K nxt:Nat} {x x':World} (h:RunTo rb pv drain K nxt x x') (n:Nat):RunTo rb pv drain K nxt x (x'.drewN n):=⟨h.size,h.old,h.run,h.io⟩
theorem RunTo.drew {rb:Nat} {pv:Value} {drain:Bool} {K nxt:Nat} {x x':World} (h:RunTo rb pv drain K nxt x x'):RunTo rb pv drain K nxt x x'.drew:=⟨h.size,h.old,h.run,h.io⟩
theorem next_none {x:World} {rb eb K nxt:Nat} {pv:Value} {drain:Bool} (hr:x.heap[rb]?=some (runCells pv drain K nxt)) :
    Calls Try.prog 66 #[.pointer (some ⟨rb,0,none⟩),.slice (some ⟨eb,0,none⟩) 0 0] x fun e x'=>e=.returned (.int .i64 (-2))∧RunTo rb pv drain K nxt x x':=by
  have hR:RunTo rb pv drain K nxt x x:=⟨rfl,fun _ _=>rfl,hr,rfl,rfl,rfl⟩
  replace hR:=Lib.hid hR
  clear hr
  go_enter Try.func66,Try.ntmps66
  go_wp2
  go_ret
  exact ⟨rfl,hR.out⟩
theorem next_pick {x:World} {rb eb K nxt n np pcap pb po:Nat} {p:Int} {a:Bool} {drain:Bool} (hn0:0 < n) (hn:n≤8) (hK:K < np) (hnp:np≤1000000000000) (hp:-9223372036854775808≤p∧p≤9223372036854775807)
    (hr:x.heap[rb]?=some (runCells (.slice (some ⟨pb,po,none⟩) np pcap) drain K nxt)) (hc:x.cell? ⟨pb,po+K,none⟩=some (.int .i64 p)) (he:x.cell? ⟨eb,pickIx p n,none⟩=some (.bool (!a))) (d1:rb≠eb) :
    Calls Try.prog 66 #[.pointer (some ⟨rb,0,none⟩),.slice (some ⟨eb,0,none⟩) n n] x fun e x'=>e=.returned (.int .i64 (if a then (pickIx p n:Int) else -1))∧RunTo rb (.slice (some ⟨pb,po,none⟩) np pcap) drain (K+1) nxt x x':=by
  have hR:RunTo rb (.slice (some ⟨pb,po,none⟩) np pcap) drain K nxt x x:=⟨rfl,fun _ _=>rfl,hr,rfl,rfl,rfl⟩
  have hlt:=pickIx_lt p hn0
  have cl:=fun W=>round_any p n hn0 (by omega) hp W
  obtain ⟨t,ht⟩:∃ t,t=pickIx p n:=⟨_,rfl⟩
  rw [← ht] at he hlt cl ⊢
  have c0:x.cell? ⟨rb,0,none⟩=some (.slice (some ⟨pb,po,none⟩) np pcap):=obj_cell hr rfl
  have c2:x.cell? ⟨rb,2,none⟩=some (.int .i64 (K:Int)):=obj_cell hr rfl
  have hz:x.frozen? ⟨rb,2,none⟩=false:=obj_thaw hr 2
  have q0:¬ (n:Int)=0:=by omega
  have q0':((n:Int) == 0)=false:=by simp; omega
  have q1:(K:Int) < (np:Int):=by omega
  have q2:(0:Int)≤(K:Int):=by omega
  have q3:(0:Int)≤(t:Int):=by omega
  have q4:(t:Int) < (n:Int):=by omega
  have p1:decide ((K:Int) < (np:Int))=true:=decide_eq_true q1
  have hw:IntKind.i64.wrap ((K:Int)+1)=((K+1:Nat):Int):=by rw [IntKind.wrap_i64]; omega
  have hfin:∀ nq:Nat,RunTo rb (.slice (some ⟨pb,po,none⟩) np pcap) drain (K+1) nxt x ((x.drewN nq).setCell ⟨rb,2,none⟩ (.int .i64 ((K+1:Nat):Int))):=fun nq=>(hR.drewN nq).set2 (K+1)
  replace ht:=Lib.hid ht
  replace hR:=Lib.hid hR
  replace hr:=Lib.hid hr
  replace hfin:=Lib.hid hfin
  have hd1:eb≠rb:=fun e=>d1 e.symm
  cases a with
  | true =>
    go_enter Try.func66,Try.ntmps66
    go_wp2_with fail
    go_quiet (fail)
    go_wp2_with fail
    go_quiet ((go_at_call 26; exact (cl _).mono (fun _ _ h=>⟨h.1,_,h.2⟩)))
    go_wp2_with fail
    go_ret
    exact ⟨rfl,hfin.out _⟩
  | false =>
    go_enter Try.func66,Try.ntmps66
    go_wp2_with fail
    go_quiet (fail)
    go_wp2_with fail
    go_quiet ((go_at_call 26; exact (cl _).mono (fun _ _ h=>⟨h.1,_,h.2⟩)))
    go_wp2_with fail
    go_ret
    exact ⟨rfl,hfin.out _⟩
theorem nx_stop {alive:Nat→Bool} {n:Nat}:∀ {m x:Nat},x < n→(∀ j,j < m→alive ((x+j) % n)=false)→nx alive n m x=none
  | 0,_,_,_=>rfl
  | m+1,x,hx,h=>by
    have h0:=h 0 (by omega)
    rw [Nat.add_zero,Nat.mod_eq_of_lt hx] at h0
    rw [nx,h0]
    simp only [Bool.false_eq_true,if_false]
    refine nx_stop (Nat.mod_lt _ (by omega)) fun j hj=>?_
    rw [Nat.mod_add_mod,show x+1+j=x+(j+1) by omega]
    exact h (j+1) (by omega)
theorem nx_first {alive:Nat→Bool} {n:Nat}:∀ {m i x:Nat},x < n→i < m→(∀ j,j < i→alive ((x+j) % n)=false)→alive ((x+i) % n)=true→nx alive n m x=some ((x+i) % n)
  | 0,_,_,_,h,_,_=>absurd h (by omega)
  | m+1,0,x,hx,_,_,ha=>by
    have e:(x+0) % n=x:=by rw [Nat.add_zero,Nat.mod_eq_of_lt hx]
    rw [e] at ha ⊢
    rw [nx,if_pos ha]
  | m+1,i+1,x,hx,hi,h,ha=>by
    have h0:=h 0 (by omega)
    rw [Nat.add_zero,Nat.mod_eq_of_lt hx] at h0
    rw [nx,h0]
    simp only [Bool.false_eq_true,if_false]
    rw [nx_first (i:=i) (Nat.mod_lt _ (by omega)) (by omega) (fun j hj=>by
      rw [Nat.mod_add_mod,show x+1+j=x+(j+1) by omega]
      exact h (j+1) (by omega)) (by
      rw [Nat.mod_add_mod,show x+1+i=x+(i+1) by omega]
      exact ha),Nat.mod_add_mod,show x+1+i=x+(i+1) by omega]
theorem tmod_next (t n:Nat):(((t:Int)+1).tmod (n:Int))=(((t+1) % n:Nat):Int):=by
  rw [Int.tmod_eq_emod_of_nonneg (by omega)]
  push_cast
  rfl
theorem next_drain {x:World} {rb eb K nxt n np pcap:Nat} {pa:Option Addr} {alive:Nat→Bool} {drain:Bool} (hn0:0 < n) (hn:n≤8) (hK:np≤K) (hK2:K≤1000000000000000000) (hx:nxt < n)
    (hr:x.heap[rb]?=some (runCells (.slice pa np pcap) drain K nxt)) (he:∀ t,t < n→x.cell? ⟨eb,t,none⟩=some (.bool (!alive t))) (d1:rb≠eb) :
    Calls Try.prog 66 #[.pointer (some ⟨rb,0,none⟩),.slice (some ⟨eb,0,none⟩) n n] x fun e x'=>∃ r K' nxt',(r,K',nxt')=(if drain then (match nx alive n n nxt with | some t=>((t:Int),K+1,(t+1) % n) | none=>(-2,K,nxt)) else (-2,K,nxt))∧e=.returned (.int .i64 r)∧RunTo rb (.slice pa np pcap) drain K' nxt' x x':=by
  have hR:RunTo rb (.slice pa np pcap) drain K nxt x x:=⟨rfl,fun _ _=>rfl,hr,rfl,rfl,rfl⟩
  have c0:x.cell? ⟨rb,0,none⟩=some (.slice pa np pcap):=obj_cell hr rfl
  have c1:x.cell? ⟨rb,1,none⟩=some (.bool drain):=obj_cell hr rfl
  have c2:x.cell? ⟨rb,2,none⟩=some (.int .i64 (K:Int)):=obj_cell hr rfl
  obtain ⟨res,hres⟩:∃ res:Int × Nat × Nat,res=(if drain then (match nx alive n n nxt with | some t=>((t:Int),K+1,(t+1) % n) | none=>(-2,K,nxt)) else (-2,K,nxt)):=⟨_,rfl⟩
  rw [← hres]
  replace hres:=Lib.hid hres
  have q0:¬ (n:Int)=0:=by omega
  have q0':((n:Int) == 0)=false:=by simp; omega
  have q1:¬ (K:Int) < (np:Int):=by omega
  have p1:decide ((K:Int) < (np:Int))=false:=decide_eq_false q1
  replace hr:=Lib.hid hr
  replace he:=Lib.hid he
  replace hR:=Lib.hid hR
  replace hx:=Lib.hid hx
  go_enter Try.func66,Try.ntmps66
  go_wp2_with fail
  go_quiet (fail)
  go_wp2_with fail
  go_loopw [7,8] (fun iv tv wr=>∃ i:Nat,iv=.int .i64 (i:Int)∧i≤n∧(drain=false→i=0)∧Hid (∀ j,j < i→alive ((nxt+j) % n)=false)∧Hid (RunTo rb (.slice pa np pcap) drain K ((nxt+i) % n) x wr)) (fun iv _ _=>n+1 - natOfV iv)
  case atStart =>
    refine ⟨0,rfl,Nat.zero_le _,fun _=>rfl,fun j hj=>absurd hj (by omega),?_⟩
    show RunTo rb (.slice pa np pcap) drain K ((nxt+0) % n) x _
    rw [Nat.add_zero,Nat.mod_eq_of_lt hx.out]
    exact hR.out.drewN _
  case round =>
    obtain ⟨i,rfl,hi,hi0,hal,hrun⟩:=hrel
    have d1':wr.cell? ⟨rb,1,none⟩=some (.bool drain):=obj_cell hrun.out.run rfl
    have d2':wr.cell? ⟨rb,2,none⟩=some (.int .i64 (K:Int)):=obj_cell hrun.out.run rfl
    have d3':wr.cell? ⟨rb,3,none⟩=some (.int .i64 (((nxt+i) % n:Nat):Int)):=obj_cell hrun.out.run rfl
    have hz2:wr.frozen? ⟨rb,2,none⟩=false:=obj_thaw hrun.out.run 2
    have hz3:wr.frozen? ⟨rb,3,none⟩=false:=obj_thaw hrun.out.run 3
    obtain ⟨t,ht⟩:∃ t,t=(nxt+i) % n:=⟨_,rfl⟩
    have htn:t < n:=by rw [ht]; exact Nat.mod_lt _ hn0
    rw [← ht] at d3'
    have hct:wr.cell? ⟨eb,t,none⟩=some (.bool (!alive t)):=(World.cell?_of_block (hrun.out.old eb (fun e=>d1 e.symm))).trans (he.out t htn)
    have htm:=tmod_next t n
    obtain ⟨t1,ht1⟩:∃ t1,t1=(t+1) % n:=⟨_,rfl⟩
    rw [← ht1] at htm
    have hw1:IntKind.i64.wrap ((t:Int)+1)=(t:Int)+1:=by rw [IntKind.wrap_i64]; omega
    have hw2:IntKind.i64.wrap ((K:Int)+1)=((K+1:Nat):Int):=by rw [IntKind.wrap_i64]; omega
    have ht1':t1=(nxt+(i+1)) % n:=by rw [ht1,ht,Nat.mod_add_mod,Nat.add_assoc]
    replace ht:=Lib.hid ht
    replace ht1:=Lib.hid ht1
    replace ht1':=Lib.hid ht1'
    cases drain with
    | false =>
      obtain rfl:=hi0 rfl
      have e0:=hrun.out
      rw [Nat.add_zero,Nat.mod_eq_of_lt hx.out] at e0
      replace e0:=Lib.hid e0
      go_wp2_with fail
      go_ret
      exact ⟨-2,K,nxt,by rw [hres.out]; rfl,rfl,e0.out⟩
    | true =>
      by_cases hlt:i < n
      · have g1:(i:Int) < (n:Int):=by omega
        have g2:(0:Int)≤(t:Int):=by omega
        have g3:(t:Int) < (n:Int):=by omega
        have g4:decide ((i:Int) < (n:Int))=true:=decide_eq_true g1
        have hS3:RunTo rb (.slice pa np pcap) true K t1 x (wr.setCell ⟨rb,3,none⟩ (.int .i64 (t1:Int))):=hrun.out.set3 t1
        have hS2:RunTo rb (.slice pa np pcap) true (K+1) t1 x ((wr.setCell ⟨rb,3,none⟩ (.int .i64 (t1:Int))).setCell ⟨rb,2,none⟩ (.int .i64 ((K+1:Nat):Int))):=hS3.set2 (K+1)
        replace hS3:=Lib.hid hS3
        replace hS2:=Lib.hid hS2
        have hd1:eb≠rb:=fun e=>d1 e.symm
        cases hav:alive t with
        | true =>
          rw [hav] at hct
          replace hav:=Lib.hid hav
          go_wp2_with fail
          go_ret
          refine ⟨(t:Int),K+1,t1,?_,rfl,hS2.out⟩
          simp only [hres.out,if_true]
          rw [nx_first (i:=i) hx.out hlt hal.out (by rw [← ht.out]; exact hav.out),← ht.out,ht1.out]
        | false =>
          rw [hav] at hct
          replace hav:=Lib.hid hav
          have hiw:IntKind.i64.wrap ((i:Int)+1)=((i+1:Nat):Int):=by rw [IntKind.wrap_i64]; omega
          go_wp2_with fail
          refine ⟨⟨i+1,by rw [Int.natCast_add]; rfl,by omega,fun h=>(by cases h),fun j hj=>?_,?_⟩,by simp [natOfV]; omega⟩
          · by_cases hji:j < i
            · exact hal.out j hji
            · rw [show j=i by omega,← ht.out]; exact hav.out
          · show RunTo _ _ _ _ _ _ _
            rw [← ht1'.out]
            exact hS3.out
      · obtain rfl:i=n:=by omega
        have g1:¬ (i:Int) < (i:Int):=by omega
        have e0:=hrun.out
        rw [Nat.add_mod_right,Nat.mod_eq_of_lt hx.out] at e0
        replace e0:=Lib.hid e0
        go_wp2_with fail
        go_ret
        refine ⟨-2,K,nxt,?_,rfl,e0.out⟩
        simp only [hres.out,if_true]
        rw [nx_stop hx.out hal.out]
theorem next_any {x:World} {rb eb K nxt n pcap pb po:Nat} {pa:Option Addr} {picks:List Int} {alive:Nat→Bool} {drain:Bool} (hn:n≤8) (hK2:K≤1000000000000000000) (hnp:picks.length≤1000000000000) (hp64:∀ p ∈ picks,-9223372036854775808≤p∧p≤9223372036854775807) (hx:0 < n→nxt < n)
    (hr:x.heap[rb]?=some (runCells (.slice pa picks.length pcap) drain K nxt)) (hpa:picks≠[]→pa=some ⟨pb,po,none⟩) (hps:∀ i p,picks[i]?=some p→x.cell? ⟨pb,po+i,none⟩=some (.int .i64 p)) (he:∀ t,t < n→x.cell? ⟨eb,t,none⟩=some (.bool (!alive t))) (d1:rb≠eb) :
    Calls Try.prog 66 #[.pointer (some ⟨rb,0,none⟩),.slice (some ⟨eb,0,none⟩) n n] x fun e x'=>e=.returned (.int .i64 (nextF picks drain n alive K nxt).1)∧RunTo rb (.slice pa picks.length pcap) drain (nextF picks drain n alive K nxt).2.1 (nextF picks drain n alive K nxt).2.2 x x':=by
  unfold nextF
  by_cases hn0:n=0
  · subst hn0
    rw [if_pos rfl]
    exact next_none hr
  · rw [if_neg hn0]
    cases hp:picks[K]? with
    | some p =>
      have hlt:=(List.getElem?_eq_some_iff.1 hp).1
      obtain rfl:=hpa (by intro e; rw [e] at hlt; exact absurd hlt (Nat.not_lt_zero _))
      dsimp only
      exact next_pick (Nat.pos_of_ne_zero hn0) hn hlt hnp (hp64 p (List.mem_of_getElem? hp)) hr (hps K p hp) (he _ (pickIx_lt p (Nat.pos_of_ne_zero hn0))) d1
    | none =>
      dsimp only
      refine (next_drain (alive:=alive) (Nat.pos_of_ne_zero hn0) hn (List.getElem?_eq_none_iff.1 hp) hK2 (hx (Nat.pos_of_ne_zero hn0)) hr he d1).mono ?_
      rintro e x' ⟨r,K',nxt',h1,rfl,h2⟩
      rw [← h1]
      exact ⟨rfl,h2⟩
end Go.Proofs.Ytimlbbleblijnaa.Co

namespace Go.Proofs.Ytimlbbleblijnaa.Co
open Go Go.Conc Go.RowKit
open Go.ConcN (sumTo upd sumTo_upd upd_ne upd_same sumTo_congr le_sumTo)
structure OpsX (x:World) (ta:Option Addr) (ba bo:Nat) (LA:Nat→Option Addr) (LC:Nat→Nat) (ts:List (List Op3)):Prop where
  ta:0 < ts.length→ta=some ⟨ba,bo,none⟩
  row:∀ i l,ts[i]?=some l→x.cell? ⟨ba,bo+i,none⟩=some (.slice (LA i) l.length (LC i))
  ops:∀ i l,ts[i]?=some l→l≠[]→∃ la lo,LA i=some ⟨la,lo,none⟩∧∀ j op,l[j]?=some op→x.cell? ⟨la,lo+j * 3,none⟩=some (.int .i64 op.1)∧x.cell? ⟨la,lo+j * 3+1,none⟩=some (.int .i64 op.2.1)∧x.cell? ⟨la,lo+j * 3+2,none⟩=some (.int .i64 op.2.2)
structure RP (B rb ab eb:Nat) (pv:Value) (drain:Bool) (ts:List (List Op3)) (a:PA) (K nxt:Nat) (ov:Value) (x:World):Prop where
  run:x.heap[rb]?=some (runCells pv drain K nxt)
  at_:x.heap[ab]?=some (.cells ((List.range ts.length).map fun t=>.int .i64 (a.cnt t:Int)).toArray 3)
  en:x.heap[eb]?=some (.cells ((List.range ts.length).map fun t=>.bool (!(playG ts).alive a t)).toArray 4)
  out:x.ownsRow B 37 4 ov a.ms.length (mksV a.ms)
  n1:ov.ownBlock≠some rb
  n2:ov.ownBlock≠some ab
  n3:ov.ownBlock≠some eb
def RF (ts:List (List Op3)) (picks:List Int) (drain:Bool) (a:PA) (K nxt:Nat) (z:PA × Int):Prop :=
  (0 < ts.length∧((K≤picks.length∧nxt=0∧(if drain then (playG ts).Drn ((playG ts).picks (a,(K:Int)) (picks.drop K)) 0 z else z=(playG ts).picks (a,(K:Int)) (picks.drop K)))∨(picks.length≤K∧drain=true∧nxt < ts.length∧(playG ts).Drn (a,(K:Int)) nxt z)))∨(ts.length=0∧z=(a,(K:Int)))
theorem rf_next {ts:List (List Op3)} {picks:List Int} {drain:Bool} {a:PA} {K nxt:Nat} {z:PA × Int} (h:RF ts picks drain a K nxt z) {r:Int} {K' nxt':Nat} (hr:(r,K',nxt')=nextF picks drain ts.length ((playG ts).alive a) K nxt) :
    (r = -2∧z=(a,(K:Int))∧K'=K)∨(r = -1∧K'=K+1∧K < picks.length∧RF ts picks drain a K' nxt' z)∨(∃ t:Nat,r=(t:Int)∧t < ts.length∧(playG ts).alive a t=true∧K'=K+1∧RF ts picks drain ((playG ts).pick a t ((K:Int)+1)) K' nxt' z):=by
  unfold nextF at hr
  rcases h with ⟨hn,h⟩ | ⟨hn,rfl⟩
  · rw [if_neg (by omega)] at hr
    rcases h with ⟨h1,h2,h3⟩ | ⟨h1,h2,h3,h4⟩
    · subst h2
      cases hp:picks[K]? with
      | some p =>
        rw [hp] at hr
        have hlt:=(List.getElem?_eq_some_iff.1 hp).1
        have hdrop:picks.drop K=p :: picks.drop (K+1):=by
          rw [List.drop_eq_getElem_cons hlt]
          obtain ⟨_,e⟩:=List.getElem?_eq_some_iff.1 hp
          rw [e]
        have hpk:(playG ts).picks (a,(K:Int)) (picks.drop K)=(playG ts).picks ((if (playG ts).alive a (pickIx p ts.length)=true then (playG ts).pick a (pickIx p ts.length) ((K:Int)+1) else a),((K+1:Nat):Int)) (picks.drop (K+1)):=by
          rw [hdrop]
          unfold Game.picks
          rw [List.foldl_cons]
          rfl
        rw [hpk] at h3
        dsimp only at hr
        by_cases ha:(playG ts).alive a (pickIx p ts.length)=true
        · rw [if_pos ha] at hr h3
          simp only [Prod.mk.injEq] at hr
          obtain ⟨rfl,rfl,rfl⟩:=hr
          exact .inr (.inr ⟨_,rfl,pickIx_lt p hn,ha,rfl,.inl ⟨hn,.inl ⟨by omega,rfl,h3⟩⟩⟩)
        · rw [if_neg ha] at hr h3
          simp only [Prod.mk.injEq] at hr
          obtain ⟨rfl,rfl,rfl⟩:=hr
          exact .inr (.inl ⟨rfl,rfl,hlt,.inl ⟨hn,.inl ⟨by omega,rfl,h3⟩⟩⟩)
      | none =>
        rw [hp] at hr
        have hle:=List.getElem?_eq_none_iff.1 hp
        have hdrop:picks.drop K=[]:=List.drop_eq_nil_of_le hle
        rw [hdrop] at h3
        have hz:(playG ts).picks (a,(K:Int)) []=(a,(K:Int)):=rfl
        rw [hz] at h3
        dsimp only at hr
        cases drain with
        | false =>
          simp only [Bool.false_eq_true,if_false] at hr h3
          simp only [Prod.mk.injEq] at hr
          obtain ⟨rfl,rfl,rfl⟩:=hr
          exact .inl ⟨rfl,h3,rfl⟩
        | true =>
          simp only [if_true] at hr h3
          cases h3 with
          | stop h =>
            have h':nx ((playG ts).alive a) ts.length ts.length 0=none:=h
            rw [h'] at hr
            simp only [Prod.mk.injEq] at hr
            obtain ⟨rfl,rfl,rfl⟩:=hr
            exact .inl ⟨rfl,rfl,rfl⟩
          | @go _ _ t _ h d =>
            have h':nx ((playG ts).alive a) ts.length ts.length 0=some t:=h
            obtain ⟨b1,b2⟩:=nx_some hn h'
            rw [h'] at hr
            simp only [Prod.mk.injEq] at hr
            obtain ⟨rfl,rfl,rfl⟩:=hr
            exact .inr (.inr ⟨t,rfl,b1,b2,rfl,.inl ⟨hn,.inr ⟨by omega,rfl,Nat.mod_lt _ hn,d⟩⟩⟩)
    · subst h2
      rw [List.getElem?_eq_none h1] at hr
      simp only [if_true] at hr
      cases h4 with
      | stop h =>
        have h':nx ((playG ts).alive a) ts.length ts.length nxt=none:=h
        rw [h'] at hr
        simp only [Prod.mk.injEq] at hr
        obtain ⟨rfl,rfl,rfl⟩:=hr
        exact .inl ⟨rfl,rfl,rfl⟩
      | @go _ _ t _ h d =>
        have h':nx ((playG ts).alive a) ts.length ts.length nxt=some t:=h
        obtain ⟨b1,b2⟩:=nx_some h3 h'
        rw [h'] at hr
        simp only [Prod.mk.injEq] at hr
        obtain ⟨rfl,rfl,rfl⟩:=hr
        exact .inr (.inr ⟨t,rfl,b1,b2,rfl,.inl ⟨hn,.inr ⟨by omega,rfl,Nat.mod_lt _ hn,d⟩⟩⟩)
  · rw [if_pos hn] at hr
    simp only [Prod.mk.injEq] at hr
    obtain ⟨rfl,rfl,rfl⟩:=hr
    exact .inl ⟨rfl,rfl,rfl⟩
theorem rf_nxt {ts:List (List Op3)} {picks:List Int} {drain:Bool} {a:PA} {K nxt:Nat} {z:PA × Int} (h:RF ts picks drain a K nxt z) (hn:0 < ts.length):nxt < ts.length:=by
  rcases h with ⟨_,⟨_,rfl,_⟩ | ⟨_,_,h,_⟩⟩ | ⟨h,_⟩
  · exact hn
  · exact h
  · omega
end Go.Proofs.Ytimlbbleblijnaa.Co
