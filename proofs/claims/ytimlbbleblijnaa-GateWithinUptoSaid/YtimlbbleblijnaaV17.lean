/- Lemmas for the laws of this seat, laid together of PGbv, PGbw, PGca, PGcb, PGcc, PGcd. -/
import Derived.Test.YtimlbbleblijnaaV15
import Derived.Test.YtimlbbleblijnaaV16
import Derived.Deep.AppendLies
import Derived.WalkKit
import Derived.Below
import Derived.WalkSmall
import Derived.Handy

open Go.ConcR.Gen (base_kind baseD_kind)
set_option linter.unusedVariables false
set_option linter.unusedSimpArgs false
set_option maxRecDepth 100000
set_option maxHeartbeats 4000000
namespace Go.Proofs.Ytimlbbleblijnaa.Co
open Go Go.Conc
open Go.ConcN (sumTo upd sumTo_upd upd_ne upd_same sumTo_congr le_sumTo)
noncomputable def pR3x:Code:=match pL with | .seq _ (.seq _ (.seq (.block _ (.seq _ (.seq x _))) _))=>x | _=>.skip
theorem slots14 (f:Nat→Value) {l:List Value}:∀ j,j < 14→(List.toArray (f 0 :: f 1 :: f 2 :: f 3 :: f 4 :: f 5 :: f 6 :: f 7 :: f 8 :: f 9 :: f 10 :: f 11 :: f 12 :: f 13 :: l))[j]?=some (f j)
  | 0,_ | 1,_ | 2,_ | 3,_ | 4,_ | 5,_ | 6,_ | 7,_ | 8,_ | 9,_ | 10,_ | 11,_ | 12,_ | 13,_=>rfl
  | n+14,h=>absurd h (by omega)
section
variable {h rb mb t i b:Nat} {home:Goroutine→Prop} {k n:Int} {th:Th} {F:Machine→Trace→Prop} {E:Env} {w:World} {s:PS} {K:Nat→Obj→Prop} {L:List PT} {p:PT} {Tr:Array Value}
variable {b₀:Frame} {a₀:Act} {ops₀:Array Oper} {i₀:Nat} {rest₀:List Nat} {k₀:List Item} {cl:List Frame}
theorem play_exit (hlen:p.ops.length=i) (R:RegsP Tr th.gb p mb i) (hc:HG Try.prog th.j F E (G (b₀.at (a₀.put ((ops₀[i₀]?).bind (·.dst)) (.tuple #[])) (.inRegion ops₀ rest₀ :: k₀)) cl) w) :
    HGn Try.prog th.j F E w 100 (G ((base 67).at ⟨Tr,[]⟩ hdP) (b₀.at a₀ (.inRegion ops₀ (i₀ :: rest₀) :: k₀) :: cl)):=by
  obtain ⟨f,rfl⟩:=arrf Tr R.sz
  obtain ⟨_,q0,q2,q3,q7,q8,q9⟩:=R
  have hdec:decide ((i:Int) < (p.ops.length:Int))=false:=decide_eq_false (by omega)
  have e8:f 8=.int .i64 (p.ops.length:Int):=by rw [arrf_get f (by decide)] at q8; exact Option.some.inj q8
  have e9:f 9=.int .i64 (i:Int):=by rw [arrf_get f (by decide)] at q9; exact Option.some.inj q9
  unfold hdP
  have e:([.code pL,.inLoop pL,.inBlock 0]:List Item)=[.code (.seq xR1 (.seq xIf (.seq (.block 1 (.seq pR2 (.seq pR3 pR4))) pR5))),.inLoop pL,.inBlock 0]:=congrArg (fun z=>[Item.code z,.inLoop pL,.inBlock 0]) pL_parts
  rw [e]
  clear e
  generalize hG2:pR2=L2
  generalize hG3:pR3=L3
  generalize hG4:pR4=L4
  generalize hG5:pR5=L5
  generalize hGL:pL=LL
  simp only [xR1,xIf,pR1,pIf,pL,pBody,Try.f67,Option.getD_some,List.range,List.range.loop,List.map_cons,List.map_nil,e8,e9]
  refine Idl.q (idl_hg Try.prog th.j F E w) (Idl.rg (idl_hg Try.prog th.j F E w) [0] rfl ?_)
  apply Idl.value (idl_hg Try.prog th.j F E w) rfl rfl (by first | decide | exact base_kind _ | exact baseD_kind _ | assumption)
  focus (intro w; go_simp; (try w_num); first | done | rfl)
  focus (intro w; simp [go_sem, *])
  walk_nrm
  refine Idl.re (idl_hg Try.prog th.j F E w) (Idl.q (idl_hg Try.prog th.j F E w) (Idl.cf (idl_hg Try.prog th.j F E w) rfl (Idl.exit (idl_hg Try.prog th.j F E w) rfl (Idl.en (idl_hg Try.prog th.j F E w) ?_))))
  refine Idl.leave0 (n:=1) (idl_hg Try.prog th.j F E w) rfl rfl Try.func67 rfl ?_
  exact hc
theorem play_step {Fr:Frame→Prop} (T0:Tr[0]?=some (.pointer (some ⟨th.gb,0,none⟩))) (hs:Tr.size=27)
    (hc:∀ T' ops i' rest' k',T'.size=27→(∀ j,j < 14→T'[j]?=Tr[j]?)→(ops[i']?).bind (·.dst)=some 15→k'=[.code pR4,.inBlock 1,.code pR5,.inLoop pL,.inBlock 0]→rest'=[] →
      HGn Try.prog th.j F E w 100 (entry 33 Try.f33 #[.pointer (some ⟨th.gb,0,none⟩)] ((base 67).at ⟨T',[]⟩ (.inRegion ops (i' :: rest') :: k') :: b₀.at a₀ (.inRegion ops₀ (i₀ :: rest₀) :: k₀) :: cl))) :
    HGn Try.prog th.j F E w 200 (G ((base 67).at ⟨Tr,[]⟩ hdP3) (b₀.at a₀ (.inRegion ops₀ (i₀ :: rest₀) :: k₀) :: cl)):=by
  obtain ⟨f,rfl⟩:=arrf Tr hs
  rw [arrf_get f (by decide)] at T0
  have e0:=Option.some.inj T0
  unfold hdP3
  generalize hG4:pR4=L4 at hc ⊢
  generalize hG5:pR5=L5 at hc ⊢
  rw [show pR3=pR3x from rfl]
  generalize hGL:pL=LL at hc ⊢
  simp only [pR3x,pL,pBody,Try.f67,Option.getD_some,List.range,List.range.loop,List.map_cons,List.map_nil,e0]
  refine Idl.q (idl_hg Try.prog th.j F E w) (Idl.rg (idl_hg Try.prog th.j F E w) [0,1] rfl ?_)
  apply Idl.value (idl_hg Try.prog th.j F E w) rfl rfl (by first | decide | exact base_kind _ | exact baseD_kind _ | assumption)
  focus (intro w; go_simp; (try w_num); first | done | rfl)
  focus (intro w; simp [go_sem, *])
  walk_nrm
  refine Idl.callE (fn:=Try.f33) (vs:=#[.pointer (some ⟨th.gb,0,none⟩)]) (idl_hg Try.prog th.j F E w) rfl rfl (by k_ne) rfl Try.func33 rfl rfl (by simp [Act.eval]) ?_
  refine hc _ _ _ _ _ (by simp) (fun j hj=>?_) rfl rfl rfl
  rw [arrf_get f (by omega),← e0]
  exact slots14 f j hj
theorem play_behind {T':Array Value} {ops:Array Oper} {k':List Item} {cs:List Frame} {i':Nat} {x:Value} (hd:(ops[i']?).bind (·.dst)=some 15) (hc:HG Try.prog th.j F E (G ((base 67).at ⟨T'.setIfInBounds 15 x,[]⟩ k') cs) w) :
    HGn Try.prog th.j F E w 200 (G ((base 67).at ((⟨T',[]⟩:Act).put ((ops[i']?).bind (·.dst)) x) (.inRegion ops [] :: k')) cs):=by
  rw [hd]
  refine Idl.step (idl_hg Try.prog th.j F E w) _ _ _ rfl (fun _=>stepG_region_end) ?_
  exact hc
theorem RegsP.up {T':Array Value} (R:RegsP Tr th.gb p mb i) (hs:T'.size=27) (h:∀ j,j < 14→T'[j]?=Tr[j]?):RegsP T' th.gb p mb i :=
  ⟨hs,(h 0 (by decide)).trans R.t0,(h 2 (by decide)).trans R.t2,(h 3 (by decide)).trans R.t3,R.t7.imp (fun z=>(h 7 (by decide)).trans z) id,(h 8 (by decide)).trans R.t8,(h 9 (by decide)).trans R.t9⟩
theorem play_loop (P:PTok K L t p) (hbound:sumTo L.length (opLen L)≤1000000000000) (LR:LiveRet th.gb th.box rb b₀ a₀ ops₀ i₀ rest₀ k₀ cl) :
    ∀ (m i:Nat),m+i=p.ops.length→∀ (h:Nat) (home:Goroutine→Prop) (k:Int) (F:Machine→Trace→Prop) (E:Env) (w:World) (s:PS) (Tr:Array Value),TKn h rb home k th E w→GA w rb th false false ((i:Int),0,0)→PlayM mb K L s E w→s.cnt t=i→RegsP Tr th.gb p mb i →
      (∀ s' o,adv L t i s (s',o)→Back (playD mb K L) h rb home th F E w s' o (roleOf (Srv (playD mb K L) rb th m) rb th o)) →
      HG Try.prog th.j F E (G ((base 67).at ⟨Tr,[]⟩ hdP) (b₀.at a₀ (.inRegion ops₀ (i₀ :: rest₀) :: k₀) :: cl)) w
  | 0,i,hi,h,home,k,F,E,w,s,Tr,T,g,M,hcn,R,hB=>by
    refine play_exit (by omega) R ?_
    exact body_ret (D:=playD mb K L) LR T g M (hB s none (.inr ⟨by rw [P.ln]; omega,rfl⟩))
  | m+1,i,hi,h,home,k,F,E,w,s,Tr,T,g,M,hcn,R,hB=>by
    have hlt:i < p.ops.length:=by omega
    obtain ⟨op,hop⟩:∃ op,p.ops[i]?=some op:=⟨_,List.getElem?_eq_getElem hlt⟩
    refine play_op P T g M hop R (fun E1 w1 T1 bb hk1 t1 g1 m1 R1 r5 r6=>?_)
    refine play_step (Fr:=fun _=>True) (b₀:=b₀) (a₀:=a₀) (ops₀:=ops₀) (i₀:=i₀) (rest₀:=rest₀) (k₀:=k₀) (cl:=cl) R1.t0 R1.sz (fun T2 ops i2 rest' k' hs hj hd hk' hr'=>?_)
    subst hk' hr'
    have hn:=P.n hop
    have R2:=R1.up hs hj
    refine body_step (D:=playD mb K L) (n:=m) (ℓ:=⟨t,i,bb⟩) t1 g1 m1 (OffAt.up LR.offAt Try.func67 rfl) ((hB _ (some ⟨t,i,bb⟩) (.inl ⟨bb,op.2.2,hn,rfl⟩)).kept hk1) (fun h' home' k' F' E' w' s' T' g' m' f' hB'=>?_)
    refine play_behind hd ?_
    obtain ⟨fc,n',fn,fo⟩:=f'
    dsimp only at fc fn fo
    have en:op.2.2=n':=by rw [hn] at fn; exact Option.some.inj fn
    subst en
    have R3:RegsP (T2.setIfInBounds 15 (.tuple #[])) th.gb p mb i:=R2.up (by simp [hs]) (fun j hj=>by rw [Array.getElem?_setIfInBounds_ne (by omega)])
    refine play_mark (i:=i) P.pt P.kt hbound P.len T' g' m' fc hn fo R3 (by rw [Array.getElem?_setIfInBounds_ne (by omega),hj 5 (by decide)]; exact r5) (by rw [Array.getElem?_setIfInBounds_ne (by omega),hj 6 (by decide)]; exact r6) (fun E2 w2 T3 hk2 t2 g2 m2 R4=>?_)
    refine play_loop P hbound LR m (i+1) (by omega) h' home' k' F' E2 w2 (mark s' t i k' op.2.2) T3 t2 ?_ m2 (upd_same ..) R4 (fun s'' o ha=>?_)
    · have e:IntKind.i64.wrap ((i:Int)+1)=((i+1:Nat):Int):=by
        have:=P.len
        rw [IntKind.wrap_i64]; omega
      rw [← e]
      exact g2
    · exact (hB' s'' o ⟨op.2.2,hn,ha⟩).kept hk2
end
noncomputable def pR0:Code:=match pBody with | .seq x _=>x | _=>.skip
theorem pB_parts:pBody=.seq pR0 (.block 0 (.loop pL)):=by kernel_rfl
theorem r0_wp {x:World} {gb mb lb tb n cap:Nat} {aa:Option Addr} {Q:Exit→Act→World→Prop} (h1:x.cell? ⟨lb,0,none⟩=some (.slice aa n cap))
    (hQ:∀ T',T'.size=27→T'[0]?=some (.pointer (some ⟨gb,0,none⟩))→T'[2]?=some (.pointer (some ⟨mb,0,none⟩))→T'[3]?=some (.pointer (some ⟨tb,0,none⟩))→T'[7]?=some (.slice aa n cap)→T'[8]?=some (.int .i64 (n:Int))→T'[9]?=some (.int .i64 0)→Q .normal ⟨T',[]⟩ x) :
    pR0.wp Try.prog Q ⟨#[.pointer (some ⟨gb,0,none⟩),.pointer (some ⟨lb,0,none⟩),.pointer (some ⟨mb,0,none⟩),.pointer (some ⟨tb,0,none⟩)] ++ Array.replicate 23 undef,[]⟩ x:=by
  simp only [pR0,pBody,Try.f67,Option.getD_some]
  walk_nrm
  go_wp2
  refine hQ _ (by simp) (by simp) (by simp) (by simp) (by simp) (by simp) (by simp)
section
variable {mb t:Nat} {K:Nat→Obj→Prop} {L:List PT} {p:PT}
theorem play_entry {j:Nat} {F:Machine→Trace→Prop} {E:Env} {w:World} {gb lb tb n cap:Nat} {aa:Option Addr} {c:Frame} {cl:List Frame} (hl:∀ E1 w1,AtE j E w E1 w1→w1.cell? ⟨lb,0,none⟩=some (.slice aa n cap)∧E1.H lb=none)
    (hc:∀ E1 w1 T' w',AtE j E w E1 w1→Far E1.H E1.W w1 w'→Fit E1.H E1.W w1→(vw E1.H w').heap=(vw E1.H w1).heap→T'.size=27→T'[0]?=some (.pointer (some ⟨gb,0,none⟩))→T'[2]?=some (.pointer (some ⟨mb,0,none⟩))→T'[3]?=some (.pointer (some ⟨tb,0,none⟩))→T'[7]?=some (.slice aa n cap)→T'[8]?=some (.int .i64 (n:Int))→T'[9]?=some (.int .i64 0)→HG Try.prog j F E1 (G ((base 67).at ⟨T',[]⟩ hdP) (c :: cl)) w') :
    HGn Try.prog j F E w 100 (entry 67 Try.f67 #[.pointer (some ⟨gb,0,none⟩),.pointer (some ⟨lb,0,none⟩),.pointer (some ⟨mb,0,none⟩),.pointer (some ⟨tb,0,none⟩)] (c :: cl)):=by
  unfold entry
  rw [show Try.f67.body.getD .skip=.seq pR0 (.block 0 (.loop pL)) from pB_parts]
  rw [show Try.f67.ntmps=27 from rfl]
  refine Idl.step (idl_hg Try.prog j F E w) _ _ _ rfl (fun _=>stepG_seq) ?_
  generalize hG0:pR0=L0
  refine HG.quiet (Q:=fun a' w' E1 w1=>a'.tmps.size=27∧a'.tmps[0]?=some (.pointer (some ⟨gb,0,none⟩))∧a'.tmps[2]?=some (.pointer (some ⟨mb,0,none⟩))∧a'.tmps[3]?=some (.pointer (some ⟨tb,0,none⟩))∧a'.tmps[7]?=some (.slice aa n cap)∧a'.tmps[8]?=some (.int .i64 (n:Int))∧a'.tmps[9]?=some (.int .i64 0)∧Far E1.H E1.W w1 w'∧Fit E1.H E1.W w1∧(vw E1.H w').heap=(vw E1.H w1).heap) (by rw [← hG0]; kernel_rfl) (by rfl) rfl (fun E1 w1 hA hf τ=>?_) (fun E1 w1 hA a' w' h1 h2 h3 hq=>?_)
  · obtain ⟨q1,q2⟩:=hl E1 w1 hA
    rw [← hG0]
    refine r0_wp ((vw_cellN q2).trans q1) (fun T' a0 a1 a2 a3 a4 a5 a6=>⟨rfl,rfl,fun w' τ' d he hF hf'=>⟨a0,a1,a2,a3,a4,a5,a6,hF,hf,?_⟩⟩)
    exact ((congrArg World.heap he).symm.trans rfl:(vw E1.H w').heap=(vw E1.H w1).heap)
  · obtain ⟨a0,a1,a2,a3,a4,a5,a6,hF,hf,hv⟩:=hq
    obtain ⟨Ta,df⟩:=a'
    have hd:df=[]:=h1
    subst hd
    have hcc:=hc E1 w1 Ta w' hA hF hf hv a0 a1 a2 a3 a4 a5 a6
    unfold hdP at hcc
    change HGn Try.prog j F E1 w' 100 _
    refine Idl.step (idl_hg Try.prog j F E1 w') _ _ _ rfl (fun _=>stepG_block) ?_
    refine Idl.step (idl_hg Try.prog j F E1 w') _ _ _ rfl (fun _=>stepG_loop) ?_
    exact hcc
theorem play_born (P:PTok K L t p) (hbound:sumTo L.length (opLen L)≤1000000000000):Born (playD mb K L) t p.ops.length (adv L t 0) 67 Try.f67 #[.pointer (some ⟨p.lb,0,none⟩),.pointer (some ⟨mb,0,none⟩),.pointer (some ⟨p.tb,0,none⟩)]:=by
  intro h rb home th F E w s b₀ a₀ ops₀ i₀ rest₀ k₀ cl T g M hI LR hB
  refine HG.withH fun hWH _=>?_
  obtain ⟨aa,hkl,haa⟩:=P.kl
  refine play_entry (mb:=mb) (tb:=p.tb) (lb:=p.lb) (gb:=th.gb) (n:=p.ops.length) (cap:=p.cap) (aa:=aa) (fun E1 w1 hA=>?_) (fun E1 w1 T' w' hA hF hf hv t0 t1 t2 t3 t7 t8 t9=>?_)
  · have m1:PlayM mb K L s E1 w1:=Prot.at (D:=playD mb K L) M hWH hA
    obtain ⟨k1,k2,_⟩:=m1.konst _ _ hkl
    exact ⟨k1,k2⟩
  · have m1:PlayM mb K L s E1 w1:=Prot.at (D:=playD mb K L) M hWH hA
    have T1:=T.kept (Kept.of_at hA) T.gct
    have g1:=GA.at g T.gW hA
    have hk:=fun (j:Nat) (gb:Option Nat)=>quiet_kept (j:=j) (gb:=gb) (S:=fun _=>False) hF hf (fun _ z=>z.elim) (fun c hc _=>by rw [hv])
    have hk2:=(hk th.j (some th.gb)).1
    have hWn:∀ c,E1.H c=none→E1.W c=false:=fun c hc=>by
      cases e:E1.W c with
      | false=>rfl
      | true=>have:=hf.sub c e; rw [hc] at this; cases this
    have m2:PlayM mb K L s E1 w':=(playD mb K L).closed _ _ _ _ _ m1 (fun b hb hn=>⟨hn,(hk 0 none).2 b hb id (hWn b hn)⟩)
    have g2:GA w' rb th false false (0,0,0):=by
      unfold GA at g1 ⊢
      rw [(hk 0 none).2 th.gb T1.gL id T1.gW]; exact g1
    refine play_loop P hbound LR p.ops.length 0 (by omega) h home 0 F E1 w' s T' (T1.kept hk2 T1.gct) g2 m2 (hI t (Nat.le_refl _)) ⟨t0,t1,t2,t3,?_,t8,t9⟩ (fun s' o ha=>(hB s' o ha).kept ((Kept.of_at hA).trans hk2))
    by_cases he:p.ops=[]
    · exact .inr he
    · rw [haa he] at t7
      exact .inl t7
end
end Go.Proofs.Ytimlbbleblijnaa.Co

namespace Go.Proofs.Ytimlbbleblijnaa.Co
open Go Go.Conc
def nx (alive:Nat→Bool) (n:Nat):Nat→Nat→Option Nat
  | 0,_=>none
  | m+1,x=>if alive x then some x else nx alive n m ((x+1) % n)
theorem nx_snoc (alive:Nat→Bool) (n:Nat):∀ m x,x < n→nx alive n (m+1) x=match nx alive n m x with
    | some t=>some t
    | none=>if alive ((x+m) % n) then some ((x+m) % n) else none
  | 0,x,hx=>by simp [nx,Nat.mod_eq_of_lt hx]
  | m+1,x,hx=>by
    have hn:0 < n:=by omega
    rw [nx]
    cases ha:alive x with
    | true=>simp [nx,ha]
    | false =>
      have ih:=nx_snoc alive n m ((x+1) % n) (Nat.mod_lt _ hn)
      simp only [Bool.false_eq_true,if_false]
      rw [ih]
      have e:((x+1) % n+m) % n=(x+(m+1)) % n:=by rw [Nat.mod_add_mod]; congr 1; omega
      rw [e]
      have e2:nx alive n (m+1) x=nx alive n m ((x+1) % n):=by rw [nx,ha]; simp
      rw [e2]
theorem nx_skip {alive:Nat→Bool} {n x:Nat} (hx:x < n) (ha:alive x=false):nx alive n n x=nx alive n n ((x+1) % n):=by
  obtain ⟨m,rfl⟩:∃ m,n=m+1:=⟨n - 1,by omega⟩
  rw [nx_snoc alive (m+1) m ((x+1) % (m+1)) (Nat.mod_lt _ (by omega))]
  have e:((x+1) % (m+1)+m) % (m+1)=x:=by
    rw [Nat.mod_add_mod,show x+1+m=x+(m+1) by omega,Nat.add_mod_right,Nat.mod_eq_of_lt hx]
  rw [e,ha,nx,ha]
  simp only [Bool.false_eq_true,if_false]
  cases nx alive (m+1) m ((x+1) % (m+1)) <;> rfl
theorem nx_none {alive:Nat→Bool} {n:Nat}:∀ {m x:Nat},x < n→(∀ t,t < n→alive t=false)→nx alive n m x=none
  | 0,_,_,_=>rfl
  | m+1,x,hx,h=>by
    rw [nx,h x hx]
    simp only [Bool.false_eq_true,if_false]
    exact nx_none (Nat.mod_lt _ (by omega)) h
theorem nx_some {alive:Nat→Bool} {n t:Nat}:∀ {m x:Nat},x < n→nx alive n m x=some t→t < n∧alive t=true
  | 0,_,_,h=>by cases h
  | m+1,x,hx,h=>by
    rw [nx] at h
    by_cases ha:alive x=true
    · rw [if_pos ha] at h
      cases h
      exact ⟨hx,ha⟩
    · rw [if_neg ha] at h
      exact nx_some (Nat.mod_lt _ (by omega)) h
structure Game (A:Type) where
  n:Nat
  alive:A→Nat→Bool
  pick:A→Nat→Int→A
section
variable {A:Type} (G:Game A)
def Game.pk (a:A × Int) (t:Nat):A × Int:=(if G.alive a.1 t then G.pick a.1 t (a.2+1) else a.1,a.2+1)
def Game.picks (a:A × Int) (l:List Int):A × Int:=l.foldl (fun a p=>G.pk a (pickIx p G.n)) a
inductive Game.Drn:A × Int→Nat→A × Int→Prop
  | stop {a x} (h:nx (G.alive a.1) G.n G.n x=none):Drn a x a
  | go {a x t z} (h:nx (G.alive a.1) G.n G.n x=some t) (d:Drn (G.pick a.1 t (a.2+1),a.2+1) ((t+1) % G.n) z):Drn a x z
def Game.Run (picks:List Int) (drain:Bool) (a:A) (z:A × Int):Prop :=
  if G.n=0 then z=(a,0) else if drain then G.Drn (G.picks (a,0) picks) 0 z else z=G.picks (a,0) picks
variable {G}
theorem Game.Drn.det {a z z':A × Int} {x:Nat} (h:G.Drn a x z):G.Drn a x z'→z=z':=by
  induction h with
  | stop h =>
    intro h'
    cases h' with
    | stop _=>rfl
    | go h2 _=>rw [h] at h2; cases h2
  | go h d ih =>
    intro h'
    cases h' with
    | stop h2=>rw [h] at h2; cases h2
    | go h2 d2 =>
      rw [h] at h2; cases h2
      exact ih d2
theorem Game.Run.det {picks:List Int} {drain:Bool} {a:A} {z z':A × Int} (h:G.Run picks drain a z) (h':G.Run picks drain a z'):z=z':=by
  unfold Game.Run at h h'
  by_cases hn:G.n=0
  · rw [if_pos hn] at h h'; rw [h,h']
  · rw [if_neg hn] at h h'
    cases drain with
    | true =>
      simp only [if_true] at h h'
      exact h.det h'
    | false =>
      simp only [Bool.false_eq_true,if_false] at h h'
      rw [h,h']
theorem Game.Drn.ex (wt:A→Nat) (hw:∀ a t k,t < G.n→G.alive a t=true→wt (G.pick a t k) < wt a):∀ (f:Nat) (a:A × Int) (x:Nat),x < G.n→wt a.1 < f→∃ z,G.Drn a x z
  | 0,a,x,_,h=>absurd h (by omega)
  | f+1,a,x,hx,h=>by
    cases e:nx (G.alive a.1) G.n G.n x with
    | none=>exact ⟨a,.stop e⟩
    | some t =>
      obtain ⟨h1,h2⟩:=nx_some hx e
      have h3:=hw a.1 t (a.2+1) h1 h2
      obtain ⟨z,hz⟩:=Game.Drn.ex wt hw f (G.pick a.1 t (a.2+1),a.2+1) ((t+1) % G.n) (Nat.mod_lt _ (by omega)) (by dsimp only; omega)
      exact ⟨z,.go e hz⟩
theorem Game.Run.ex (wt:A→Nat) (hw:∀ a t k,t < G.n→G.alive a t=true→wt (G.pick a t k) < wt a) (picks:List Int) (drain:Bool) (a:A):∃ z,G.Run picks drain a z:=by
  unfold Game.Run
  by_cases hn:G.n=0
  · exact ⟨_,by rw [if_pos hn]⟩
  · simp only [if_neg hn]
    cases drain with
    | true =>
      simp only [if_true]
      exact Game.Drn.ex wt hw _ _ 0 (by omega) (Nat.lt_succ_self _)
    | false=>exact ⟨G.picks (a,0) picks,by simp⟩
theorem Game.Drn.skip {a z:A × Int} {x:Nat} (hx:x < G.n) (ha:G.alive a.1 x=false) (h:G.Drn a ((x+1) % G.n) z):G.Drn a x z:=by
  have e:=nx_skip hx ha
  cases h with
  | stop h=>exact .stop (by rw [e]; exact h)
  | go h d=>exact .go (by rw [e]; exact h) d
theorem Game.Drn.take {a z:A × Int} {x:Nat} (hx:x < G.n) (ha:G.alive a.1 x=true) (h:G.Drn (G.pick a.1 x (a.2+1),a.2+1) ((x+1) % G.n) z):G.Drn a x z:=by
  refine .go ?_ h
  obtain ⟨m,e⟩:∃ m,G.n=m+1:=⟨G.n - 1,by omega⟩
  rw [e,nx,if_pos ha]
end
section
variable {σ Λ A:Type}
structure Sim (D:Prot σ Λ) (G:Game A) (R:RS σ Λ→A→Prop):Prop where
  len:∀ x a,R x a→x.1.length=G.n
  alive:∀ x a,R x a→∀ t,t < G.n→aliveB x.1[t]?=G.alive a t
  pick:∀ x a x' t,R x a→t < G.n→aliveB x.1[t]?=true→PickR D t x x'→R x' (G.pick a t (x.2.2+1))
  idle:∀ x a,R x a→R (x.1,x.2.1,x.2.2+1) a
variable {D:Prot σ Λ} {G:Game A} {R:RS σ Λ→A→Prop}
theorem pickR_dead {t:Nat} {x x':RS σ Λ} (h:PickR D t x x') (ha:aliveB x.1[t]?=false):x'=(x.1,x.2.1,x.2.2+1):=by
  unfold PickR at h
  cases e:x.1[t]? with
  | none=>simpa [e] using h
  | some o =>
    cases o with
    | none=>simpa [e] using h
    | some y=>rw [e] at ha; cases ha
theorem pickR_other {t t':Nat} {x x':RS σ Λ} (h:PickR D t x x') (hne:t≠t'):x'.1[t']?=x.1[t']?:=by
  unfold PickR at h
  split at h
  · obtain ⟨n,s',o,_,_,rfl⟩:=h
    simp [List.getElem?_set_ne hne]
  · rw [h]
theorem Sim.pk (S:Sim D G R) {x x':RS σ Λ} {a:A} {t:Nat} (hr:R x a) (ht:t < G.n) (h:PickR D t x x'):R x' (G.pk (a,x.2.2) t).1∧x'.2.2=(G.pk (a,x.2.2) t).2:=by
  refine ⟨?_,pickR_k h⟩
  unfold Game.pk
  dsimp only
  cases e:aliveB x.1[t]? with
  | true =>
    rw [if_pos (by rw [← S.alive x a hr t ht]; exact e)]
    exact S.pick x a x' t hr ht e h
  | false =>
    rw [if_neg (by rw [← S.alive x a hr t ht,e]; simp),pickR_dead h e]
    exact S.idle x a hr
theorem Sim.picks (S:Sim D G R) {n:Nat} (hn:n=G.n) (hN:0 < n) {l:List Int} {x x':RS σ Λ} (h:PicksR D n l x x'):∀ a,R x a→R x' (G.picks (a,x.2.2) l).1∧x'.2.2=(G.picks (a,x.2.2) l).2:=by
  induction h with
  | nil x=>exact fun a hr=>⟨hr,rfl⟩
  | @cons p l x x' x'' h t ih =>
    intro a hr
    obtain ⟨h1,h2⟩:=S.pk hr (by rw [← hn]; exact pickIx_lt p hN) h
    obtain ⟨h3,h4⟩:=ih _ h1
    rw [h2] at h3 h4
    have e:G.picks (a,x.2.2) (p :: l)=G.picks ((G.pk (a,x.2.2) (pickIx p n)).1,(G.pk (a,x.2.2) (pickIx p n)).2) l:=by
      unfold Game.picks
      rw [List.foldl_cons,← hn]
    rw [e]
    exact ⟨h3,h4⟩
theorem Sim.turns (S:Sim D G R) {m:Nat}:∀ {i:Nat} {y y':RS σ Λ × Bool},i+m=G.n→TurnsR D (List.range' i m) y y'→∀ a,R y.1 a→(y.2=false→∀ t,t < i→aliveB y.1.1[t]?=false) →
    ∃ a',R y'.1 a'∧(y'.2=false→∀ t,t < G.n→aliveB y'.1.1[t]?=false)∧∀ z,G.Drn (a',y'.1.2.2) 0 z→G.Drn (a,y.1.2.2) (i % G.n) z:=by
  induction m with
  | zero =>
    intro i y y' hi h a hr hd
    cases h
    refine ⟨a,hr,fun e t ht=>hd e t (by omega),fun z hz=>?_⟩
    have:i % G.n=0:=by rw [show i=G.n by omega]; exact Nat.mod_self _
    rw [this]; exact hz
  | succ m ih =>
    intro i y y' hi h a hr hd
    rw [List.range'_succ] at h
    cases h with
    | @cons _ _ _ y1 _ h t =>
      have hin:i < G.n:=by omega
      have hm:i % G.n=i:=Nat.mod_eq_of_lt hin
      rcases h with ⟨ha,hp,hb⟩ | ⟨ha,rfl⟩
      · have hr1:=S.pick _ _ _ _ hr hin ha hp
        obtain ⟨a',r1,r2,r3⟩:=ih (by omega) t _ hr1 (fun e t' ht=>by
          rw [hb,Bool.or_eq_false_iff] at e
          rcases Nat.lt_or_ge t' i with z | z
          · rw [pickR_other hp (by omega)]; exact hd e.1 t' z
          · rw [show t'=i by omega]; exact e.2)
        refine ⟨a',r1,r2,fun z hz=>?_⟩
        rw [hm]
        refine .take hin (by rw [← S.alive _ _ hr i hin]; exact ha) ?_
        have:=r3 z hz
        rw [pickR_k hp] at this
        exact this
      · obtain ⟨a',r1,r2,r3⟩:=ih (by omega) t _ hr (fun e t' ht=>by
          rcases Nat.lt_or_ge t' i with z | z
          · exact hd e t' z
          · rw [show t'=i by omega]; exact ha)
        refine ⟨a',r1,r2,fun z hz=>?_⟩
        rw [hm]
        exact .skip hin (by rw [← S.alive _ _ hr i hin]; exact ha) (r3 z hz)
theorem Sim.drain (S:Sim D G R) {n:Nat} (hn:n=G.n) (hN:0 < n) {x x':RS σ Λ} (h:DrainR D n x x'):∀ a,R x a→∃ a',R x' a'∧G.Drn (a,x.2.2) 0 (a',x'.2.2):=by
  subst hn
  have e0:List.range G.n=List.range' 0 G.n:=List.range_eq_range'
  induction h with
  | @last x y h e =>
    intro a hr
    unfold RoundR at h
    rw [e0] at h
    obtain ⟨a',r1,r2,r3⟩:=S.turns (by omega) h a hr (fun _ t ht=>absurd ht (by omega))
    refine ⟨a',r1,?_⟩
    have:=r3 (a',y.1.2.2) (.stop (nx_none hN fun t ht=>by rw [← S.alive _ _ r1 t ht]; exact r2 e t ht))
    rw [Nat.zero_mod] at this
    exact this
  | @more x y z h e t ih =>
    intro a hr
    unfold RoundR at h
    rw [e0] at h
    obtain ⟨a',r1,r2,r3⟩:=S.turns (by omega) h a hr (fun _ t ht=>absurd ht (by omega))
    obtain ⟨a2,q1,q2⟩:=ih a' r1
    refine ⟨a2,q1,?_⟩
    have:=r3 _ q2
    rw [Nat.zero_mod] at this
    exact this
theorem Sim.run (S:Sim D G R) {bs:List (Body σ Λ)} {picks:List Int} {drain:Bool} {s:σ} {z:σ × Int} (hz:RunR D bs picks drain s z) (hn:bs.length=G.n) (a:A) (hst:∀ x0,StartR bs ([],s) x0→R (x0.1,x0.2,0) a) (h0:bs.length=0→R ([],s,0) a) :
    ∃ a' st,R (st,z.1,z.2) a'∧G.Run picks drain a (a',z.2):=by
  unfold RunR at hz
  by_cases hb:bs.length=0
  · rw [if_pos hb] at hz
    subst hz
    refine ⟨a,[],h0 hb,?_⟩
    unfold Game.Run
    rw [if_pos (by omega)]
  · rw [if_neg hb] at hz
    obtain ⟨x0,x1,x2,z0,z1,z2,rfl⟩:=hz
    obtain ⟨p1,p2⟩:=S.picks hn (by omega) z1 a (hst x0 z0)
    have hn0:¬ G.n=0:=by omega
    unfold Game.Run
    simp only [if_neg hn0]
    unfold DrainB at z2
    cases drain with
    | true =>
      simp only [if_true] at z2 ⊢
      obtain ⟨a',q1,q2⟩:=S.drain hn (by omega) z2 _ p1
      refine ⟨a',x2.1,q1,?_⟩
      rw [p2] at q2
      exact q2
    | false =>
      simp only [Bool.false_eq_true,if_false] at z2 ⊢
      subst z2
      exact ⟨(G.picks (a,0) picks).1,x2.1,p1,by rw [p2]⟩
end
end Go.Proofs.Ytimlbbleblijnaa.Co

namespace Go.Proofs.Ytimlbbleblijnaa.Co
open Go Go.Conc Go.RowKit
noncomputable def qBody:Code:=Try.f21.body.getD .skip
noncomputable def q0:Code:=match qBody with | .seq x _=>x | _=>.skip
noncomputable def q1:Code:=match qBody with | .seq _ (.seq x _)=>x | _=>.skip
noncomputable def q2:Code:=match qBody with | .seq _ (.seq _ (.seq x _))=>x | _=>.skip
noncomputable def q3:Code:=match qBody with | .seq _ (.seq _ (.seq _ (.seq x _)))=>x | _=>.skip
noncomputable def q4:Code:=match qBody with | .seq _ (.seq _ (.seq _ (.seq _ x)))=>x | _=>.skip
theorem q_parts:qBody=.seq q0 (.seq q1 (.seq q2 (.seq q3 q4))):=by kernel_rfl
theorem info52:∃ i:TypeInfo,Try.prog.info? 52=some i∧i.zero=some (.nilFunc)∧i.size=1∧i.bytes=8:=by
  have h:(Try.prog.info? 52).isSome=true:=by kernel_rfl
  obtain ⟨i,hi⟩:=Option.isSome_iff_exists.1 h
  have h2:(Try.prog.info? 52).map (fun i=>(i.zero,i.size,i.bytes))=some (some (.nilFunc),1,8):=by kernel_rfl
  rw [hi] at h2
  simp only [Option.map_some,Option.some.injEq,Prod.mk.injEq] at h2
  exact ⟨i,hi,h2.1,h2.2.1,h2.2.2⟩
def clo (LB TB:Nat→Nat) (mb i:Nat):Value:=.func (.func 67) #[] #[.pointer (some ⟨LB i,0,none⟩),.pointer (some ⟨mb,0,none⟩),.pointer (some ⟨TB i,0,none⟩)]
structure Bx (B mb:Nat) (LA:Nat→Option Addr) (LN LC:Nat→Nat) (LB TB:Nat→Nat) (v:Value) (n:Nat) (x:World):Prop where
  row:x.ownsRow B 52 1 v n ((List.range n).map (clo LB TB mb))
  box:∀ i,i < n→x.cell? ⟨LB i,0,none⟩=some (.slice (LA i) (LN i) (LC i))∧x.cell? ⟨TB i,0,none⟩=some (.int .i64 (i:Int))∧B≤LB i∧B≤TB i∧v.ownBlock≠some (LB i)∧v.ownBlock≠some (TB i)
theorem clo_succ (LB TB:Nat→Nat) (mb i a b:Nat):(List.range (i+1)).map (clo (fun j=>if j=i then a else LB j) (fun j=>if j=i then b else TB j) mb)=(List.range i).map (clo LB TB mb) ++ [.func (.func 67) #[] #[.pointer (some ⟨a,0,none⟩),.pointer (some ⟨mb,0,none⟩),.pointer (some ⟨b,0,none⟩)]]:=by
  rw [List.range_succ,List.map_append]
  congr 1
  · refine List.map_congr_left fun j hj=>?_
    have:=List.mem_range.1 hj
    have hne:j≠i:=by omega
    simp [clo,hne]
  · simp [clo]
def natOfV:Value→Nat
  | .int _ i=>i.toNat
  | _=>0
theorem playpre_wp {f:Nat→Value} {x:World} {ba bo n cap mb:Nat} {ta:Option Addr} {LA:Nat→Option Addr} {LN LC:Nat→Nat} {Q:Exit→Act→World→Prop}
    (h0:f 0=.slice ta n cap) (h7:f 7=.pointer (some ⟨mb,0,none⟩)) (h8:f 8=.slice none 0 0) (hta:0 < n→ta=some ⟨ba,bo,none⟩) (hc:∀ i,i < n→x.cell? ⟨ba,bo+i,none⟩=some (.slice (LA i) (LN i) (LC i))) (hn:n≤1000000000000)
    (hQ:∀ T' x' v LB TB,T'.size=28→(∀ j,j=0∨j=1∨j=2∨j=6∨j=7→T'[j]?=some (f j))→T'[8]?=some v→Bx x.heap.size mb LA LN LC LB TB v n x'→Below x.heap.size x x'→Q .normal ⟨T',[]⟩ x') :
    q3.wp Try.prog Q ⟨(List.map f (List.range 28)).toArray,[]⟩ x:=by
  obtain ⟨i0,hinf,hz0,hz1,hz2⟩:=info52
  obtain ⟨B,hB⟩:∃ B,B=x.heap.size:=⟨_,rfl⟩
  rw [← hB] at hQ
  simp only [List.range,List.range.loop,List.map_cons,List.map_nil,h0,h7,h8]
  simp only [q3,qBody,Try.f21,Option.getD_some]
  go_wp2
  go_loopw [8,13] (fun b v wr=>∃ (i:Nat) (LB TB:Nat→Nat),v=.int .i64 (i:Int)∧i≤n∧Bx B mb LA LN LC LB TB b i wr∧Below B x wr) (fun _ v _=>n+1 - natOfV v)
  case atStart=>exact ⟨0,fun _=>0,fun _=>0,rfl,by omega,⟨⟨by simp,.inl ⟨rfl,rfl⟩⟩,fun i hi=>absurd hi (by omega)⟩,.refl _ _⟩
  case round =>
    obtain ⟨i,LB,TB,rfl,hi,hbx,hb⟩:=hrel
    have hbs:=hb.size
    by_cases hlt:i < n
    · obtain rfl:=hta (by omega)
      have g1:(i:Int) < (n:Int):=by omega
      have g0:(0:Int)≤(i:Int):=by omega
      have hcell:wr.cell? ⟨ba,bo+i,none⟩=some (.slice (LA i) (LN i) (LC i)):=(hb.cell (by rw [hB]; exact World.block_lt_of_cell? x _ (hc i hlt))).trans (hc i hlt)
      have wn:=World.new_ne wr _ hcell
      have hbl:=World.block_lt_of_cell? wr _ hcell
      have row:=hbx.row
      have box:=hbx.box
      clear hbx
      obtain ⟨S,hS⟩:∃ S,S=wr.heap.size:=⟨_,rfl⟩
      replace hS:=Lib.hid hS
      obtain ⟨w3,hw3⟩:∃ w3,w3=((wr.alloc (Obj.cells #[Value.int IntKind.i64 ↑i] 3)).alloc (Obj.cells #[Value.slice (LA i) (LN i) (LC i)] 32)).alloc (Obj.cells #[Value.func (Fn.func 67) #[] #[.pointer (some ⟨wr.heap.size+1,0,none⟩),.pointer (some ⟨mb,0,none⟩),.pointer (some ⟨wr.heap.size,0,none⟩)]] 52):=⟨_,rfl⟩
      have row3:w3.ownsRow B 52 1 u8 i ((List.range i).map (clo LB TB mb)):=by rw [hw3]; exact ((row.alloc _).alloc _).alloc _
      have s3:w3.heap.size=wr.heap.size+3:=by rw [hw3]; simp
      have hnews:∀ j u,[Value.func (Fn.func 67) #[] #[.pointer (some ⟨wr.heap.size+1,0,none⟩),.pointer (some ⟨mb,0,none⟩),.pointer (some ⟨wr.heap.size,0,none⟩)]][j]?=some u→w3.cell? ((⟨wr.heap.size+1+1,0,none⟩:Addr).add j)=some u:=by
        rw [hw3]
        exact World.news_of_block (cs:=#[Value.func (Fn.func 67) #[] #[.pointer (some ⟨wr.heap.size+1,0,none⟩),.pointer (some ⟨mb,0,none⟩),.pointer (some ⟨wr.heap.size,0,none⟩)]]) (by
          have e:((wr.alloc (Obj.cells #[Value.int IntKind.i64 ↑i] 3)).alloc (Obj.cells #[Value.slice (LA i) (LN i) (LC i)] 32)).heap.size=wr.heap.size+1+1:=by simp
          rw [← e]
          exact heap_alloc_new _ _)
      have b3:Below wr.heap.size wr w3:=by
        rw [hw3]
        exact (((Below.refl _ _).alloc (Nat.le_refl _) _).alloc (by simp) _).alloc (by simp; omega) _
      replace hw3:=Lib.hid hw3
      replace row:=Lib.hid row
      replace box:=Lib.hid box
      go_wp2_with (at_builtin; rw [← hw3.out]; refine wpList_append_lies _ rfl _ _ _ rfl B 52 i0 _ 1 8 Try.underlying53 hinf hz0 hz1 hz2 rfl (by decide) u8 i _ (by rfl) row3 ⟨wr.heap.size+1+1,0,none⟩ 1 1 [_] (by rfl) (by rfl) hnews (by intro u hu; simp at hu; subst hu; rfl) (by omega) (by unfold maxLen; omega) (by omega) (by omega) _ rfl ?_; intro gg cp w4 ho4 hgrow hat hlt4)
      have ho4':w4.ownsRow B 52 1 (.slice (some ⟨gg,0,none⟩) (i+1) cp) (i+1) ((List.range (i+1)).map (clo (fun j=>if j=i then S+1 else LB j) (fun j=>if j=i then S else TB j) mb)):=by
        rw [clo_succ,hS.out]
        exact ho4
      have hbox:∀ j,j < i+1→w4.cell? ⟨if j=i then S+1 else LB j,0,none⟩=some (.slice (LA j) (LN j) (LC j))∧w4.cell? ⟨if j=i then S else TB j,0,none⟩=some (.int .i64 (j:Int))∧B≤(if j=i then S+1 else LB j)∧B≤(if j=i then S else TB j)∧(Value.slice (some ⟨gg,0,none⟩) (i+1) cp).ownBlock≠some (if j=i then S+1 else LB j)∧(Value.slice (some ⟨gg,0,none⟩) (i+1) cp).ownBlock≠some (if j=i then S else TB j):=by
        have e0:=hS.out
        have e3:=hw3.out
        have kc:∀ (a:Addr) v,w3.cell? a=some v→u8.ownBlock≠some a.block→w4.cell? a=some v:=fun a v h1 h2=>by
          have hl:=World.block_lt_of_cell? w3 _ h1
          rw [← h1]
          exact World.cell?_of_block (hgrow.block a.block hl (fun e=>h2 e.symm))
        have hg:∀ c,u8.ownBlock≠some c→c < wr.heap.size+3→gg≠c:=fun c h1 h2 e=>by
          subst e
          rcases hat with z | z
          · exact h1 z
          · omega
        have hrl:∀ c,u8.ownBlock=some c→c < wr.heap.size:=fun c hc=>(row.out.lt c hc).2
        intro j hj
        by_cases hji:j=i
        · subst hji
          simp only [if_true]
          have n1:u8.ownBlock≠some S:=fun e=>by have:=hrl _ e; omega
          have n2:u8.ownBlock≠some (S+1):=fun e=>by have:=hrl _ e; omega
          refine ⟨kc _ _ ?_ n2,kc _ _ ?_ n1,by omega,by omega,fun e=>?_,fun e=>?_⟩
          · rw [e3,e0]
            refine obj_cell (c:=#[Value.slice (LA j) (LN j) (LC j)]) (e:=32) (f:=(0,0)) ((alloc_old (by rw [alloc_size,alloc_size]; omega)).trans ?_) rfl
            have e5:=@alloc_new (wr.alloc (Obj.cells #[Value.int IntKind.i64 ↑j] 3)) (Obj.cells #[Value.slice (LA j) (LN j) (LC j)] 32)
            rw [alloc_size] at e5
            exact e5
          · rw [e3,e0]
            exact obj_cell ((alloc_old (by rw [alloc_size,alloc_size]; omega)).trans ((alloc_old (by rw [alloc_size]; omega)).trans alloc_new)) rfl
          · exact hg (S+1) n2 (by omega) (by simpa [Value.ownBlock] using e)
          · exact hg S n1 (by omega) (by simpa [Value.ownBlock] using e)
        · simp only [if_neg hji]
          obtain ⟨q1,q2,q3,q4,q5,q6⟩:=box.out j (by omega)
          have l1:=World.block_lt_of_cell? wr _ q1
          have l2:=World.block_lt_of_cell? wr _ q2
          dsimp only at l1 l2
          refine ⟨kc _ _ ((b3.cell l1).trans q1) q5,kc _ _ ((b3.cell l2).trans q2) q6,q3,q4,fun e=>?_,fun e=>?_⟩
          · exact hg _ q5 (by omega) (by simpa [Value.ownBlock] using e)
          · exact hg _ q6 (by omega) (by simpa [Value.ownBlock] using e)
      have hb4:Below B x w4:=(hb.trans (b3.mono (by omega))).grown hgrow (by omega) (fun k hk=>(row3.lt k hk).1)
      replace ho4':=Lib.hid ho4'
      replace hbox:=Lib.hid hbox
      clear ho4 hgrow hnews row3
      go_wp2
      exact ⟨⟨i+1,_,_,rfl,by omega,⟨ho4'.out,hbox.out⟩,hb4⟩,by simp [natOfV]; omega⟩
    · obtain rfl:i=n:=by omega
      have g1:¬ (i:Int) < (i:Int):=by omega
      replace hbx:=Lib.hid hbx
      go_wp2
      exact hQ _ _ _ LB TB (by simp) (fun j hj=>by rcases hj with rfl | rfl | rfl | rfl | rfl <;> simp [h0,h7]) (by simp) hbx.out hb
end Go.Proofs.Ytimlbbleblijnaa.Co

namespace Go.Proofs.Ytimlbbleblijnaa.Co
open Go Go.Conc
theorem arrfv {n:Nat} (T:Array Value) (h:T.size=n):∃ f:Nat→Value,T=(List.map f (List.range n)).toArray∧∀ j v,T[j]?=some v→f j=v:=by
  obtain ⟨f,hf⟩:=arrf T h
  refine ⟨f,hf,fun j v e=>?_⟩
  have hj:j < n:=by rw [← h]; exact (Array.getElem?_eq_some_iff.1 e).1
  rw [hf,arrf_get f hj] at e
  exact Option.some.inj e
section
variable {P:Program} {h:Nat} {F:Machine→Trace→Prop} {E:Env} {w:World} {Fs:FuncId→Bool}
theorem HG.quietS (S:Nat→Prop) (hS:∀ b,S b→E.H b=none) (hC:Closed P Fs) {fr:Frame} {a:Act} {k:List Item} {cs:List Frame} {c:Code} {Q:Act→World→World→Prop} (hq:quietCode P Fs c=true) (hk:fr.kind=.normal) (ha:a.defers=[])
    (hwp:∀ x:World,x.heap.size=w.heap.size→(∀ b,E.H b=none→x.heap[b]?=w.heap[b]?)→c.wp P (fun e a' x'=>e=.normal∧a'.defers=[]∧(∀ b,b < x.heap.size→¬ S b→x'.heap[b]?=x.heap[b]?)∧Q a' x x') a x)
    (hg:∀ (E1:Env) (w':World) (a':Act) (x x':World),E.Eq h E1→a'.defers=[]→x.heap.size=w.heap.size→(∀ b,E.H b=none→x.heap[b]?=w.heap[b]?)→x'.heap.size=w'.heap.size→(∀ b,E.H b=none→w'.heap[b]?=x'.heap[b]?)→Kept h none E w E1 w'→(∀ b,w.heap.size≤b→E.H b=none)→(∀ b,b < x.heap.size→¬ S b→x'.heap[b]?=x.heap[b]?)→Q a' x x'→HG P h F E1 (G (fr.at a' k) cs) w'):HG P h F E (G (fr.at a (.code c :: k)) cs) w:=by
  refine HG.withH fun hWH _=>?_
  have hWn:∀ b,E.H b=none→E.W b=false:=fun b hb=>by
    cases e:E.W b with
    | false=>rfl
    | true=>have:=hWH b e; rw [hb] at this; cases this
  have pre:∀ E1 w1,AtE h E w E1 w1→∀ τ,(rt (vw E1.H w1) τ 0).heap.size=w.heap.size∧∀ b,E.H b=none→(rt (vw E1.H w1) τ 0).heap[b]?=w.heap[b]?:=fun E1 w1 hA τ=>by
    refine ⟨by show (vw E1.H w1).heap.size=_; simp [hA.2.size],fun b hb=>?_⟩
    show (vw E1.H w1).heap[b]?=_
    rw [vw_get_none (by rw [hA.1.H']; exact hb),hA.2.heap b (hWn b hb)]
  refine HG.quietF hC (Q:=fun a' w' E1 w1=>∃ x x':World,(x.heap.size=w.heap.size∧∀ b,E.H b=none→x.heap[b]?=w.heap[b]?)∧x.heap=(vw E1.H w1).heap∧x'.heap=(vw E1.H w').heap∧Far E1.H E1.W w1 w'∧Fit E1.H E1.W w1∧(∀ b,b < x.heap.size→¬ S b→x'.heap[b]?=x.heap[b]?)∧Q a' x x') hq hk ha (fun E1 w1 hA hf τ=>?_) (fun E1 w1 hA a' w' h1 h2 h3 hqq=>?_)
  · obtain ⟨p1,p2⟩:=pre E1 w1 hA τ
    refine Code.wp_mono (fun e a' x' ⟨q1,q2,q3,q4⟩=>⟨q1,q2,fun w' τ' d he hF hf'=>⟨_,x',⟨p1,p2⟩,rfl,by rw [he]; rfl,hF,hf,q3,q4⟩⟩) (hwp _ p1 p2)
  · obtain ⟨x,x',⟨p1,p2⟩,e1,e2,hF,hf,q3,q4⟩:=hqq
    have hH:E1.H=E.H:=hA.1.H'
    have hold:∀ c,c < w1.heap.size→¬ S c→(vw E1.H w').heap[c]?=(vw E1.H w1).heap[c]?:=fun c hc hn=>by
      rw [← e2,← e1]
      exact q3 c (by rw [e1]; simpa using hc) hn
    have hk2:=quiet_kept (j:=h) (gb:=none) hF hf (S:=S) (fun c hc=>by rw [hH]; exact hS c hc) hold
    refine hg E1 w' a' x x' hA.1 h1 p1 p2 (by rw [e2]; simp) (fun b hb=>by rw [e2,vw_get_none (by rw [hH]; exact hb)]) ((Kept.of_at hA).trans hk2.1) (fun b hb=>?_) q3 q4
    rw [← hH]
    exact hf.bound b (by rw [hA.2.size]; exact hb)
end
end Go.Proofs.Ytimlbbleblijnaa.Co

namespace Go.Proofs.Ytimlbbleblijnaa.Co
open Go Go.Conc Go.RowKit
noncomputable def x0q:Code:=q0
noncomputable def x2q:Code:=q2
theorem slots7 (f:Nat→Value) {x:Value} {l:List Value}:∀ j,j < 9→j≠7→(List.toArray (f 0 :: f 1 :: f 2 :: f 3 :: f 4 :: f 5 :: f 6 :: x :: f 8 :: l))[j]?=some (f j)
  | 0,_,_ | 1,_,_ | 2,_,_ | 3,_,_ | 4,_,_ | 5,_,_ | 6,_,_ | 8,_,_=>rfl
  | 7,_,h=>absurd rfl h
  | n+9,h,_=>absurd h (by omega)
theorem q1_wp {f:Nat→Value} {x:World} {Q:Exit→Act→World→Prop}
    (hQ:∀ T' x',T'.size=28→(∀ j,j < 9→j≠7→T'[j]?=some (f j))→T'[7]?=some (.pointer (some ⟨x.heap.size,0,none⟩))→x'.heap=x.heap.push (.cells #[.slice none 0 0] 27)→Q .normal ⟨T',[]⟩ x') :
    q1.wp Try.prog Q ⟨(List.map f (List.range 28)).toArray,[]⟩ x:=by
  simp only [List.range,List.range.loop,List.map_cons,List.map_nil]
  simp only [q1,qBody,Try.f21,Option.getD_some]
  go_wp2
  refine hQ _ _ (by simp) (fun j hj h7=>?_) (by simp) rfl
  exact slots7 f j hj h7
section
variable {h:Nat} {F:Machine→Trace→Prop} {E:Env} {w:World} {c:Frame} {cl:List Frame}
theorem play_in {tv pv:Value} {drain:Bool} {ta:Option Addr} {ba bo n cap:Nat} {LA:Nat→Option Addr} {LN LC:Nat→Nat} (h0:tv=.slice ta n cap) (hta:0 < n→ta=some ⟨ba,bo,none⟩) (hn:n≤1000000000000)
    (hcell:∀ i,i < n→w.cell? ⟨ba,bo+i,none⟩=some (.slice (LA i) (LN i) (LC i))∧E.H ba=none)
    (hc:∀ (E2:Env) (w2:World) (T':Array Value) (v:Value) (LB TB:Nat→Nat),E.Eq h E2→Kept h none E w E2 w2→(∀ b,E.H b=none→b < w.heap.size→w2.heap[b]?=w.heap[b]?)→(∀ b,w.heap.size≤b→E.H b=none) →
      w2.heap[w.heap.size]?=some (.cells #[.slice none 0 0] 27)→Bx (w.heap.size+1) w.heap.size LA LN LC LB TB v n w2→T'.size=28→T'[1]?=some pv→T'[2]?=some (.bool drain)→T'[6]?=some (.slice none 0 0)→T'[7]?=some (.pointer (some ⟨w.heap.size,0,none⟩))→T'[8]?=some v→HG Try.prog h F E2 (G ((base 21).at ⟨T',[]⟩ [.code q4]) (c :: cl)) w2) :
    HGn Try.prog h F E w 100 (entry 21 Try.f21 #[tv,pv,.bool drain] (c :: cl)):=by
  unfold entry
  rw [show Try.f21.body.getD .skip=.seq x0q (.seq q1 (.seq x2q (.seq q3 q4))) from q_parts,show Try.f21.ntmps=28 from rfl]
  generalize hG1:q1=L1
  generalize hG2:x2q=L2
  generalize hG3:q3=L3
  generalize hG4:q4=L4 at hc
  simp only [x0q,q0,qBody,Try.f21,Option.getD_some]
  walk_nrm
  refine Idl.q (idl_hg Try.prog h F E w) (Idl.rg (idl_hg Try.prog h F E w) [0] rfl ?_)
  apply Idl.value (idl_hg Try.prog h F E w) rfl rfl (by first | decide | exact base_kind _ | exact baseD_kind _ | assumption)
  focus (intro w; go_simp; (try w_num); first | done | rfl)
  focus (intro w; simp [go_sem, *])
  walk_nrm
  refine Idl.re (idl_hg Try.prog h F E w) (Idl.q (idl_hg Try.prog h F E w) ?_)
  obtain ⟨f,hf,fz⟩:=arrfv (n:=28) #[tv,pv,Value.bool drain,undef,undef,undef,Value.slice none 0 0,undef,undef,undef,undef,undef,undef,undef,undef,undef,undef,undef,undef,undef,undef,undef,undef,undef,undef,undef,undef,undef] rfl
  have f0:=fz 0 _ rfl
  have f1:=fz 1 _ rfl
  have f2:=fz 2 _ rfl
  have f6:=fz 6 _ rfl
  rw [hf]
  clear fz hf
  refine HG.quietS (fun _=>False) (fun _ z=>z.elim) (closed_none _) (Q:=fun a' x x'=>a'.tmps.size=28∧(∀ j,j < 9→j≠7→a'.tmps[j]?=some (f j))∧a'.tmps[7]?=some (.pointer (some ⟨x.heap.size,0,none⟩))∧x'.heap=x.heap.push (.cells #[.slice none 0 0] 27)) (by rw [← hG1]; kernel_rfl) (by rfl) rfl (fun x hxs hx=>?_) (fun E1 w1 a' x x' hE hd hxs hx hxs' hx' hK hB hS hq=>?_)
  · rw [← hG1]
    refine q1_wp (fun T' x' a1 a2 a3 a4=>⟨rfl,rfl,fun b hb _=>?_,a1,a2,a3,a4⟩)
    rw [a4,Array.getElem?_push,if_neg (by omega)]
  · obtain ⟨Ta,df⟩:=a'
    have hd':df=[]:=hd
    subst hd'
    obtain ⟨a1,a2,a3,a4⟩:=hq
    dsimp only at a1 a2 a3
    rw [hxs] at a3
    have b0:=a2 0 (by decide) (by decide)
    have b1:=a2 1 (by decide) (by decide)
    have b2:=a2 2 (by decide) (by decide)
    have b6:=a2 6 (by decide) (by decide)
    rw [f0] at b0
    rw [f1] at b1
    rw [f2] at b2
    rw [f6] at b6
    clear a2 f0 f1 f2 f6 f
    have hsz1:w1.heap.size=w.heap.size+1:=by rw [← hxs',a4,Array.size_push,hxs]
    have hold1:∀ b,E.H b=none→b < w.heap.size→w1.heap[b]?=w.heap[b]?:=fun b hb hl=>by
      rw [hx' b hb,hS b (by omega) id,hx b hb]
    have hmb:w1.heap[w.heap.size]?=some (.cells #[.slice none 0 0] 27):=by
      rw [hx' _ (hB _ (Nat.le_refl _)),a4,Array.getElem?_push,if_pos hxs.symm]
    obtain ⟨f,rfl⟩:=arrf Ta a1
    rw [arrf_get f (by decide),Option.some.injEq] at b0 b1 b2 b6 a3
    rw [← hG2]
    change HGn Try.prog h F E1 w1 100 _
    simp only [x2q,q2,qBody,Try.f21,Option.getD_some,List.range,List.range.loop,List.map_cons,List.map_nil]
    refine Idl.q (idl_hg Try.prog h F E1 w1) (Idl.rg (idl_hg Try.prog h F E1 w1) [0] rfl ?_)
    apply Idl.value (idl_hg Try.prog h F E1 w1) rfl rfl (by first | decide | exact base_kind _ | exact baseD_kind _ | assumption)
    focus (intro w; go_simp; (try w_num); first | done | rfl)
    focus (intro w; simp [go_sem, *])
    walk_nrm
    refine Idl.re (idl_hg Try.prog h F E1 w1) (Idl.q (idl_hg Try.prog h F E1 w1) ?_)
    obtain ⟨f',hf',fz⟩:=arrfv (n:=28) #[f 0,f 1,f 2,f 3,f 4,f 5,f 6,f 7,Value.slice none 0 0,f 9,f 10,f 11,f 12,f 13,f 14,f 15,f 16,f 17,f 18,f 19,f 20,f 21,f 22,f 23,f 24,f 25,f 26,f 27] rfl
    have e0:=(fz 0 _ rfl).trans b0
    have e1:=(fz 1 _ rfl).trans b1
    have e2:=(fz 2 _ rfl).trans b2
    have e6:=(fz 6 _ rfl).trans b6
    have e7:=(fz 7 _ rfl).trans a3
    have e8:=fz 8 _ rfl
    rw [hf']
    clear fz hf'
    have hHE:E1.H=E.H:=hE.H'
    refine HG.quietS (fun _=>False) (fun _ z=>z.elim) (closed_none _) (Q:=fun a' x x'=>∃ v LB TB,a'.tmps.size=28∧(∀ j,j=0∨j=1∨j=2∨j=6∨j=7→a'.tmps[j]?=some (f' j))∧a'.tmps[8]?=some v∧Bx x.heap.size w.heap.size LA LN LC LB TB v n x'∧Below x.heap.size x x') (by rw [← hG3]; kernel_rfl) (by rfl) rfl (fun y hys hy=>?_) (fun E2 w2 a' y y' hE2 hd2 hys hy hys' hy' hK2 hB2 hS2 hq2=>?_)
    · rw [← hG3]
      refine playpre_wp (ba:=ba) (bo:=bo) (cap:=cap) (mb:=w.heap.size) (n:=n) (ta:=ta) (LA:=LA) (LN:=LN) (LC:=LC) (e0.trans h0) e7 e8 hta (fun i hi=>?_) hn (fun T' x' v LB TB q1 q2 q3 q4 q5=>⟨rfl,rfl,fun b hb _=>q5.block b hb,v,LB,TB,q1,q2,q3,q4,q5⟩)
      obtain ⟨k1,k2⟩:=hcell i hi
      have hl:=World.block_lt_of_cell? w _ k1
      rw [← k1]
      refine World.cell?_of_block ?_
      dsimp only at hl ⊢
      rw [hy ba (by rw [hHE]; exact k2),hold1 ba k2 hl]
    · obtain ⟨v,LB,TB,q1,q2,q3,q4,q5⟩:=hq2
      obtain ⟨Tb,df⟩:=a'
      have hd':df=[]:=hd2
      subst hd'
      dsimp only at q1 q2 q3
      have hys1:y.heap.size=w.heap.size+1:=by omega
      rw [hys1] at q4
      have hvis:∀ b,E.H b=none→w2.heap[b]?=y'.heap[b]?:=fun b hb=>hy' b (by rw [hHE]; exact hb)
      have hv2:∀ b,w.heap.size≤b→w2.heap[b]?=y'.heap[b]?:=fun b hb=>hvis b (hB b hb)
      refine hc E2 w2 Tb v LB TB (hE.trans hE2) (hK.trans hK2) (fun b hb hl=>?_) hB ?_ ?_ q1 ((q2 1 (by simp)).trans (congrArg some e1)) ((q2 2 (by simp)).trans (congrArg some e2)) ((q2 6 (by simp)).trans (congrArg some e6)) ((q2 7 (by simp)).trans (congrArg some e7)) q3
      · rw [hvis b hb,hS2 b (by omega) id,hy b (by rw [hHE]; exact hb),hold1 b hb hl]
      · rw [hv2 _ (Nat.le_refl _),hS2 _ (by omega) id,hy _ (by rw [hHE]; exact hB _ (Nat.le_refl _)),hmb]
      · refine ⟨ownsRow_same q4.row (fun g hg=>hv2 g (by have:=(q4.row.lt g hg).1; omega)),fun i hi=>?_⟩
        obtain ⟨p1,p2,p3,p4,p5,p6⟩:=q4.box i hi
        exact ⟨(World.cell?_of_block (hv2 _ (by dsimp only; omega))).trans p1,(World.cell?_of_block (hv2 _ (by dsimp only; omega))).trans p2,p3,p4,p5,p6⟩
end
end Go.Proofs.Ytimlbbleblijnaa.Co
