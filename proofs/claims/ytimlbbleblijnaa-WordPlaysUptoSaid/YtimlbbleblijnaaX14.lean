/- Lemmas for the laws of this seat, laid together of PGbf, PGbg, PGbh, PGbi, PGbj, PGbk. -/
import Derived.Test.YtimlbbleblijnaaX13

set_option linter.unusedVariables false
set_option linter.unusedSimpArgs false
set_option maxRecDepth 100000
set_option maxHeartbeats 4000000
namespace Go.Proofs.Ytimlbbleblijnaa.Co
open Go Go.Conc
noncomputable def xA10:Code:=rA10
section
variable {h rb:Nat} {E:Env} {w w0:World} {F:Machine→Trace→Prop} {T:Array Value}
theorem HG.hire_wait {kc id d1 x b':Nat} {b:Frame} {a:Act} {k:List Item} {cs:List Frame} {ops:Array Oper} {i:Nat} {o mv cw:Oper} {d:Deferred} {f:Fn} {cc0:Array Value} {ats:Array TypeId} {gb cc:Nat} {S:Addr→Option Value}
  (ho:ops[i]?=some o) (hw:Region.wanted o (yielded ops a.tmps)=true) (hk:b.kind≠.early) (hr:∀ w,(execOp a.eval o).run Try.prog w=.ok (.spawn d) w) (he:∀ w,(execOp a.eval o).events Try.prog w #[]=#[]) (hd0:d.target=.fn f cc0) (hd:o.dst=none)
  (m1:mv.op=.move (.tmp x)) (m2:mv.dst=some d1) (m3:mv.guard=none) (c1:cw.op=.call { callee:=.value (.func 74),args:=#[.tmp d1],argTypes:=ats }) (c3:cw.guard=none) (hxv:a.eval (.tmp x)=.pointer (some ⟨gb,0,none⟩)) (hd1:(a.put (some d1) (.pointer (some ⟨gb,0,none⟩))).eval (.tmp d1)=.pointer (some ⟨gb,0,none⟩))
  (hWb:E.W b'=true) (hex:1≤E.ex b') (hmode:E.mode b'=0) (hSt:E.St h ⟨gb,2,none⟩=some (.chan (some cc))) (hcc:w.heap[cc]?=some (.chan 0 #[] false kc kc false)) (hH:E.H cc=some 0) (hno:∀ x home'',x≠h→E.role x≠.seat cc home'')
  (hS:∀ a v,S a=some v→w.cell? a=some v∧E.W a.block=false∧∃ n,E.H a.block=some n∧n≤a.off)
  (hnext:∀ E1 w1 j,AtE h E w E1 w1→j≠h→0 < j→E1.role j=.gone→E1.wg j=none→(∀ a,E1.St j a=none)→HG Try.prog j F (E1.hireE h (.seat cc (AtWait gb b (a.put (some d1) (.pointer (some ⟨gb,0,none⟩))) #[mv,cw] 1 [] k cs)) j b' S) (born Try.prog d) w1) :
  HG Try.prog h F E (G (b.at a (.inRegion ops [i] :: .code (.region id #[mv,cw] false) :: k)) cs) w:=by
 refine HG.hire (n':=101) (k':=kc) (es:=#[]) (S:=S) (b:=b') (a':=G (b.at (a.put o.dst undef) (.inRegion ops [] :: .code (.region id #[mv,cw] false) :: k)) cs) rfl (fun w' _=>by rw [stepG_spawn ho hw hk (hr w') hd0]; unfold listed; rw [he w',seen_none]) (by simp) hWb hex hmode ?_ hcc hH hno hS hnext
 rw [hd,show a.put none undef=a from rfl]
 refine .inl ⟨100,w,rfl,?_⟩
 have I:=idl_sitsN Try.prog (h == 0) (E.St h) (fun g _=>∃ g₂,AtSeat Try.prog (h == 0) (E.St h) cc (AtWait gb b (a.put (some d1) (.pointer (some ⟨gb,0,none⟩))) #[mv,cw] 1 [] k cs) g g₂) w
 refine Idl.step (n:=99) I _ _ rfl (fun _=>stepG_region_end) ?_
 refine Idl.step (n:=98) I _ _ rfl (fun _=>stepG_region) ?_
 have hr:List.range (#[mv,cw]:Array Oper).size=[0,1]:=rfl
 rw [hr]
 refine Idl.value (n:=97) (v:=.pointer (some ⟨gb,0,none⟩)) I (o:=mv) rfl (by simp [Region.wanted,m3]) hk (fun w=>?_) (fun w=>?_) ?_
 ·show (execOp a.eval mv).run _ _=_
  simp [execOp,m1,hxv]
 ·show (execOp a.eval mv).events _ _ _=_
  simp [execOp,m1]
 rw [m2]
 refine Idl.callE (n:=96) (fn:=Try.f74) (vs:=#[.pointer (some ⟨gb,0,none⟩)]) I (o:=cw) rfl (by simp [Region.wanted,c3]) hk c1 Try.func74 rfl rfl (by simpa using hd1) ?_
 exact wait_seat (m:=36) hSt (fun _ z=>z)
theorem hire_go {Pred:Env→World→Prop} {N i gb cs kc:Nat} {gv bv v:Value} {c:Frame} {cl:List Frame} {S:Addr→Option Value} (R:RegsA T rb gv N i bv) (hiN:i < N) (hN8:N≤8) (t10:T[10]?=some v) (t11:T[11]?=some (.pointer (some ⟨gb,0,none⟩)))
  (hW:E.W rb=true) (hmode:E.mode rb=0) (hcnt:∀ n,cnt E n rb+E.ex rb < 1000) (hSt:E.St h ⟨gb,2,none⟩=some (.chan (some cs))) (hcs:w.heap[cs]?=some (.chan 0 #[] false kc kc false)) (hcsW:E.W cs=false) (hH:E.H cs=some 0) (hno:∀ x home'',x≠h→E.role x≠.seat cs home'')
  (hS:∀ a v,S a=some v→w.cell? a=some v∧E.W a.block=false∧∃ n,E.H a.block=some n∧n≤a.off)
  (hchild:∀ (E4:Env) (w4:World) (E5:Env) (w5:World) (j:Nat) (b₀:Frame) (a₀:Act) (ops₀:Array Oper) (i₀:Nat) (rest₀:List Nat) (k₀:List Item) (cl':List Frame),Upped h rb (AtE h E w) E4 w4→AtE h E4 w4 E5 w5→j≠h→0 < j→E5.role j=.gone→E5.wg j=none→(∀ a,E5.St j a=none) →
   (∀ E' w',Pred E' w'→HG Try.prog h F E' (G (b₀.at (a₀.put ((ops₀[i₀]?).bind (·.dst)) (.tuple #[])) (.inRegion ops₀ rest₀ :: k₀)) cl') w')→HG Try.prog j F (E5.hireE h (.seat cs (AtWait gb b₀ a₀ ops₀ i₀ rest₀ k₀ cl')) j rb S) (born Try.prog (dcall 73 #[.pointer (some ⟨gb,0,none⟩),v])) w5)
  (hc:∀ E' w' T',Pred E' w'→RegsA T' rb gv N (i+1) bv→Keep4 T T'→HG Try.prog h F E' (G ((base 29).at ⟨T',[]⟩ hdA) (c :: cl)) w') :
  HGn Try.prog h F E w 100 (G ((base 29).at ⟨T,[]⟩ hdA10) (c :: cl)):=by
 obtain ⟨hT,t7,t8,t25,t26,t27⟩:=R
 obtain ⟨f,rfl⟩:=arr121f T hT
 clear hT
 simp only [R121_get f (show 7 < 121 by decide),R121_get f (show 8 < 121 by decide),R121_get f (show 10 < 121 by decide),R121_get f (show 11 < 121 by decide),R121_get f (show 25 < 121 by decide),R121_get f (show 26 < 121 by decide),R121_get f (show 27 < 121 by decide),Option.some.injEq] at t7 t8 t10 t11 t25 t26 t27
 have w3:IntKind.i64.wrap ((i:Int)+1)=((i+1:Nat):Int):=by rw [IntKind.wrap_i64]; omega
 change HGn Try.prog h F E w 100 (G ((base 29).at _ [.code xA10,.inBlock 1,.code xA13,.inLoop rA,.inBlock 0,.code rB]) (c :: cl))
 unfold hdA at hc
 generalize hLA:rA=LA at hc ⊢
 generalize hLB:rB=LB at hc ⊢
 generalize hL13:xA13=L13
 simp only [xA10,rA10,rA9,rA,rHire,rBody,Try.f29,Option.getD_some,R121,t7,t8,t10,t11,t25,t26,t27]
 refine Idl.q (idl_hg Try.prog h F E w) (Idl.rg (idl_hg Try.prog h F E w) [0,1,2,3] rfl ?_)
 iterate 3 (refine Idl.v (idl_hg Try.prog h F E w) ?_; walk_nrm)
 refine Idl.callE (fn:=Go.Conc.Lib.addFn wgLink) (vs:=#[.pointer (some (stZ rb)),.int .i64 1]) (idl_hg Try.prog h F E w) rfl rfl (by k_ne) rfl wgLib.f_add (by kernel_rfl) rfl (by simp [Act.eval,stZ]) ?_
 refine addPos_holds (L:=wgLink) wgLib AtE.bears (fun E' w' a=>⟨by rw [a.1.W']; exact hW,a.1.mode _ hmode,fun n=>?_⟩) ?_
 ·have h1:=cnt_eq_le (n:=n) (b:=rb) a.1.toLe
  have h2:=hcnt n
  rw [congrFun a.1.ex rb]
  omega
 ·refine Holds.of_hg fun E4 w4 u=>?_
  obtain ⟨m4,e4,H4,W4,St4,r4,A4,seat4⟩:=u.mv (th:=⟨0,0,0,0,0⟩)
  have hch:=fun E5 w5 j b₀ a₀ ops₀ i₀ rest₀ k₀ cl'=>hchild E4 w4 E5 w5 j b₀ a₀ ops₀ i₀ rest₀ k₀ cl' u
  clear hchild
  walk_nrm
  change HGn Try.prog h F E4 w4 100 _
  refine Idl.re (idl_hg Try.prog h F E4 w4) (Idl.q (idl_hg Try.prog h F E4 w4) (Idl.rg (idl_hg Try.prog h F E4 w4) [0,1,2] rfl ?_))
  iterate 2 (refine Idl.v (idl_hg Try.prog h F E4 w4) ?_; walk_nrm)
  refine HG.hire_wait (b':=rb) (kc:=kc) (d:=dcall 73 #[.pointer (some ⟨gb,0,none⟩),v]) rfl rfl (by k_ne) (fun w=>by simp [go_sem,resolve,Deferred.ofValue,dcall,Act.eval]) (fun w=>by simp [go_sem,resolve,Deferred.ofValue,dcall,Act.eval]) rfl rfl rfl rfl rfl rfl rfl rfl rfl (by rw [W4]; exact hW) (by omega) (m4.mode _ hmode) (by rw [St4]; exact hSt) (by rw [A4.heap _ hcsW]; exact hcs) (by rw [H4]; exact hH) (fun x home'' hx e=>hno x home'' hx ((seat4 x _ _).2 e)) (fun a x ex=>?_) (fun E5 w5 j a1 a2 a3 a4 a5 a6=>hch E5 w5 j _ _ _ _ _ _ _ a1 a2 a3 a4 a5 a6 (fun E' w' p=>?_))
  ·obtain ⟨x1,x2,x3⟩:=hS a x ex
   exact ⟨aw_cell A4 x1 (fun z=>by rw [x2] at z; cases z),by rw [W4]; exact x2,by rw [H4]; exact x3⟩
  ·have hcc:=hc E' w'
   clear hc hch
   walk_nrm
   change HGn Try.prog h F E' w' 100 _
   refine Idl.re (idl_hg Try.prog h F E' w') ?_
   refine Idl.ib (idl_hg Try.prog h F E' w') ?_
   subst hL13
   have hcc2:=fun T'=>hcc T' p
   simp only [xA13,rA13,rA,rHire,rBody,Try.f29,Option.getD_some]
   refine Idl.rg (idl_hg Try.prog h F E' w') [0,1] rfl ?_
   iterate 2 (refine Idl.v (idl_hg Try.prog h F E' w') ?_; walk_nrm)
   refine Idl.re (idl_hg Try.prog h F E' w') (Idl.il (idl_hg Try.prog h F E' w') ?_)
   try simp only [w3]
   refine hcc2 _ ⟨by simp,by simp,by simp,by simp,by simp,by simp⟩ (fun x hx=>?_)
   rcases hx with rfl | rfl | rfl | rfl <;> first | rfl | simp [R121,t7]
end
end Go.Proofs.Ytimlbbleblijnaa.Co

namespace Go.Proofs.Ytimlbbleblijnaa.Co
open Go Go.Conc
open Go.ConcN (sumTo upd sumTo_upd upd_ne upd_same sumTo_congr le_sumTo)
theorem HG.withB {P:Program} {h:Nat} {F:Machine→Trace→Prop} {E:Env} {g:Goroutine} {w:World} (hg:(∀ b,w.heap.size≤b→E.H b=none)→(∀ i a,E.St i a≠none→a.block < w.heap.size)→(∀ x c home,E.role x=.seat c home→c < w.heap.size)→HG P h F E g w):HG P h F E g w :=
 HG.open fun E1 w1 hA ⟨gs,T,q,C,_⟩=>(hg (fun b hb=>by
  have:=C.fit.bound b (by rw [hA.2.size]; exact hb)
  rw [hA.1.H'] at this; exact this) (fun i a hs=>by
  have:=C.S_lt (i:=i) (a:=a) (by
   rw [hA.1.St']
   cases e:E.St i a with
   | none=>exact absurd e hs
   | some v=>rfl)
  rw [hA.2.size] at this; exact this) (fun x c home e=>by
  have h1:=C.hidC x c home ((hA.1.seat x c home).1 e)
  refine Nat.lt_of_not_le fun hle=>?_
  have:=C.fit.bound c (by rw [hA.2.size]; exact hle)
  rw [h1] at this; cases this)).at hA
theorem cnt_bound {E:Env} {b:Nat}:∀ (n:Nat) (L:List Nat),(∀ x,x < n→E.wg x=some b→x ∈ L)→cnt E n b≤L.length
 | 0,L,_=>Nat.zero_le _
 | n+1,L,h=>by
   have e:cnt E (n+1) b=cnt E n b+(if E.wg n=some b then 1 else 0):=rfl
   rw [e]
   by_cases hn:E.wg n=some b
   ·rw [if_pos hn]
    have hm:=h n (Nat.lt_succ_self n) hn
    have:=cnt_bound n (L.erase n) (fun x hx hw=>(List.mem_erase_of_ne (by omega)).2 (h x (by omega) hw))
    rw [List.length_erase_of_mem hm] at this
    have hp:0 < L.length:=List.length_pos_of_mem hm
    omega
   ·rw [if_neg hn]
    exact cnt_bound n L (fun x hx hw=>h x (by omega) hw)
section
variable {σ Λ:Type} {D:Prot σ Λ} {h rb:Nat} {J:Nat→Prop} {E0 E E1:Env} {w0 w w1:World} {th:Th} {o:Option (Nat × Λ)}
theorem Base.up (B:Base h rb J E0 w0 E w) (u:Upped h rb (AtE h E w) E1 w1):Base h rb J E0 w0 E1 w1:=by
 obtain ⟨Ea,wa,a1,a2,a3⟩:=u
 have B1:=B.at a1
 have B2:Base h rb J E0 w0 { Ea with ex:=upd Ea.ex rb (Ea.ex rb+1) } wa:=⟨B1.seat,B1.gone,B1.newR,B1.role0,B1.St,B1.StN,B1.W,B1.WN,B1.H,B1.wg,B1.wgH,B1.wgS,B1.wgJ,fun b hb=>(upd_ne _ _ hb).trans (B1.ex b hb),B1.mode0,B1.mode,B1.size,B1.heap,B1.heapW,B1.rN,B1.rW0,B1.rX0,by first | exact B.io | exact m.io.trans B.io | exact a.1.io.trans B.io | exact B1.io | rfl⟩
 exact B2.at (h:=h) ⟨a2,a3⟩
theorem TB.up (T:TB h rb th E w) (u:Upped h rb (AtE h E w) E1 w1) (hr:E.role h=.gone):TB h rb th E1 w1:=by
 obtain ⟨Ea,wa,a1,a2,a3⟩:=u
 have T1:=T.at a1 hr
 have T2:TB h rb th { Ea with ex:=upd Ea.ex rb (Ea.ex rb+1) } wa:=⟨T1.hj,T1.j0,T1.gW,T1.gH,T1.ctH,T1.ctW,T1.ctC,T1.csH,T1.csW,T1.csC,T1.stT,T1.stS,T1.stB,T1.bW,T1.bL,T1.gL,T1.noSt,T1.noT,T1.noS⟩
 exact T2.at ⟨a2,a3⟩ (a1.1.roleH.trans hr)
theorem TS.up (S:TS D rb th E w o) (hg:E.W th.gb=false) (u:Upped h rb (AtE h E w) E1 w1):TS D rb th E1 w1 o:=by
 obtain ⟨Ea,wa,a1,a2,a3⟩:=u
 have S1:=S.at hg a1
 have S2:TS D rb th { Ea with ex:=upd Ea.ex rb (Ea.ex rb+1) } wa o:=by
  match o,S1 with
  | some (n,ℓ),⟨s1,s2,s3⟩=>exact ⟨s1,s2,s3⟩
  | none,⟨s1,fr,tl,s2⟩=>exact ⟨s1,fr,tl,s2⟩
 have hg2:Ea.W th.gb=false:=by rw [a1.1.W']; exact hg
 exact TS.at (h:=h) S2 hg2 ⟨a2,a3⟩
end
structure TKb (h rb:Nat) (home:Goroutine→Prop) (th:Th) (E:Env) (w:World):Prop where
 run:E.role h=.seat th.cs home
 hj:h≠th.j
 j0:0 < th.j
 role:E.role th.j=.gone
 wg:E.wg th.j=some rb
 gW:E.W th.gb=false
 gH:E.H th.gb=some 1
 ctH:E.H th.ct=some 0
 ctW:E.W th.ct=false
 ctC:∃ k',w.heap[th.ct]?=some (.chan 0 #[] false k' k' false)
 stT:E.St th.j ⟨th.gb,1,none⟩=some (.chan (some th.ct))
 box:th.box=w.heap.size
 gL:th.gb < w.heap.size
 noSt:∀ i o,3≤o→E.St i ⟨th.gb,o,none⟩=none
 noT:∀ x home,x≠th.j→E.role x≠.seat th.ct home
 rW:E.W rb=true
 rL:Live rb w
 pick:w.cell? ⟨rb,0,none⟩=some (.int .i64 0)
 mode:∀ b,E.mode b=0
section
variable {σ Λ:Type}
structure StartOk (D:Prot σ Λ) (t:Nat) (start:σ→σ × Option Λ→Prop):Prop where
 mono:∀ s s' o l2,D.init t s→start s (s',o)→D.who l2 < t→D.fits l2 s→D.fits l2 s'
 fresh:∀ s s' l',D.init t s→start s (s',some l')→D.fits l' s'∧D.who l'=t
 init:∀ s s' o,D.init t s→start s (s',o)→D.init (t+1) s'
def BornV (D:Prot σ Λ) (t n:Nat) (start:σ→σ × Option Λ→Prop) (v:Value):Prop :=
 ∀ (h rb:Nat) (home:Goroutine→Prop) (th:Th) (F:Machine→Trace→Prop) (E:Env) (w:World) (s:σ),TKb h rb home th E w→GA w rb th false false (0,0,0)→D.M s E w→D.init t s →
  (∀ E7 w7,Kept th.j (some th.gb) E w E7 w7→TKn h rb home 0 th E7 w7→∀ s' o,start s (s',o)→Back D h rb home th F E7 w7 s' o (roleOf (Srv D rb th n) rb th o))→HG Try.prog th.j F E (born Try.prog (dcall 73 #[.pointer (some ⟨th.gb,0,none⟩),v])) w
theorem birth_box {D:Prot σ Λ} {h rb:Nat} {home:Goroutine→Prop} {th:Th} {E:Env} {w:World} {s:σ} (T:TKb h rb home th E w) (hga:GA w rb th false false (0,0,0)) (hM:D.M s E w) (hB:∀ b,w.heap.size≤b→E.H b=none) (hS:∀ i a,E.St i a≠none→a.block < w.heap.size) (hWH:∀ b,E.W b=true→E.H b=some 1)
  {H7:Nat→Option Nat} {S7:Addr→Option Value} (hH7:H7=upd E.H w.heap.size (some 0)) (hS7:S7=fun a=>if a=⟨w.heap.size,0,none⟩ then some (.pointer (some ⟨th.gb,0,none⟩)) else E.St th.j a) {E7:Env} {w7:World} (hE7:E7={ E with H:=H7,St:=upd E.St th.j S7 }) (hw7:w7=w.alloc (.cells #[.pointer (some ⟨th.gb,0,none⟩)] 49)) :
  Kept th.j (some th.gb) E w E7 w7∧TKn h rb home 0 th E7 w7∧GA w7 rb th false false (0,0,0)∧D.M s E7 w7:=by
 have hHb:∀ b,b≠w.heap.size→H7 b=E.H b:=fun b hb=>by rw [hH7]; exact upd_ne _ _ hb
 have hne:∀ b n,E.H b=some n→b≠w.heap.size:=fun b n e z=>by rw [z,hB _ (Nat.le_refl _)] at e; cases e
 have hSt7:∀ i a v,E.St i a=some v→upd E.St th.j S7 i a=some v:=fun i a v e=>by
  by_cases hi:i=th.j
  ·subst hi
   rw [upd_same,hS7]
   have hl:=hS th.j a (by rw [e]; simp)
   show (if a=⟨w.heap.size,0,none⟩ then _ else E.St th.j a)=_
   rw [if_neg (fun z=>by rw [z] at hl; exact absurd hl (Nat.lt_irrefl _))]
   exact e
  ·rw [upd_ne _ _ hi]; exact e
 have hStN:∀ i a,upd E.St th.j S7 i a≠none→E.St i a≠none∨a=⟨w.heap.size,0,none⟩:=fun i a e=>by
  by_cases hi:i=th.j
  ·subst hi
   rw [upd_same,hS7] at e
   by_cases ha:a=⟨w.heap.size,0,none⟩
   ·exact .inr ha
   ·exact .inl (by simpa [ha] using e)
  ·rw [upd_ne _ _ hi] at e; exact .inl e
 have hsz:w7.heap.size=w.heap.size+1:=by rw [hw7]; exact alloc_size
 have hold:∀ b,b < w.heap.size→w7.heap[b]?=w.heap[b]?:=fun b hb=>by rw [hw7]; exact alloc_old hb
 have hnew:w7.heap[w.heap.size]?=some (.cells #[.pointer (some ⟨th.gb,0,none⟩)] 49):=by rw [hw7]; exact alloc_new
 have hWn:E.W w.heap.size=false:=by
  cases e:E.W w.heap.size with
  | false=>rfl
  | true=>have:=hWH _ e; rw [hB _ (Nat.le_refl _)] at this; cases this
 have hK:Kept th.j (some th.gb) E w E7 w7:=by
  subst hE7
  exact ⟨⟨fun _ _ _=>Iff.rfl,fun _ e=>e,rfl,hSt7,fun _ e=>e,fun b n e=>(hHb b (hne b n e)).trans e,fun _ _ e=>e,rfl,fun _ _=>rfl,rfl,fun _ e=>e,fun _=>Nat.le_refl _,rfl⟩,by omega,fun b n _ _ _ hb=>hold b hb,fun b _ x st sm e hx=>⟨st,sm,by rw [hold b (Array.getElem?_eq_some_iff.1 hx).1]; exact hx⟩,fun i a e=>(hStN i a e).imp id (fun z=>by rw [z]; exact Nat.le_refl _),fun b e=>.inl e⟩
 obtain ⟨kc,hkc⟩:=T.ctC
 obtain ⟨st0,sm0,x0,e0,hx0⟩:=T.rL
 have hrl:=(Array.getElem?_eq_some_iff.1 hx0).1
 refine ⟨hK,?_,?_,?_⟩
 ·subst hE7
  refine ⟨T.run,T.hj,T.j0,T.role,T.wg,T.gW,(hHb _ (hne _ _ T.gH)).trans T.gH,(hHb _ (hne _ _ T.ctH)).trans T.ctH,T.ctW,⟨kc,by rw [hold _ (Array.getElem?_eq_some_iff.1 hkc).1]; exact hkc⟩,hSt7 _ _ _ T.stT,?_,by show E.W th.box=false; rw [T.box]; exact hWn,by rw [T.box,hsz]; omega,by rw [hsz]; have:=T.gL; omega,fun i x hx=>?_,T.noT,T.rW,⟨st0,sm0,x0,e0,by rw [hold _ hrl]; exact hx0⟩,?_,T.mode⟩
  ·show upd E.St th.j S7 th.j ⟨th.box,0,none⟩=_
   rw [upd_same,hS7,T.box]
   exact if_pos rfl
  ·show upd E.St th.j S7 i ⟨th.gb,x,none⟩=none
   cases e:upd E.St th.j S7 i ⟨th.gb,x,none⟩ with
   | none=>rfl
   | some v =>
     rcases hStN i _ (by rw [e]; simp) with z | z
     ·exact absurd (T.noSt i x hx) z
     ·have:=T.gL
      have z':th.gb=w.heap.size:=congrArg Addr.block z
      omega
  ·have:=T.pick
   unfold World.cell? at this ⊢
   rw [hold _ hrl]; exact this
 ·unfold GA at hga ⊢
  rw [hold _ T.gL]; exact hga
 ·subst hE7
  exact D.closed _ _ _ _ _ hM fun b hb hn=>⟨(hHb b (by omega)).trans hn,hold b hb⟩
theorem bornV_clo {D:Prot σ Λ} {t n:Nat} {start:σ→σ × Option Λ→Prop} {fb:FuncId} {fn:Func} {caps:Array Value} (hf:Try.prog.funcs[fb]?=some fn) (hname:(fn.name == "runtime.NumGoroutine")=false) (hb:fn.body.isSome=true) (B:Born D t n start fb fn caps):BornV D t n start (.func (.func fb) #[] caps):=by
 intro h rb home th F E w s T hga hM hI hback
 refine HG.withB fun hB hS hC=>HG.withH fun hWH hWS=>?_
 have hWn:E.W w.heap.size=false:=by
  cases e:E.W w.heap.size with
  | false=>rfl
  | true=>have:=hWH _ e; rw [hB _ (Nat.le_refl _)] at this; cases this
 refine live_start hga T.gW T.role hWn hf hname hb (fun LR=>?_)
 rw [← T.box] at LR
 obtain ⟨k7,t7,g7,m7⟩:=birth_box T hga hM hB hS hWH rfl rfl rfl rfl
 refine HG.hide (H':=upd E.H w.heap.size (some 0)) (S':=fun a=>if a=⟨w.heap.size,0,none⟩ then some (.pointer (some ⟨th.gb,0,none⟩)) else E.St th.j a) (fun b m e=>?_) (fun b m e=>?_) (fun a v e=>?_) (fun a v e=>?_) ?_
 ·rw [upd_ne _ _ (fun z=>by rw [z,hB _ (Nat.le_refl _)] at e; cases e)]; exact e
 ·by_cases hbb:b=w.heap.size
  ·subst hbb
   exact .inr ⟨hWn,.inl ⟨_,_,_,alloc_new⟩⟩
  ·rw [upd_ne _ _ hbb] at e; exact .inl e
 ·have hl:=hS th.j a (by rw [e]; simp)
  exact (if_neg (fun z=>by rw [z] at hl; exact absurd hl (Nat.lt_irrefl _))).trans e
 ·by_cases ha:a=⟨w.heap.size,0,none⟩
  ·subst ha
   have e':some (Value.pointer (some ⟨th.gb,0,none⟩))=some v:=(if_pos rfl).symm.trans e
   obtain rfl:=Option.some.inj e'
   exact .inr ⟨obj_cell alloc_new rfl,hWn,0,upd_same ..,Nat.le_refl _⟩
  ·exact .inl ((if_neg ha).symm.trans e)
 ·exact B h rb home th F _ _ s _ _ _ _ _ _ _ t7 g7 m7 hI LR (hback _ _ k7 t7)
end
section
variable {σ Λ:Type} {D:Prot σ Λ} {Pv:Nat→Option Obj} {h rb:Nat} {E0 E:Env} {w0 w:World} {ths:List Th} {st:List (Option (Nat × Λ))} {s:σ} {F:Machine→Trace→Prop} {n N:Nat} {gv bv:Value} {c:Frame} {cl:List Frame} {T:Array Value}
theorem hire_hide {w':World} {ct cs:Nat} (Ph:Phase D h rb E0 w0 Pv ths st s 0 E w) (hPn:∀ b o,Pv b=some o→w0.heap.size≤b) (hWH:∀ b,E.W b=true→E.H b=some 1) (hB:∀ b,w.heap.size≤b→E.H b=none) (hS:∀ i a,E.St i a≠none→a.block < w.heap.size) (Gm:MadeG rb E w w' ct cs)
  {H1:Nat→Option Nat} {S1:Addr→Option Value} (hH1:H1=fun b=>if b=ct∨b=cs then some 0 else if b=w.heap.size+2 then some 1 else E.H b) (hS1:S1=fun a=>if a=⟨w.heap.size+2,2,none⟩ then some (.chan (some cs)) else E.St h a)
  (hg:Phase D h rb E0 w0 Pv ths st s 0 { E with H:=H1,St:=upd E.St h S1 } w'→HG Try.prog h F { E with H:=H1,St:=upd E.St h S1 } (G ((base 29).at ⟨T,[]⟩ hdA9) (c :: cl)) w'):HG Try.prog h F E (G ((base 29).at ⟨T,[]⟩ hdA9) (c :: cl)) w':=by
 have hid:w.heap.size≤ct∧w.heap.size≤cs∧ct≠cs∧ct≠w.heap.size+2∧cs≠w.heap.size+2:=by
  rcases Gm.ids with ⟨rfl,rfl⟩ | ⟨rfl,rfl⟩ <;> refine ⟨?_,?_,?_,?_,?_⟩ <;> omega
 obtain ⟨d1,d2,d3,d4,d5⟩:=hid
 have hWn:∀ b,w.heap.size≤b→E.W b=false:=fun b hb=>by
  cases e:E.W b with
  | false=>rfl
  | true=>have:=hWH _ e; rw [hB _ hb] at this; cases this
 have hHb:∀ b,b < w.heap.size→H1 b=E.H b:=fun b hb=>by
  rw [hH1]
  show (if b=ct∨b=cs then _ else _)=_
  rw [if_neg (by omega),if_neg (by omega)]
 have hHm:∀ b m,E.H b=some m→H1 b=some m:=fun b m e=>by
  have:b < w.heap.size:=Nat.lt_of_not_le fun hle=>by rw [hB b hle] at e; cases e
  rw [hHb b this]; exact e
 have hSm:∀ a v,E.St h a=some v→S1 a=some v:=fun a v e=>by
  have hl:=hS h a (by rw [e]; simp)
  rw [hS1]
  exact (if_neg (fun z=>by rw [z] at hl; have hl':w.heap.size+2 < w.heap.size:=hl; omega)).trans e
 refine HG.hide (H':=H1) (S':=S1) hHm (fun b m e=>?_) hSm (fun a v e=>?_) (hg ?_)
 ·by_cases h1:b=ct
  ·subst h1; exact .inr ⟨hWn _ d1,.inr ⟨_,_,_,_,_,_,Gm.ctC⟩⟩
  ·by_cases h2:b=cs
   ·subst h2; exact .inr ⟨hWn _ d2,.inr ⟨_,_,_,_,_,_,Gm.csC⟩⟩
   ·by_cases h3:b=w.heap.size+2
    ·subst h3; exact .inr ⟨hWn _ (by omega),.inl ⟨_,_,_,Gm.gate⟩⟩
    ·rw [hH1] at e
     have e':(if b=ct∨b=cs then some 0 else if b=w.heap.size+2 then some 1 else E.H b)=some m:=e
     rw [if_neg (by simp [h1,h2]),if_neg h3] at e'
     exact .inl e'
 ·by_cases ha:a=⟨w.heap.size+2,2,none⟩
  ·subst ha
   rw [hS1] at e
   have e':some (Value.chan (some cs))=some v:=(if_pos rfl).symm.trans e
   obtain rfl:=Option.some.inj e'
   refine .inr ⟨obj_cell Gm.gate rfl,hWn _ (by show w.heap.size≤w.heap.size+2; omega),1,?_,by show 1≤2; decide⟩
   rw [hH1]
   show (if w.heap.size+2=ct∨w.heap.size+2=cs then _ else if w.heap.size+2=w.heap.size+2 then _ else _)=_
   rw [if_neg (by omega),if_pos rfl]
  ·rw [hS1] at e
   exact .inl ((if_neg ha).symm.trans e)
 ·refine Ph.hide (Pv':=Pv) hPn Gm.size (fun b hb _ hW=>Gm.old b hb hW) Gm.oldW (fun b o e=>?_) hHm (fun b hb e=>(hHb b hb).trans e) hWH hSm (fun a e=>?_)
  ·obtain ⟨p1,p2,p3,p4,p5⟩:=Ph.pv b o e
   have hl:=(Array.getElem?_eq_some_iff.1 p1).1
   refine ⟨by rw [Gm.old b hl p3]; exact p1,hHm b 0 p2,p3,p4,fun i a ea=>?_⟩
   by_cases hx:i=h
   ·subst hx
    rw [upd_same,hS1]
    exact (if_neg (fun z=>by rw [z] at ea; have ea':w.heap.size+2=b:=ea; omega)).trans (p5 _ a ea)
   ·rw [upd_ne _ _ hx]; exact p5 i a ea
  ·rw [hS1] at e
   by_cases ha:a=⟨w.heap.size+2,2,none⟩
   ·rw [ha]; exact .inr (by show w.heap.size≤w.heap.size+2; omega)
   ·exact .inl (by simpa [ha] using e)
theorem list_hide {w':World} {gv':Value} {xs:List Value} {g cap:Nat} {cur:Array Value} {Ev:Env} {Hr:Nat→Option Nat} (Ph:Phase D h rb E0 w0 Pv ths st s 0 Ev w) (hPn:∀ b o,Pv b=some o→w0.heap.size≤b) (hWH:∀ b,Ev.W b=true→Ev.H b=some 1) (hB:∀ b,w.heap.size≤b→Ev.H b=none) (hS:∀ i a,Ev.St i a≠none→a.block < w.heap.size)
  (L:Listed Ev w0 w w' Pv gv' xs ths.length) (hrow:w'.heap[g]?=some (.cells cur 49)) (hg1:w.heap.size≤g∨∃ o,Pv g=some o) (hHr:∀ b m,Hr b=some m→Ev.H b=some m) (hHr2:∀ b m,Ev.H b=some m→Hr b=some m∨∃ o,Pv b=some o)
  {H3:Nat→Option Nat} (hH3:H3=fun b=>if b=g then some 0 else Ev.H b) {g0:Goroutine}
  (hg:Phase D h rb E0 w0 (fun b=>if b=g then some (.cells cur 49) else none) ths st s 0 { Ev with H:=H3,St:=upd Ev.St h (Ev.St h) } w'→HG Try.prog h F { Ev with H:=H3,St:=upd Ev.St h (Ev.St h) } g0 w'):HG Try.prog h F { Ev with H:=Hr } g0 w':=by
 have hgW:Ev.W g=false:=by
  rcases hg1 with z | ⟨o,z⟩
  ·cases e:Ev.W g with
   | false=>rfl
   | true=>have:=hWH _ e; rw [hB _ z] at this; cases this
  ·exact (Ph.pv g o z).2.2.1
 have hHm:∀ b m,Ev.H b=some m→H3 b=some m:=fun b m e=>by
  rw [hH3]
  show (if b=g then some 0 else Ev.H b)=some m
  by_cases hb:b=g
  ·subst hb
   rw [if_pos rfl]
   rcases hg1 with z | ⟨o,z⟩
   ·rw [hB _ z] at e; cases e
   ·rw [(Ph.pv b o z).2.1] at e; exact e
  ·rw [if_neg hb]; exact e
 refine HG.hide (E:={ Ev with H:=Hr }) (H':=H3) (S':=Ev.St h) (fun b m e=>hHm b m (hHr b m e)) (fun b m e=>?_) (fun a v e=>e) (fun a v e=>.inl e) (hg ?_)
 ·by_cases hb:b=g
  ·subst hb; exact .inr ⟨hgW,.inl ⟨_,_,_,hrow⟩⟩
  ·rw [hH3] at e
   have e':Ev.H b=some m:=(if_neg hb).symm.trans e
   rcases hHr2 b m e' with z | ⟨o,z⟩
   ·exact .inl z
   ·exact .inr ⟨(Ph.pv b o z).2.2.1,.inl (L.cells b o z)⟩
 ·refine Ph.hide (Pv':=fun b=>if b=g then some (.cells cur 49) else none) hPn L.size L.old L.oldW (fun b o e=>?_) hHm (fun b hb e=>?_) hWH (fun a v e=>e) (fun a e=>.inl e)
  ·by_cases hb:b=g
   ·subst hb
    have e':some (Obj.cells cur 49)=some o:=(if_pos rfl).symm.trans e
    obtain rfl:=Option.some.inj e'
    refine ⟨hrow,by rw [hH3]; exact if_pos rfl,hgW,fun th hm hbl=>?_,fun i a ea=>?_⟩
    ·rcases hg1 with z | ⟨o,z⟩
     ·have Tb:=Ph.tb th hm
      obtain ⟨k1,c1⟩:=Tb.ctC
      obtain ⟨k2,c2⟩:=Tb.csC
      have l1:=(Array.getElem?_eq_some_iff.1 c1).1
      have l2:=(Array.getElem?_eq_some_iff.1 c2).1
      have l3:=Tb.gL
      simp only [Th.bl,List.mem_cons,List.not_mem_nil,or_false] at hbl
      omega
     ·exact (Ph.pv b o z).2.2.2.1 th hm hbl
    ·have key:Ev.St i a=none:=by
      rcases hg1 with z | ⟨o,z⟩
      ·cases e2:Ev.St i a with
       | none=>rfl
       | some v=>have:=hS i a (by rw [e2]; simp); omega
      ·exact (Ph.pv b o z).2.2.2.2 i a ea
     by_cases hx:i=h
     ·subst hx; rw [upd_same]; exact key
     ·rw [upd_ne _ _ hx]; exact key
   ·have e':(none:Option Obj)=some o:=(if_neg hb).symm.trans e
    cases e'
  ·rw [hH3]
   show (if b=g then some 0 else Ev.H b)=none
   by_cases hbg:b=g
   ·subst hbg
    rcases hg1 with z | ⟨o,z⟩
    ·omega
    ·rw [(Ph.pv b o z).2.1] at e; cases e
   ·rw [if_neg hbg]; exact e
end
structure NewG (h rb:Nat) (w0:World) (ths:List Th) (Pv:Nat→Option Obj) (E:Env) (w:World) (gb ct cs:Nat):Prop where
 ga:w.heap[gb]?=some (gateObj rb ct cs false false 0 0 0 108)
 gW:E.W gb=false
 gH:E.H gb=some 1
 ctH:E.H ct=some 0
 ctW:E.W ct=false
 ctC:∃ k,w.heap[ct]?=some (.chan 0 #[] false k k false)
 csH:E.H cs=some 0
 csW:E.W cs=false
 csC:∃ k,w.heap[cs]?=some (.chan 0 #[] false k k false)
 stS:E.St h ⟨gb,2,none⟩=some (.chan (some cs))
 noSt:∀ i o,3≤o→E.St i ⟨gb,o,none⟩=none
 noT:∀ x home,E.role x≠.seat ct home
 noS:∀ x home,E.role x≠.seat cs home
 new:w0.heap.size≤gb∧w0.heap.size≤ct∧w0.heap.size≤cs
 self:gb≠ct∧gb≠cs∧ct≠cs
 apart:∀ th ∈ ths,∀ b ∈ th.bl,b≠gb∧b≠ct∧b≠cs
 pv:∀ b o,Pv b=some o→b≠gb∧b≠ct∧b≠cs
section
variable {σ Λ:Type} {D:Prot σ Λ} {Pv:Nat→Option Obj} {h rb:Nat} {E0 E E4 E5:Env} {w0 w w4 w5:World} {ths:List Th} {st:List (Option (Nat × Λ))} {s:σ} {F:Machine→Trace→Prop} {n gb ct cs j:Nat} {v:Value} {start:σ→σ × Option Λ→Prop}
 {b₀:Frame} {a₀:Act} {ops₀:Array Oper} {i₀:Nat} {rest₀:List Nat} {k₀:List Item} {cl:List Frame}
def kidS (gb ct:Nat):Addr→Option Value:=fun a=>if a=⟨gb,1,none⟩ then some (.chan (some ct)) else none
theorem hire_child (Ph:Phase D h rb E0 w0 Pv ths st s 0 E w) (hWH:∀ b,E.W b=true→E.H b=some 1) (N:NewG h rb w0 ths Pv E w gb ct cs) (hBorn:BornV D ths.length n start v) (hSO:StartOk D ths.length start) (hI:D.init ths.length s) (u:Upped h rb (AtE h E w) E4 w4) (a:AtE h E4 w4 E5 w5) (hjh:j≠h) (j0:0 < j) (hjr:E5.role j=.gone) (hjw:E5.wg j=none) (hjS:∀ a,E5.St j a=none)
  (hret:∀ E' w',(∃ th s' o,th.gb=gb∧start s (s',o)∧Phase D h rb E0 w0 Pv (ths ++ [th]) (st ++ [o.map (fun ℓ=>(n,ℓ))]) s' 0 E' w')→HG Try.prog h F E' (G (b₀.at (a₀.put ((ops₀[i₀]?).bind (·.dst)) (.tuple #[])) (.inRegion ops₀ rest₀ :: k₀)) cl) w') :
  HG Try.prog j F (E5.hireE h (.seat cs (AtWait gb b₀ a₀ ops₀ i₀ rest₀ k₀ cl)) j rb (kidS gb ct)) (born Try.prog (dcall 73 #[.pointer (some ⟨gb,0,none⟩),v])) w5:=by
 obtain ⟨m4,e4,H4,W4,St4,r4,A4,seat4⟩:=u.mv (th:=⟨0,0,0,0,0⟩)
 have B5:=(Ph.base.up u).at a
 have r4':E4.role h=.gone:=r4.trans Ph.role
 have T5:∀ th' ∈ ths,TB h rb th' E5 w5:=fun th' hm=>((Ph.tb th' hm).up u Ph.role).at a r4'
 have gW4:∀ {th':Th},th' ∈ ths→E4.W th'.gb=false:=fun hm=>by rw [W4]; exact (Ph.tb _ hm).gW
 have W5:E5.W=E.W:=a.1.W'.trans W4
 have H5:E5.H=E.H:=a.1.H'.trans H4
 have St5:E5.St=E.St:=a.1.St'.trans St4
 have A5:Aw E.W w w5:=A4.trans _ _ _ (by rw [← W4]; exact a.2)
 have seat5:∀ x c home,E.role x=.seat c home ↔ E5.role x=.seat c home:=fun x c home=>(seat4 x c home).trans (a.1.seat x c home)
 have r5:E5.role h=.gone:=a.1.roleH.trans r4'
 have mode5:∀ b,E5.mode b=0:=B5.mode
 have ex5:E5.ex rb=1:=by rw [a.1.ex,e4,Ph.ex]
 have L5:Live rb w5:=aw_live Ph.rW A5 Ph.rL
 have p5:w5.cell? ⟨rb,0,none⟩=some (.int .i64 0):=aw_cell A5 Ph.pick (fun _=>⟨rfl,Ph.rL⟩)
 obtain ⟨kt,hkt⟩:=N.ctC
 obtain ⟨ks,hks⟩:=N.csC
 have hga5:w5.heap[gb]?=some (gateObj rb ct cs false false 0 0 0 108):=by rw [A5.heap _ N.gW]; exact N.ga
 have hkt5:w5.heap[ct]?=some (.chan 0 #[] false kt kt false):=by rw [A5.heap _ N.ctW]; exact hkt
 have hks5:w5.heap[cs]?=some (.chan 0 #[] false ks ks false):=by rw [A5.heap _ N.csW]; exact hks
 have hnJ:¬ ∃ th ∈ ths,j=th.j:=fun ⟨th',hm,e⟩=>by
  have:=(T5 th' hm).stT
  rw [← e,hjS] at this; cases this
 obtain ⟨q1,q2,q3⟩:=N.self
 generalize hth:(⟨j,gb,ct,cs,w5.heap.size⟩:Th)=th
 have thj:th.j=j:=by rw [← hth]
 have thg:th.gb=gb:=by rw [← hth]
 have tht:th.ct=ct:=by rw [← hth]
 have ths':th.cs=cs:=by rw [← hth]
 have thb:th.box=w5.heap.size:=by rw [← hth]
 have thbl:th.bl=[gb,ct,cs]:=by rw [← hth]; rfl
 have hkid:∀ x,kidS gb ct x≠none→x.block=th.gb∧x.off < 3:=fun x hx=>by
  unfold kidS at hx
  by_cases hx1:x=⟨gb,1,none⟩
  ·subst hx1; exact ⟨thg.symm,by show 1 < 3; decide⟩
  ·rw [if_neg hx1] at hx; exact absurd rfl hx
 generalize hhm:AtWait gb b₀ a₀ ops₀ i₀ rest₀ k₀ cl=hm
 generalize hE6:E5.hireE h (.seat cs hm) j rb (kidS gb ct)=E6
 have role6:∀ x,E6.role x=if x=h then .seat cs hm else E5.role x:=fun x=>by
  rw [← hE6]
  show upd E5.role h _ x=_
  by_cases e:x=h
  ·rw [if_pos e,e,upd_same]
  ·rw [if_neg e,upd_ne _ _ e]
 have wg6:E6.wg j=some rb:=by rw [← hE6]; exact upd_same ..
 have St6j:E6.St j=kidS gb ct:=by rw [← hE6]; exact upd_same ..
 have St6:∀ x,x≠j→E6.St x=E.St x:=fun x hx=>by rw [← hE6,← St5]; exact upd_ne _ _ hx
 have W6:E6.W=E.W:=by rw [← hE6]; exact W5
 have H6:E6.H=E.H:=by rw [← hE6]; exact H5
 have mode6:E6.mode=E5.mode:=by rw [← hE6]; rfl
 have ex6:E6.ex rb=0:=by
  rw [← hE6]
  show upd E5.ex rb (E5.ex rb - 1) rb=0
  rw [upd_same,ex5]
 have r6h:E6.role h=.seat cs hm:=by rw [role6,if_pos rfl]
 have r6j:E6.role j=.gone:=by rw [role6,if_neg hjh]; exact hjr
 have X6:TX h th E6 w5:=by
  refine ⟨by rw [ths',H6]; exact N.csH,by rw [ths',W6]; exact N.csW,by rw [ths']; exact (Array.getElem?_eq_some_iff.1 hks5).1,by rw [thg,ths',St6 h (fun e=>hjh e.symm)]; exact N.stS,fun x home hx e=>?_⟩
  rw [role6,if_neg hx,ths'] at e
  exact N.noS x home ((seat5 _ _ _).2 e)
 have hb:=hBorn h rb hm th F E6 w5 s ⟨by rw [r6h,ths'],by rw [thj]; exact fun e=>hjh e.symm,by rw [thj]; exact j0,by rw [thj]; exact r6j,by rw [thj]; exact wg6,by rw [thg,W6]; exact N.gW,by rw [thg,H6]; exact N.gH,by rw [tht,H6]; exact N.ctH,by rw [tht,W6]; exact N.ctW,⟨kt,by rw [tht]; exact hkt5⟩,
  by rw [thj,thg,tht,St6j]; exact if_pos rfl,thb,by rw [thg]; exact (Array.getElem?_eq_some_iff.1 hga5).1,fun i o ho=>?_,fun x home hx e=>?_,by rw [W6]; exact Ph.rW,L5,p5,fun b=>by rw [mode6]; exact mode5 b⟩ (by unfold GA; rw [thg,tht,ths']; exact hga5)
  (D.closed _ _ _ _ _ Ph.M fun b hb hn=>⟨by rw [H6]; exact hn,A5.heap b (by
   cases e:E.W b with
   | false=>rfl
   | true=>rw [hWH b e] at hn; cases hn)⟩) hI ?_
 ·rw [thj,thg] at hb; exact hb
 ·rw [thg]
  by_cases hi:i=j
  ·subst hi
   rw [St6j]
   exact if_neg (fun z=>by have:o=1:=congrArg Addr.off z; omega)
  ·rw [St6 i hi]; exact N.noSt i o ho
 ·rw [role6,tht] at e
  by_cases hxh:x=h
  ·rw [if_pos hxh] at e
   injection e with z _
   exact q3 z.symm
  ·rw [if_neg hxh] at e
   exact N.noT x home ((seat5 _ _ _).2 e)
 ·intro E7 w7 k7 t7 s' o hso
  have hsits:(E6.role h).sits=true:=by rw [r6h]; rfl
  have m6:Mv h rb th E5 w5 E6 w5:=by
   rw [← hE6,← thj]
   exact Mv.hire (fun x=>by rw [thj]; exact hjS x) (by rw [thj]; exact hjh) hkid
  have hlen:st.length=ths.length:=Ph.len
  have apart_new:∀ th' ∈ ths,Apart th' th:=fun th' hm'=>⟨fun e=>hnJ ⟨th',hm',by rw [← thj,e]⟩,fun x hx y hy=>by
   obtain ⟨z1,z2,z3⟩:=N.apart th' hm' x hx
   rw [thbl] at hy
   simp only [List.mem_cons,List.not_mem_nil,or_false] at hy
   rcases hy with rfl | rfl | rfl <;> assumption⟩
  have hget:∀ (t:Nat) (th':Th),(ths ++ [th])[t]?=some th'→(t < ths.length∧ths[t]?=some th')∨(t=ths.length∧th'=th):=fun t th' e=>by
   by_cases hl:t < ths.length
   ·rw [List.getElem?_append_left hl] at e; exact .inl ⟨hl,e⟩
   ·rw [List.getElem?_append_right (by omega)] at e
    have h0:t - ths.length=0:=by
     have:=(List.getElem?_eq_some_iff.1 e).1
     simp at this; omega
    rw [h0] at e
    simp at e
    exact .inr ⟨by omega,e.symm⟩
  refine back_hg (E:=E5) (w:=w5) (J:=fun x=>∃ th ∈ ths,x=th.j) (ths:=ths ++ [th]) (st:=st ++ [o.map (fun ℓ=>(n,ℓ))]) (t:=ths.length) (Pv:=Pv) (b₀:=b₀) (a₀:=a₀) (ops₀:=ops₀) (i₀:=i₀) (rest₀:=rest₀) (k₀:=k₀) (cl:=cl) B5 (fun x=>⟨fun z=>?_,fun ⟨th',hm',e⟩=>?_⟩) (.inr ⟨?_,fun x=>?_,by rw [thj]; exact hjh,fun b e=>by rw [thj,hjw] at e; cases e⟩) (by simp [hlen]) (fun th' hm'=>?_) (fun t t' th1 th2 hne e1 e2=>?_) (fun th' hm'=>?_) (fun t' th' hne e=>?_) (m6.trans (k7.mv (.inl rfl) (.inr hsits))) t7 (X6.kept k7) ?_ ?_ (by rw [k7.le.ex]; exact ex6) (fun b o e=>?_) (fun t m ℓ e=>?_) (fun E' w' P=>hret E' w' ⟨th,s',o,thg,hso,P⟩) (fun g z=>by rw [thg,hhm]; exact z)
  ·rcases z with ⟨th',hm',e⟩ | e
   ·exact ⟨th',List.mem_append_left _ hm',e⟩
   ·exact ⟨th,List.mem_append_right _ (by simp),e⟩
  ·rcases List.mem_append.1 hm' with z | z
   ·exact .inl ⟨th',z,e⟩
   ·simp at z; subst z; exact .inr e
  ·rw [thj]
   cases er:E0.role j with
   | seat c home =>
     have:=(B5.seat j c home hnJ hjh).1 er
     rw [hjr] at this; cases this
   | _=>rfl
  ·rw [thj]
   cases es:E0.St j x with
   | none=>rfl
   | some v=>have:=B5.St j x v es; rw [hjS] at this; cases this
  ·rcases List.mem_append.1 hm' with z | z
   ·exact Ph.new th' z
   ·simp at z; subst z; rw [thg,tht,ths']; exact N.new
  ·rcases hget t th1 e1 with ⟨l1,z1⟩ | ⟨l1,rfl⟩ <;> rcases hget t' th2 e2 with ⟨l2,z2⟩ | ⟨l2,rfl⟩
   ·exact Ph.apart t t' th1 th2 hne z1 z2
   ·exact apart_new th1 (List.mem_of_getElem? z1)
   ·exact (apart_new th2 (List.mem_of_getElem? z2)).symm
   ·omega
  ·rcases List.mem_append.1 hm' with z | z
   ·exact Ph.self th' z
   ·simp at z; subst z; rw [thg,tht,ths']; exact N.self
  ·rcases hget t' th' e with ⟨l1,z1⟩ | ⟨l1,_⟩
   ·have hm':=List.mem_of_getElem? z1
    refine ⟨T5 th' hm',fun o ho=>?_⟩
    rw [List.getElem?_append_left (by rw [hlen]; exact l1)] at ho
    exact ((Ph.ts t' th' o z1 ho).up (Ph.tb th' hm').gW u).at (gW4 hm') a
   ·omega
  ·rw [List.getElem?_append_right (Nat.le_refl _)]; simp
  ·rw [List.getElem?_append_right (by omega),hlen]; simp
  ·obtain ⟨z1,z2,z3,z4,z5⟩:=Ph.pv b o e
   obtain ⟨y1,y2,y3⟩:=N.pv b o e
   refine ⟨by rw [A5.heap b z3]; exact z1,by rw [H5]; exact z2,by rw [W5]; exact z3,fun th' hm'=>?_,fun i x ex=>by rw [St5]; exact z5 i x ex⟩
   rcases List.mem_append.1 hm' with z | z
   ·exact z4 th' z
   ·simp at z; subst z
    rw [thbl]
    simp [y1,y2,y3]
  ·by_cases hl:t < st.length
   ·rw [List.getElem?_append_left hl] at e
    exact ⟨hSO.mono _ _ _ _ hI hso (by rw [(Ph.fits t m ℓ e).2,← hlen]; exact hl) (Ph.fits t m ℓ e).1,(Ph.fits t m ℓ e).2⟩
   ·rw [List.getElem?_append_right (by omega)] at e
    have h0:t - st.length=0:=by
     have:=(List.getElem?_eq_some_iff.1 e).1
     simp at this; omega
    rw [h0] at e
    cases o with
    | none=>simp at e
    | some y =>
      simp only [Option.map_some,List.getElem?_cons_zero,Option.some.injEq,Prod.mk.injEq] at e
      rw [← e.2]
      have z:=hSO.fresh _ _ _ hI hso
      exact ⟨z.1,by rw [z.2]; omega⟩
end
section
variable {σ Λ:Type} {D:Prot σ Λ} {Pv:Nat→Option Obj} {h rb:Nat} {E0 E:Env} {w0 w:World} {ths:List Th} {st:List (Option (Nat × Λ))} {s:σ} {F:Machine→Trace→Prop} {n N:Nat} {gv v:Value} {c:Frame} {cl:List Frame} {T:Array Value} {start:σ→σ × Option Λ→Prop}
theorem run_hire_step {ba bo bcap:Nat} (Ph:Phase D h rb E0 w0 Pv ths st s 0 E w) (hw0:∀ x,E0.wg x≠some rb) (hgs:GS w0 gv Pv ths) (hi:ths.length < N) (hN8:N≤8) (R:RegsA T rb gv N ths.length (.slice (some ⟨ba,bo,none⟩) N bcap)) (hb:w.cell? ⟨ba,bo+ths.length,none⟩=some v) (hbW:E.W ba=false) (hBorn:BornV D ths.length n start v) (hSO:StartOk D ths.length start) (hI:D.init ths.length s)
  (hcont:∀ s' o E' w' T' Pv' gv' th,start s (s',o)→Phase D h rb E0 w0 Pv' (ths ++ [th]) (st ++ [o.map (fun ℓ=>(n,ℓ))]) s' 0 E' w'→GS w0 gv' Pv' (ths ++ [th])→RegsA T' rb gv' N (ths.length+1) (.slice (some ⟨ba,bo,none⟩) N bcap)→Keep4 T T'→HG Try.prog h F E' (G ((base 29).at ⟨T',[]⟩ hdA) (c :: cl)) w') :
  HG Try.prog h F E (G ((base 29).at ⟨T,[]⟩ hdA) (c :: cl)) w:=by
 refine HG.withH fun hWH hWS=>HG.withB fun hB hSl hCl=>?_
 obtain ⟨gb1,gb2⟩:=gs_block hgs
 have hPn:∀ b o,Pv b=some o→w0.heap.size≤b:=fun b o e=>(gb2 b o e).2.1
 refine hire_gate R hi hb hbW (fun E1 w1 w1' ct cs T1 a1 G1 R1 t10 t11 k1=>?_)
 have Ph1:=Ph.at hWH a1
 have sz1:w1.heap.size=w.heap.size:=a1.2.size
 have hWH1:∀ b,E1.W b=true→E1.H b=some 1:=fun b e=>by rw [a1.1.H']; exact hWH b (by rw [← a1.1.W']; exact e)
 have hB1:∀ b,w1.heap.size≤b→E1.H b=none:=fun b hb=>by rw [a1.1.H']; exact hB b (by rw [← sz1]; exact hb)
 have hS1:∀ i a,E1.St i a≠none→a.block < w1.heap.size:=fun i a e=>by rw [sz1]; exact hSl i a (by rw [← a1.1.St']; exact e)
 have hC1:∀ x c home,E1.role x=.seat c home→c < w1.heap.size:=fun x c home e=>by rw [sz1]; exact hCl x c home ((a1.1.seat x c home).2 e)
 have hW1n:∀ b,w1.heap.size≤b→E1.W b=false:=fun b hb=>by
  cases e:E1.W b with
  | false=>rfl
  | true=>have:=hWH1 _ e; rw [hB1 _ hb] at this; cases this
 have hPv1:∀ b o,Pv b=some o→b < w1.heap.size:=fun b o e=>(Array.getElem?_eq_some_iff.1 (Ph1.pv b o e).1).1
 have hid:w1.heap.size≤ct∧w1.heap.size≤cs∧ct≠cs∧ct≠w1.heap.size+2∧cs≠w1.heap.size+2∧ct < w1.heap.size+3∧cs < w1.heap.size+3:=by
  rcases G1.ids with ⟨rfl,rfl⟩ | ⟨rfl,rfl⟩ <;> refine ⟨?_,?_,?_,?_,?_,?_,?_⟩ <;> omega
 obtain ⟨d1,d2,d3,d4,d5,d6,d7⟩:=hid
 refine hire_hide Ph1 hPn hWH1 hB1 hS1 G1 rfl rfl (fun Ph2=>?_)
 have H2:∀ b,({ E1 with H:=fun b=>if b=ct∨b=cs then some 0 else if b=w1.heap.size+2 then some 1 else E1.H b,St:=upd E1.St h fun a=>if a=⟨w1.heap.size+2,2,none⟩ then some (.chan (some cs)) else E1.St h a }:Env).H b=if b=ct∨b=cs then some 0 else if b=w1.heap.size+2 then some 1 else E1.H b:=fun b=>rfl
 have S2h:({ E1 with H:=fun b=>if b=ct∨b=cs then some 0 else if b=w1.heap.size+2 then some 1 else E1.H b,St:=upd E1.St h fun a=>if a=⟨w1.heap.size+2,2,none⟩ then some (.chan (some cs)) else E1.St h a }:Env).St h ⟨w1.heap.size+2,2,none⟩=some (.chan (some cs)):=by
  show upd E1.St h _ h _=_
  rw [upd_same]
  exact if_pos rfl
 have S2n:∀ i a,({ E1 with H:=fun b=>if b=ct∨b=cs then some 0 else if b=w1.heap.size+2 then some 1 else E1.H b,St:=upd E1.St h fun a=>if a=⟨w1.heap.size+2,2,none⟩ then some (.chan (some cs)) else E1.St h a }:Env).St i a≠none→a.block < w1.heap.size∨a=⟨w1.heap.size+2,2,none⟩:=fun i a e=>by
  have e':upd E1.St h (fun a=>if a=⟨w1.heap.size+2,2,none⟩ then some (.chan (some cs)) else E1.St h a) i a≠none:=e
  by_cases hx:i=h
  ·subst hx
   rw [upd_same] at e'
   by_cases ha:a=⟨w1.heap.size+2,2,none⟩
   ·exact .inr ha
   ·exact .inl (hS1 _ a (by simpa [ha] using e'))
  ·rw [upd_ne _ _ hx] at e'; exact .inl (hS1 i a e')
 have W2:({ E1 with H:=fun b=>if b=ct∨b=cs then some 0 else if b=w1.heap.size+2 then some 1 else E1.H b,St:=upd E1.St h fun a=>if a=⟨w1.heap.size+2,2,none⟩ then some (.chan (some cs)) else E1.St h a }:Env).W=E1.W:=rfl
 have role2:({ E1 with H:=fun b=>if b=ct∨b=cs then some 0 else if b=w1.heap.size+2 then some 1 else E1.H b,St:=upd E1.St h fun a=>if a=⟨w1.heap.size+2,2,none⟩ then some (.chan (some cs)) else E1.St h a }:Env).role=E1.role:=rfl
 generalize ({ E1 with H:=fun b=>if b=ct∨b=cs then some 0 else if b=w1.heap.size+2 then some 1 else E1.H b,St:=upd E1.St h fun a=>if a=⟨w1.heap.size+2,2,none⟩ then some (.chan (some cs)) else E1.St h a }:Env)=E2 at Ph2 H2 S2h S2n W2 role2 ⊢
 have H2old:∀ b,b < w1.heap.size→E2.H b=E1.H b:=fun b hb=>by rw [H2,if_neg (by omega),if_neg (by omega)]
 have hWH2:∀ b,E2.W b=true→E2.H b=some 1:=fun b e=>by
  rw [W2] at e
  have hl:b < w1.heap.size:=Nat.lt_of_not_le fun hle=>by rw [hW1n b hle] at e; cases e
  rw [H2old b hl]; exact hWH1 b e
 have hB2:∀ b,w1.heap.size+3≤b→E2.H b=none:=fun b hb=>by rw [H2,if_neg (by omega),if_neg (by omega)]; exact hB1 b (by omega)
 refine HG.show (H':=fun b=>if (Pv b).isSome then none else E2.H b) (fun b m e=>?_) (fun b e=>?_) Ph2.role ?_
 ·by_cases hp:(Pv b).isSome=true
  ·rw [if_pos hp] at e; cases e
  ·rw [if_neg hp] at e; exact e
 ·by_cases hp:(Pv b).isSome=true
  ·obtain ⟨o,ho⟩:=Option.isSome_iff_exists.1 hp
   obtain ⟨p1,p2,p3,p4,p5⟩:=Ph2.pv b o ho
   obtain ⟨_,_,cc,hcc⟩:=gb2 b o ho
   exact .inr ⟨⟨cc,49,(0,0),by rw [p1,hcc]⟩,p3,p5⟩
  ·rw [if_neg hp] at e; exact .inl e
 refine hire_append (Pv:=Pv) (ths:=ths) (w0:=w0) R1 t11 hgs (fun b o e=>?_) (Nat.le_trans Ph1.base.size G1.size) (by omega) (fun E3 w3 w3' gv' T2 a3 L3 R3 u10 u11 k2=>?_)
 ·obtain ⟨p1,p2,p3,p4,p5⟩:=Ph2.pv b o e
  exact ⟨p1,if_pos (by rw [e]; rfl),p3⟩
 obtain ⟨a3v,hH3⟩:=a3.virt
 have Ph3:=Ph2.at hWH2 a3v
 obtain ⟨g,cap,cur,e1,e2,e3,e4,e5,e6,e7,e8⟩:=L3.row
 have sz3:w3.heap.size=w1.heap.size+3:=a3.2.size.trans G1.sz
 have W3:E3.W=E1.W:=a3.1.W'.trans W2
 have St3:E3.St=E2.St:=a3.1.St'
 have hg1:w3.heap.size≤g∨∃ o,Pv g=some o:=e4
 have gne:g≠w1.heap.size+2∧g≠ct∧g≠cs:=by
  rcases hg1 with z | ⟨o,z⟩
  ·omega
  ·have:=hPv1 g o z; omega
 have hPvne:∀ b,w1.heap.size≤b→Pv b=none:=fun b hb=>by
  cases e:Pv b with
  | none=>rfl
  | some o=>have:=hPv1 b o e; omega
 show HG Try.prog h F { ({ E3 with H:=E2.H }:Env) with H:=E3.H } _ _
 refine list_hide (cap:=cap) (Ev:={ E3 with H:=E2.H }) (Hr:=E3.H) (w:=w3) (gv':=gv') Ph3 hPn (fun b e=>by show E2.H b=some 1; exact hWH2 b (by rw [W2,← W3]; exact e)) (fun b hb=>hB2 b (by omega)) (fun i a e=>by
   rw [sz3]
   rcases S2n i a (by rw [← St3]; exact e) with z | z
   ·omega
   ·rw [z]; show w1.heap.size+2 < w1.heap.size+3; omega) ⟨L3.size,L3.old,L3.oldW,L3.row,L3.cells⟩ e2 hg1 (fun b m e=>?_) (fun b m e=>?_) rfl (fun Ph4=>?_)
 ·rw [hH3] at e
  have e':(if (Pv b).isSome then none else E2.H b)=some m:=e
  by_cases hp:(Pv b).isSome=true
  ·rw [if_pos hp] at e'; cases e'
  ·rw [if_neg hp] at e'; exact e'
 ·rw [hH3]
  by_cases hp:(Pv b).isSome=true
  ·exact .inr (Option.isSome_iff_exists.1 hp)
  ·exact .inl ((if_neg hp).trans e)
 have H4:∀ b,({ ({ E3 with H:=E2.H }:Env) with H:=fun b=>if b=g then some 0 else E2.H b,St:=upd E3.St h (E3.St h) }:Env).H b=if b=g then some 0 else E2.H b:=fun b=>rfl
 have W4:({ ({ E3 with H:=E2.H }:Env) with H:=fun b=>if b=g then some 0 else E2.H b,St:=upd E3.St h (E3.St h) }:Env).W=E1.W:=W3
 have St4:({ ({ E3 with H:=E2.H }:Env) with H:=fun b=>if b=g then some 0 else E2.H b,St:=upd E3.St h (E3.St h) }:Env).St=E2.St:=by
  show upd E3.St h (E3.St h)=E2.St
  rw [← St3]
  funext x
  by_cases hx:x=h
  ·subst hx; rw [upd_same]
  ·rw [upd_ne _ _ hx]
 have seat4:∀ x c home,({ ({ E3 with H:=E2.H }:Env) with H:=fun b=>if b=g then some 0 else E2.H b,St:=upd E3.St h (E3.St h) }:Env).role x=.seat c home→c < w1.heap.size:=fun x c home e=>hC1 x c home (by rw [← role2]; exact (a3.1.seat x c home).2 e)
 have Ph4':Phase D h rb E0 w0 (fun b=>if b=g then some (.cells cur 49) else none) ths st s 0 ({ ({ E3 with H:=E2.H }:Env) with H:=fun b=>if b=g then some 0 else E2.H b,St:=upd E3.St h (E3.St h) }:Env) w3':=Ph4
 show HG Try.prog h F ({ ({ E3 with H:=E2.H }:Env) with H:=fun b=>if b=g then some 0 else E2.H b,St:=upd E3.St h (E3.St h) }:Env) _ _
 clear Ph4
 generalize ({ ({ E3 with H:=E2.H }:Env) with H:=fun b=>if b=g then some 0 else E2.H b,St:=upd E3.St h (E3.St h) }:Env)=E4 at Ph4' H4 W4 St4 seat4 ⊢
 have hWnew:∀ b,w1.heap.size≤b→E4.W b=false:=fun b hb=>by rw [W4]; exact hW1n b hb
 have hheap:∀ b,w1.heap.size≤b→b < w1.heap.size+3→w3'.heap[b]?=w1'.heap[b]?:=fun b h1 h2=>by
  rw [L3.old b (by omega) (hPvne b h1) (by rw [W3]; exact hW1n b h1)]
  exact a3.2.heap b (by show E2.W b=false; rw [W2]; exact hW1n b h1)
 have hWH4:∀ b,E4.W b=true→E4.H b=some 1:=fun b e=>by
  have hl:b < w1.heap.size:=Nat.lt_of_not_le fun hle=>by rw [hWnew b hle] at e; cases e
  have e':E2.W b=true:=by rw [W2,← W4]; exact e
  rw [H4,if_neg (fun z=>by
   subst z
   rcases hg1 with z | ⟨o,z⟩
   ·omega
   ·have:=(Ph2.pv b o z).2.2.1; rw [e'] at this; cases this)]
  exact hWH2 b e'
 have NG:NewG h rb w0 ths (fun b=>if b=g then some (.cells cur 49) else none) E4 w3' (w1.heap.size+2) ct cs:=by
  refine ⟨by rw [hheap _ (by omega) (by omega)]; exact G1.gate,hWnew _ (by omega),by rw [H4,if_neg (fun z=>gne.1 z.symm),H2,if_neg (by omega),if_pos rfl],by rw [H4,if_neg (fun z=>gne.2.1 z.symm),H2,if_pos (.inl rfl)],hWnew _ d1,⟨0,by rw [hheap _ d1 d6]; exact G1.ctC⟩,by rw [H4,if_neg (fun z=>gne.2.2 z.symm),H2,if_pos (.inr rfl)],hWnew _ d2,⟨0,by rw [hheap _ d2 d7]; exact G1.csC⟩,by rw [St4]; exact S2h,fun i o ho=>?_,fun x home e=>by have:=seat4 x _ _ e; omega,fun x home e=>by have:=seat4 x _ _ e; omega,?_,⟨d4.symm,d5.symm,d3⟩,fun th hm b hbl=>?_,fun b o e=>?_⟩
  ·rw [St4]
   cases e:E2.St i ⟨w1.heap.size+2,o,none⟩ with
   | none=>rfl
   | some v =>
     rcases S2n i _ (by rw [e]; simp) with z | z
     ·have z':w1.heap.size+2 < w1.heap.size:=z
      omega
     ·have:o=2:=congrArg Addr.off z
      omega
  ·have:=Ph1.base.size; omega
  ·have Tb:=Ph1.tb th hm
   obtain ⟨k1,c1⟩:=Tb.ctC
   obtain ⟨k2,c2⟩:=Tb.csC
   have l1:=(Array.getElem?_eq_some_iff.1 c1).1
   have l2:=(Array.getElem?_eq_some_iff.1 c2).1
   have l3:=Tb.gL
   simp only [Th.bl,List.mem_cons,List.not_mem_nil,or_false] at hbl
   omega
  ·by_cases hbg:b=g
   ·subst hbg; exact gne
   ·have e':(none:Option Obj)=some o:=(if_neg hbg).symm.trans e
    cases e'
 have hcnt:∀ m,cnt E4 m rb+E4.ex rb < 1000:=fun m=>by
  have h1:=cnt_bound (E:=E4) (b:=rb) m (ths.map (·.j)) (fun x _ hx=>by
   by_cases hJ:∃ th ∈ ths,x=th.j
   ·obtain ⟨th,hm,rfl⟩:=hJ
    exact List.mem_map.2 ⟨th,hm,rfl⟩
   ·exact absurd (Ph4'.base.wg x rb hJ hx) (hw0 x))
  rw [List.length_map] at h1
  rw [Ph4'.ex]
  omega
 refine hire_go (gb:=w1.heap.size+2) (cs:=cs) (kc:=0) (v:=v) (S:=kidS (w1.heap.size+2) ct) (Pred:=fun E' w'=>∃ th s' o,th.gb=w1.heap.size+2∧start s (s',o)∧Phase D h rb E0 w0 (fun b=>if b=g then some (.cells cur 49) else none) (ths ++ [th]) (st ++ [o.map (fun ℓ=>(n,ℓ))]) s' 0 E' w') R3 hi hN8 (u10.trans t10) (u11.trans t11) Ph4'.rW (Ph4'.base.mode rb) hcnt NG.stS (by rw [hheap _ d2 d7]; exact G1.csC) NG.csW NG.csH (fun x home _=>NG.noS x home) (fun a x e=>?_)
  (fun E5 w5 E6 w6 j b₀ a₀ ops₀ i₀ rest₀ k₀ cl' u a q1 q2 q3 q4 q5 hret=>hire_child Ph4' hWH4 NG hBorn hSO hI u a q1 q2 q3 q4 q5 hret) (fun E' w' T' ⟨th,s',o,hth,hso,P⟩ R' k'=>?_)
 ·unfold kidS at e
  by_cases ha:a=⟨w1.heap.size+2,1,none⟩
  ·subst ha
   rw [if_pos rfl] at e
   obtain rfl:=Option.some.inj e
   exact ⟨obj_cell NG.ga rfl,NG.gW,1,NG.gH,Nat.le_refl _⟩
  ·rw [if_neg ha] at e; cases e
 ·refine hcont s' o E' w' T' _ gv' th hso P (.inr ⟨g,cap,cur,by rw [List.length_append]; exact e1,rfl,e3,by rw [List.length_append]; exact e5,e6,e7,?_⟩) R' ((k1.trans k2).trans k')
  rw [List.length_append,List.map_append]
  have:[th].length=1:=rfl
  rw [this,e8]
  simp [hth]
end
end Go.Proofs.Ytimlbbleblijnaa.Co

namespace Go.Proofs.Ytimlbbleblijnaa.Co
open Go Go.Conc
noncomputable def xHire:Code:=rHire
section
variable {σ Λ:Type}
structure Body (σ Λ:Type) where
 v:Value
 n:Nat
 start:σ→σ × Option Λ→Prop
inductive StartR:List (Body σ Λ)→List (Option (Nat × Λ)) × σ→List (Option (Nat × Λ)) × σ→Prop
 | nil (x):StartR [] x x
 | cons {b l x s' o x'} (h:b.start x.2 (s',o)) (t:StartR l (x.1 ++ [o.map (fun ℓ=>(b.n,ℓ))],s') x'):StartR (b :: l) x x'
end
section
variable {σ Λ:Type} {D:Prot σ Λ} {Pv:Nat→Option Obj} {h rb:Nat} {E0 E:Env} {w0 w:World} {ths:List Th} {st:List (Option (Nat × Λ))} {s:σ} {F:Machine→Trace→Prop} {n N:Nat} {gv v:Value} {c:Frame} {cl:List Frame} {T:Array Value}
theorem run_hire_end {bv:Value} (R:RegsA T rb gv N N bv) (hc:∀ T',T'.size=121→T'[8]?=some gv→Keep4 T T'→HG Try.prog h F E (G ((base 29).at ⟨T',[]⟩ [.code rB]) (c :: cl)) w) :
  HGn Try.prog h F E w 100 (G ((base 29).at ⟨T,[]⟩ hdA) (c :: cl)):=by
 obtain ⟨hT,t7,t8,t25,t26,t27⟩:=R
 obtain ⟨f,rfl⟩:=arr121f T hT
 clear hT
 simp only [R121_get f (show 7 < 121 by decide),R121_get f (show 8 < 121 by decide),R121_get f (show 25 < 121 by decide),R121_get f (show 26 < 121 by decide),R121_get f (show 27 < 121 by decide),Option.some.injEq] at t7 t8 t25 t26 t27
 have q1:decide ((N:Int) < (N:Int))=false:=decide_eq_false (by omega)
 change HGn Try.prog h F E w 100 (G ((base 29).at _ [.code xA,.inLoop rA,.inBlock 0,.code rB]) (c :: cl))
 generalize hLA:rA=LA
 generalize hLB:rB=LB at hc ⊢
 simp only [xA,rA,rHire,rBody,Try.f29,Option.getD_some,R121,t7,t8,t25,t26,t27]
 refine Idl.q (idl_hg Try.prog h F E w) (Idl.rg (idl_hg Try.prog h F E w) [0] rfl ?_)
 refine Idl.v (idl_hg Try.prog h F E w) ?_
 walk_nrm
 refine Idl.re (idl_hg Try.prog h F E w) (Idl.q (idl_hg Try.prog h F E w) (Idl.cf (idl_hg Try.prog h F E w) rfl (Idl.exit (idl_hg Try.prog h F E w) rfl ?_)))
 refine hc _ (by simp) (by simp) (fun x hx=>?_)
 rcases hx with rfl | rfl | rfl | rfl <;> first | rfl | simp [R121,t7]
theorem run_mid {np pcap:Nat} {pa:Option Addr} (hgs:GS w0 gv Pv ths) (hn:ths.length=n) (hN:0 < n) (hT:T.size=121) (t8:T[8]?=some gv) (t1:T[1]?=some (.slice pa np pcap))
  (hc:∀ T',T'.size=121→T'[8]?=some gv→T'[12]?=some (.int .i64 (n:Int))→T'[53]?=some (.slice pa np pcap)→T'[54]?=some (.int .i64 (np:Int))→T'[55]?=some (.int .i64 ((0:Nat):Int))→Keep4 T T'→HG Try.prog h F E (G ((base 29).at ⟨T',[]⟩ [.code rC,.inLoop rC,.inBlock 2,.code rD]) (c :: cl)) w) :
  HGn Try.prog h F E w 100 (G ((base 29).at ⟨T,[]⟩ [.code rB]) (c :: cl)):=by
 obtain ⟨f,rfl⟩:=arr121f T hT
 clear hT
 simp only [R121_get f (show 8 < 121 by decide),R121_get f (show 1 < 121 by decide),Option.some.injEq] at t8 t1
 obtain ⟨g,gcap,cur,rfl,hPg,hcur⟩:=hgs.row (by omega)
 rw [hn] at t8
 have q1:((n:Int) == 0)=false:=by simp; omega
 have q2:decide ((n:Int)=0)=false:=decide_eq_false (by omega)
 have q3:n≠0:=by omega
 change HGn Try.prog h F E w 100 (G ((base 29).at _ [.code xB]) (c :: cl))
 simp only [xB,rB,rHire,rBody,Try.f29,Option.getD_some,R121,t8,t1]
 refine Idl.q (idl_hg Try.prog h F E w) (Idl.rg (idl_hg Try.prog h F E w) [0,1,2] rfl ?_)
 refine Idl.v (idl_hg Try.prog h F E w) ?_
 walk_nrm
 refine Idl.value (v:=.int .i64 (n:Int)) (idl_hg Try.prog h F E w) rfl rfl (by k_ne) (fun w=>by simp [go_sem]) (fun w=>by simp [go_sem]) ?_
 walk_nrm
 refine Idl.v (idl_hg Try.prog h F E w) ?_
 walk_nrm
 refine Idl.re (idl_hg Try.prog h F E w) (Idl.q (idl_hg Try.prog h F E w) (Idl.q (idl_hg Try.prog h F E w) (Idl.rg (idl_hg Try.prog h F E w) [0,1] rfl ?_)))
 iterate 2 (refine Idl.v (idl_hg Try.prog h F E w) ?_; walk_nrm)
 refine Idl.re (idl_hg Try.prog h F E w) (Idl.cf (idl_hg Try.prog h F E w) rfl (Idl.sk (idl_hg Try.prog h F E w) (Idl.q (idl_hg Try.prog h F E w) (Idl.q (idl_hg Try.prog h F E w) (Idl.rg (idl_hg Try.prog h F E w) [0,1,2] rfl ?_)))))
 refine Idl.v (idl_hg Try.prog h F E w) ?_
 walk_nrm
 refine Idl.value (v:=.int .i64 (np:Int)) (idl_hg Try.prog h F E w) rfl rfl (by k_ne) (fun w=>by simp [go_sem]) (fun w=>by simp [go_sem]) ?_
 walk_nrm
 refine Idl.v (idl_hg Try.prog h F E w) ?_
 walk_nrm
 refine Idl.re (idl_hg Try.prog h F E w) ?_
 refine Idl.bl (idl_hg Try.prog h F E w) ?_
 refine Idl.lp (idl_hg Try.prog h F E w) ?_
 refine hc _ (by simp) (by simp [hn]) (by simp) (by simp) (by simp) (by simp) (fun x hx=>?_)
 rcases hx with rfl | rfl | rfl | rfl <;> first | rfl | simp [R121,t1]
theorem run_nobody {b₀:Frame} {a₀:Act} {ops₀:Array Oper} {i₀:Nat} {rest₀:List Nat} {k₀:List Item} (hT:T.size=121) (t8:T[8]?=some (.slice none 0 0))
  (hf:HG Try.prog h F E (G (b₀.at (a₀.put ((ops₀[i₀]?).bind (·.dst)) (.int .i64 0)) (.inRegion ops₀ rest₀ :: k₀)) cl) w) :
  HGn Try.prog h F E w 100 (G ((base 29).at ⟨T,[]⟩ [.code rB]) (b₀.at a₀ (.inRegion ops₀ (i₀ :: rest₀) :: k₀) :: cl)):=by
 obtain ⟨f,rfl⟩:=arr121f T hT
 clear hT
 simp only [R121_get f (show 8 < 121 by decide),Option.some.injEq] at t8
 change HGn Try.prog h F E w 100 (G ((base 29).at _ [.code xB]) (b₀.at a₀ (.inRegion ops₀ (i₀ :: rest₀) :: k₀) :: cl))
 simp only [xB,rB,rHire,rBody,Try.f29,Option.getD_some,R121,t8]
 refine Idl.q (idl_hg Try.prog h F E w) (Idl.rg (idl_hg Try.prog h F E w) [0,1,2] rfl ?_)
 refine Idl.v (idl_hg Try.prog h F E w) ?_
 walk_nrm
 refine Idl.value (v:=.int .i64 0) (idl_hg Try.prog h F E w) rfl rfl (by k_ne) (fun w=>by simp [go_sem]) (fun w=>by simp [go_sem]) ?_
 walk_nrm
 refine Idl.v (idl_hg Try.prog h F E w) ?_
 walk_nrm
 refine Idl.re (idl_hg Try.prog h F E w) (Idl.q (idl_hg Try.prog h F E w) (Idl.q (idl_hg Try.prog h F E w) (Idl.rg (idl_hg Try.prog h F E w) [0,1] rfl ?_)))
 iterate 2 (refine Idl.v (idl_hg Try.prog h F E w) ?_; walk_nrm)
 refine Idl.re (idl_hg Try.prog h F E w) (Idl.ct (idl_hg Try.prog h F E w) rfl (Idl.q (idl_hg Try.prog h F E w) (Idl.rg (idl_hg Try.prog h F E w) [0] rfl ?_)))
 refine Idl.v (idl_hg Try.prog h F E w) ?_
 walk_nrm
 refine Idl.re (idl_hg Try.prog h F E w) (Idl.rt (idl_hg Try.prog h F E w) ?_)
 refine Idl.leave1 (n:=1) (idl_hg Try.prog h F E w) rfl rfl Try.func29 rfl ?_
 exact hf
theorem run_hire {ba bo bcap:Nat} {bv:Value} {bs:List (Body σ Λ)} (hbv:bs≠[]→bv=.slice (some ⟨ba,bo,none⟩) bs.length bcap) (hN8:bs.length≤8) (hw0:∀ x,E0.wg x≠some rb) (hBod:∀ s E w,D.M s E w→∀ i b,bs[i]?=some b→w.cell? ⟨ba,bo+i,none⟩=some b.v∧E.H ba=none) (hBorn:∀ (i:Nat) (b:Body σ Λ),bs[i]?=some b→BornV D i b.n b.start b.v) (hSO:∀ (i:Nat) (b:Body σ Λ),bs[i]?=some b→StartOk D i b.start) (l:List (Body σ Λ)) :
  ∀ (ths:List Th) (Pv:Nat→Option Obj) (gv:Value) (x:List (Option (Nat × Λ)) × σ) (T:Array Value) (E:Env) (w:World),bs.drop ths.length=l→ths.length≤bs.length→D.init ths.length x.2→Phase D h rb E0 w0 Pv ths x.1 x.2 0 E w→GS w0 gv Pv ths→RegsA T rb gv bs.length ths.length bv →
   (∀ x' E' w' T' Pv' gv' ths',StartR l x x'→ths'.length=bs.length→Phase D h rb E0 w0 Pv' ths' x'.1 x'.2 0 E' w'→GS w0 gv' Pv' ths'→T'.size=121→T'[8]?=some gv'→Keep4 T T'→HG Try.prog h F E' (G ((base 29).at ⟨T',[]⟩ [.code rB]) (c :: cl)) w') →
   HG Try.prog h F E (G ((base 29).at ⟨T,[]⟩ hdA) (c :: cl)) w:=by
 induction l with
 | nil =>
   intro ths Pv gv x T E w hd hi hI Ph hgs R hcont
   have hl:ths.length=bs.length:=by
    have:=congrArg List.length hd
    simp at this; omega
   rw [hl] at R
   exact run_hire_end R (fun T' e1 e2 e3=>hcont x E w T' Pv gv ths (.nil x) hl Ph hgs e1 e2 e3)
 | cons b l ih =>
   intro ths Pv gv x T E w hd hi hI Ph hgs R hcont
   have hlt:ths.length < bs.length:=by
    have:=congrArg List.length hd
    simp at this; omega
   have hbi:bs[ths.length]?=some b:=by
    have:=congrArg (·[0]?) hd
    simpa using this
   have hne:bs≠[]:=fun e=>by rw [e] at hlt; simp at hlt
   obtain ⟨q1,q2'⟩:=hBod _ _ _ Ph.M _ b hbi
   refine HG.withH fun hWH _=>?_
   have q2:E.W ba=false:=by
    cases e:E.W ba with
    | false=>rfl
    | true=>have:=hWH ba e; rw [q2'] at this; cases this
   have hR:RegsA T rb gv bs.length ths.length (.slice (some ⟨ba,bo,none⟩) bs.length bcap):=by rw [← hbv hne]; exact R
   refine run_hire_step Ph hw0 hgs hlt hN8 hR q1 q2 (hBorn _ b hbi) (hSO _ b hbi) hI (fun s' o E' w' T' Pv' gv' th hso Ph' hgs' R' k4=>?_)
   refine ih (ths ++ [th]) Pv' gv' (x.1 ++ [o.map (fun ℓ=>(b.n,ℓ))],s') T' E' w' ?_ (by simp; omega) (by rw [List.length_append]; exact (hSO _ b hbi).init _ _ _ hI hso) Ph' hgs' (by rw [List.length_append,hbv hne]; exact R') (fun x'' E'' w'' T'' Pv'' gv'' ths'' zz z0 z1 z2 z3 z4 z5=>hcont x'' E'' w'' T'' Pv'' gv'' ths'' (.cons hso zz) z0 z1 z2 z3 z4 (Keep4.trans k4 z5))
   have:=congrArg List.tail hd
   simpa using this
end
end Go.Proofs.Ytimlbbleblijnaa.Co
