/- Lemmas for the laws of this seat, laid together of PWe, PWf, PIt, PGdf, PIu. -/
import Derived.Test.YtimlbbleblijnaaV18
import Derived.Test.YtimlbbleblijnaaV25
import Derived.Test.YtimlbbleblijnaaV26
import Derived.Test.YtimlbbleblijnaaV27
import Derived.Test.YtimlbbleblijnaaRows
import Derived.ProofKit
import Derived.SizedLaws
import Derived.ChangeArms
import Derived.ChangeSame
import Derived.Lib.SmallJoins
import Derived.OpenShut
import Derived.Deep.Strs

open Go.ConcR.Gen (base_kind baseD_kind)
set_option linter.unusedVariables false
set_option linter.unusedSimpArgs false
set_option maxRecDepth 100000
set_option maxHeartbeats 4000000
namespace Go.Proofs.Ytimlbbleblijnaa.Co
open Go Go.Conc Go.RowKit
open Go.ConcN (sumTo upd sumTo_upd upd_ne upd_same sumTo_congr le_sumTo)
structure InnC (E00:Env) (w00:World) (E:Env) (w:World) (C:Nat→Nat) (its:List (List Int)) (drain:Bool) (z:RA × Int) (tv pv ov:Value):Prop where
  st:Stands E00 w00 E w
  c5:w.cell? ⟨C 5,0,none⟩=some tv∧E.H (C 5)=none
  c6:w.cell? ⟨C 6,0,none⟩=some pv∧E.H (C 6)=none
  c7:w.cell? ⟨C 7,0,none⟩=some (.bool drain)∧E.H (C 7)=none
  c8:w.cell? ⟨C 8,0,none⟩=some ov∧E.H (C 8)=none
  c10:w.cell? ⟨C 10,0,none⟩=some (.int .i64 (rK its z))∧E.H (C 10)=none
  ov:TldV E w ov (rTl its z)
structure ApartW (w00:World) (C:Nat→Nat) (ov:Value):Prop where
  d:C 4≠C 9
  low:w00.heap.size≤C 4∧w00.heap.size≤C 9
  c:∀ m,(m=5∨m=6∨m=7∨m=8∨m=10)→C m≠C 4∧C m≠C 9
  o:∀ g,ov.ownBlock=some g→g≠C 4∧g≠C 9
theorem InnC.but {E00 E E':Env} {w00 w w':World} {C:Nat→Nat} {its:List (List Int)} {drain:Bool} {z:RA × Int} {tv pv ov:Value} (h:InnC E00 w00 E w C its drain z tv pv ov) {S:Nat→Prop} (hS:StandsBut S E w E' w') (hl:∀ b,b < w00.heap.size→¬ S b) (hC:∀ m,(m=5∨m=6∨m=7∨m=8∨m=10)→¬ S (C m)) (ho:∀ g,ov.ownBlock=some g→¬ S g):InnC E00 w00 E' w' C its drain z tv pv ov :=
  ⟨h.st.but hS hl,hS.cell h.c5.1 h.c5.2 (hC 5 (.inl rfl)),hS.cell h.c6.1 h.c6.2 (hC 6 (.inr (.inl rfl))),hS.cell h.c7.1 h.c7.2 (hC 7 (.inr (.inr (.inl rfl)))),hS.cell h.c8.1 h.c8.2 (hC 8 (.inr (.inr (.inr (.inl rfl))))),hS.cell h.c10.1 h.c10.2 (hC 10 (.inr (.inr (.inr (.inr rfl))))),h.ov.but hS ho⟩
theorem ApartW.n4 {w00:World} {C:Nat→Nat} {ov:Value} (A:ApartW w00 C ov) {E00 E E':Env} {w w':World} {its:List (List Int)} {drain:Bool} {z:RA × Int} {tv pv:Value} (h:InnC E00 w00 E w C its drain z tv pv ov) {S:Nat→Prop} (hS:StandsBut S E w E' w') (hs:∀ b,S b→b=C 4∨b=C 9):InnC E00 w00 E' w' C its drain z tv pv ov :=
  h.but hS (fun b hb e=>by rcases hs b e with z | z <;> (have:=A.low; omega)) (fun m hm e=>by rcases hs _ e with z | z; exact (A.c m hm).1 z; exact (A.c m hm).2 z) (fun g hg e=>by rcases hs _ e with z | z; exact (A.o g hg).1 z; exact (A.o g hg).2 z)
section
variable {j:Nat} {F:Machine→Trace→Prop} {E:Env} {w:World} {gp tv pv ov:Value} {C:Nat→Nat} {i:Nat} {k:List Item} {cs:List Frame}
theorem iw_inner {T:Array Value} {its:List (List Int)} {within:List Int} {drain:Bool} {z:RA × Int} {ta:Option Addr} {ba bo cap:Nat} {LA:Nat→Option Addr} {LC:Nat→Nat} {E00:Env} {w00:World} {n:Int} (R:RegW T gp C i) (I:InnC E00 w00 E w C its drain z tv pv ov) (A:ApartW w00 C ov)
    (htv:tv=.slice ta its.length cap) (hT:IntssL E00 w00 ta ba bo LA LC its) (hI:IntsAt E00 w00 pv within) (hn:its.length≤1000000000000) (hl:∀ l ∈ its,l.length≤100000000000) (hnp:within.length≤1000000000000000) (hp64:∀ p ∈ within,-9223372036854775808≤p∧p≤9223372036854775807) (hz:(runG its).Run within drain (ra0 its its.length) z) (hml:(rTl its z).length≤1000000000000)
    (hn4:w.heap[C 4]?=some (.cells #[.int .i64 n] 3)) (H4:E.H (C 4)=none) (h0:0≤n) (h3:n < 3) (h9:w.heap[C 9]?=some (.cells #[.bool true] 4)) (H9:E.H (C 9)=none) (hrole:E.role j=.gone) (hmode:∀ b,E.mode b=0)
    (hc:∀ E' w' T',RegW T' gp C i→Kept j none E w E' w'→StandsBut (fun b=>b=C 4∨b=C 9) E w E' w'→w'.heap[C 4]?=some (.cells #[.int .i64 (n+1)] 3)→E'.H (C 4)=none→w'.heap[C 9]?=some (.cells #[.bool true] 4)→E'.H (C 9)=none→HG Try.prog j F E' (G ((base 41).at ⟨T',[]⟩ k) cs) w') :
    HG Try.prog j F E (G ((base 41).at ⟨T,[]⟩ (.code iwIn :: k)) cs) w:=by
  rw [iwIn_parts]
  change HGn Try.prog j F E w 100 _
  refine Idl.step (idl_hg Try.prog j F E w) _ _ _ rfl (fun _=>stepG_seq) ?_
  refine HG.sstep (fun b=>b=C 4) (fun b e=>by rw [e]; exact H4) (closed_none _) (by kernel_rfl) (by rfl) (R:=fun T' x x'=>T'.size=73∧(∀ j,j < 16→T'[j]?=T[j]?)∧x'.heap[C 4]?=some (.cells #[.int .i64 (n+1)] 3)) (fun x hxs hx=>?_) (fun E1 w1 T1 x x' hK1 hH1 hxs hx hx' hS1 hR=>?_)
  · refine iwR5_wp R ((hx _ H4).trans hn4) h0 h3 (fun T' x' a1 a2 a3=>⟨rfl,rfl,fun b hb hne=>?_,a1,a2,?_⟩)
    · rw [a3]; exact heap_setCell_ne (a:=⟨C 4,0,none⟩) (fun e=>hne e.symm)
    · rw [a3]; exact heap_set (a:=⟨C 4,0,none⟩) (w:=x) rfl ((hx _ H4).trans hn4)
  obtain ⟨s1,o1,m1⟩:=hR
  have R1:=R.up s1 (fun j hj=>o1 j (by omega))
  have n1:w1.heap[C 4]?=some (.cells #[.int .i64 (n+1)] 3):=(hx' _ H4).trans m1
  have H41:E1.H (C 4)=none:=by rw [hH1]; exact H4
  obtain ⟨H91,g9⟩:=hS1 (C 9) _ A.d.symm H9 h9
  have I1:=A.n4 I hS1 (fun b e=>.inl e)
  clear hx hx' hxs m1
  change HGn Try.prog j F E1 w1 100 _
  refine Idl.step (idl_hg Try.prog j F E1 w1) _ _ _ rfl (fun _=>stepG_seq) ?_
  refine HG.fstep (closed_none _) (by kernel_rfl) (by rfl) (R:=fun T' x x'=>T'.size=73∧(∀ j,j < 13→T'[j]?=T1[j]?)∧T'[13]?=some (.pointer (some ⟨x.heap.size,0,none⟩))∧x'.heap[x.heap.size]?=some (.cells #[.slice none 0 0] 63)) (fun x hxs hx=>?_) (fun E2 w2 T2 x x' hK2 hH2 hxs hx hx' hB2 hS2 hR=>?_)
  · refine iwR6_wp R1 (fun T' x' a1 a2 a3 a4=>⟨rfl,rfl,fun b hb=>?_,a1,a2,a3,?_⟩)
    · rw [a4]; exact alloc_old hb
    · rw [a4]; exact alloc_new
  obtain ⟨s2,o2,r13,m2⟩:=hR
  rw [hxs] at r13 m2
  have R2:=R1.up s2 o2
  have hcbH:E2.H w1.heap.size=none:=by rw [hH2]; exact hB2 _ (Nat.le_refl _)
  have hcb:w2.heap[w1.heap.size]?=some (.cells #[.slice none 0 0] 63):=(hx' _ (hB2 _ (Nat.le_refl _))).trans m2
  obtain ⟨H42,n2⟩:=hS2 _ _ H41 n1
  obtain ⟨H92,k9⟩:=hS2 _ _ H91 g9
  have I2:=A.n4 I1 (StandsBut.of (S:=fun b=>b=C 4) hS2) (fun b e=>.inl e)
  have hsz:w.heap.size≤w1.heap.size:=hK1.size
  have h4l:=(Array.getElem?_eq_some_iff.1 n1).1
  have h9l:=(Array.getElem?_eq_some_iff.1 g9).1
  have hCl:∀ m,(m=5∨m=6∨m=7∨m=8∨m=10)→C m≠w1.heap.size:=fun m hm=>by
    have l5:=World.block_lt_of_cell? w1 _ I1.c5.1
    have l6:=World.block_lt_of_cell? w1 _ I1.c6.1
    have l7:=World.block_lt_of_cell? w1 _ I1.c7.1
    have l8:=World.block_lt_of_cell? w1 _ I1.c8.1
    have l10:=World.block_lt_of_cell? w1 _ I1.c10.1
    dsimp only at l5 l6 l7 l8 l10
    rcases hm with rfl | rfl | rfl | rfl | rfl <;> omega
  have h00:w00.heap.size≤w1.heap.size:=by have:=A.low; omega
  obtain ⟨pa,pb,po,pcap,hpv,hpa,hps⟩:=(hI.stands I2.st).at_
  have hps0:=hI.at_
  clear hx hx' hxs m2 hB2
  change HGn Try.prog j F E2 w2 100 _
  refine Idl.step (idl_hg Try.prog j F E2 w2) _ _ _ rfl (fun _=>stepG_seq) ?_
  refine iw_r7 (pb:=pb) (po:=po) (cb:=w1.heap.size) R2 r13 I2.c5.1 I2.c5.2 I2.c6.1 I2.c6.2 I2.c7.1 I2.c7.2 htv (hT.stands I2.st) (fun m l hm=>⟨?_,fun hne a ha=>?_⟩) hcb hcbH hpv hpa (fun hne=>?_) hps hn hl hnp hp64 hz ((hK1.trans hK2).le.roleH.trans hrole) (fun b=>(hK1.trans hK2).le.mode b (hmode b)) (fun E3 w3 T3 mv hK3 hS3 R3 q13 q14 hb3 hb3H hM=>?_)
  · have:=hT.lt hm
    omega
  · obtain ⟨la,lo,e1,e2,e3⟩:=hT.ops m l hm hne
    rw [ha] at e1
    cases e1
    cases l with
    | nil=>exact absurd rfl hne
    | cons c r =>
      have:=World.block_lt_of_cell? w00 _ (e3 0 c rfl)
      dsimp only at this ⊢
      omega
  · obtain ⟨pa',pb',po',pcap',hpv',hpa',hps'⟩:=hps0
    rw [hpv] at hpv'
    cases within with
    | nil=>exact absurd rfl hne
    | cons p r =>
      have e1:=hpa hne
      have e2:=hpa' hne
      simp only [Value.slice.injEq] at hpv'
      rw [hpv'.1,e2] at e1
      cases e1
      have:=World.block_lt_of_cell? w00 _ (hps' 0 p rfl).1
      dsimp only at this
      omega
  have I3:=I2.but hS3 (fun b hb e=>by omega) (fun m hm e=>hCl m hm e) (fun g hg e=>by have:=(I1.ov.row.lt g hg).2; omega)
  obtain ⟨H43,n3⟩:=hS3 _ _ (by omega) H42 n2
  obtain ⟨H93,k93⟩:=hS3 _ _ (by omega) H92 k9
  change HGn Try.prog j F E3 w3 100 _
  refine Idl.step (idl_hg Try.prog j F E3 w3) _ _ _ rfl (fun _=>stepG_seq) ?_
  refine HG.fstep closed_rn (by kernel_rfl) (by rfl) (R:=fun T' x x'=>T'.size=73∧(∀ j,j < 15→T'[j]?=T3[j]?)∧T'[15]?=some (.bool true)) (fun x hxs hx=>?_) (fun E4 w4 T4 x x' hK4 hH4 hxs hx hx' hB4 hS4 hR=>?_)
  · have hcx:x.cell? ⟨w1.heap.size,0,none⟩=some mv:=obj_cell ((hx _ hb3H).trans hb3) rfl
    have hco:x.cell? ⟨C 8,0,none⟩=some ov:=(World.cell?_of_block (a:=⟨C 8,0,none⟩) (hx _ I3.c8.2)).trans I3.c8.1
    refine iwR8_wp R3 q13 q14 hcx hco (fun y hy=>?_) (fun T' x' a1 a2 a3 a4=>⟨rfl,rfl,fun b hb=>by rw [a4],a1,a2,a3⟩)
    have hh:y.heap=x.heap:=by rcases hy with rfl | rfl <;> rfl
    exact told_same (TldAt.of_owns (ownsRow_same (hM.toX hx) (fun _ _=>by rw [hh]))) (TldAt.of_owns (ownsRow_same (I3.ov.toX hx) (fun _ _=>by rw [hh]))) hml
  obtain ⟨s4,o4,r15⟩:=hR
  have R4:=R3.up s4 (fun j hj=>o4 j (by omega))
  have r14:=(o4 14 (by decide)).trans q14
  have I4:=A.n4 I3 (StandsBut.of (S:=fun b=>b=C 4) hS4) (fun b e=>.inl e)
  obtain ⟨H44,n4⟩:=hS4 _ _ H43 n3
  obtain ⟨H94,k94⟩:=hS4 _ _ H93 k93
  clear hx hx' hxs hB4
  refine HG.sstep (fun b=>b=C 9) (fun b e=>by rw [e]; exact H94) (closed_none _) (by kernel_rfl) (by rfl) (R:=fun T' x x'=>T'.size=73∧(∀ j,j < 13→T'[j]?=T4[j]?)∧x'.heap[C 9]?=some (.cells #[.bool true] 4)) (fun x hxs hx=>?_) (fun E5 w5 T5 x x' hK5 hH5 hxs hx hx' hS5 hR=>?_)
  · have hc10:x.cell? ⟨C 10,0,none⟩=some (.int .i64 (rK its z)):=(World.cell?_of_block (a:=⟨C 10,0,none⟩) (hx _ I4.c10.2)).trans I4.c10.1
    refine iwR9_wp R4 r14 r15 ((hx _ H94).trans k94) hc10 (fun T' x' a1 a2 a3=>⟨rfl,rfl,fun b hb hne=>?_,a1,a2,?_⟩)
    · rw [a3]; exact heap_setCell_ne (a:=⟨C 9,0,none⟩) (fun e=>hne e.symm)
    · rw [a3]; exact heap_set (a:=⟨C 9,0,none⟩) (w:=x) rfl ((hx _ H94).trans k94)
  obtain ⟨s5,o5,m5⟩:=hR
  have R5:=R4.up s5 o5
  obtain ⟨H45,n5⟩:=hS5 _ _ A.d H44 n4
  refine hc E5 w5 T5 R5 ((((hK1.trans hK2).trans hK3).trans hK4).trans hK5) (fun b o hb h1 h2=>?_) n5 H45 ((hx' _ H94).trans m5) (by rw [hH5]; exact H94)
  have hbl:=(Array.getElem?_eq_some_iff.1 h2).1
  obtain ⟨a1,a2⟩:=hS1 b o (fun e=>hb (.inl e)) h1 h2
  obtain ⟨b1,b2⟩:=hS2 b o a1 a2
  obtain ⟨c1,c2⟩:=hS3 b o (by omega) b1 b2
  obtain ⟨d1,d2⟩:=hS4 b o c1 c2
  exact hS5 b o (fun e=>hb (.inr e)) d1 d2
end
structure WM (bb nb okb:Nat) (K:Nat→Obj→Prop) (L:List RT) (s:RSt) (E:Env) (w:World):Prop where
  run:RunM bb K L s E w
  n:∃ n:Int,0≤n∧n≤3∧w.heap[nb]?=some (.cells #[.int .i64 n] 3)
  nH:E.H nb=none
  ok:w.heap[okb]?=some (.cells #[.bool true] 4)
  okH:E.H okb=none
  d:nb≠okb∧nb≠bb∧okb≠bb
  k:∀ b o,K b o→b≠nb∧b≠okb
  r:∀ mv,w.heap[bb]?=some (.cells #[mv] 63)→mv.ownBlock≠some nb∧mv.ownBlock≠some okb
section
variable {bb nb okb:Nat} {K:Nat→Obj→Prop} {L:List RT} {s:RSt} {E E':Env} {w w':World}
theorem WM.move (m:WM bb nb okb K L s E w) (hb:∀ b,b < w.heap.size→E.H b=none→E'.H b=none∧w'.heap[b]?=w.heap[b]?):WM bb nb okb K L s E' w':=by
  obtain ⟨n,n0,n3,hn⟩:=m.n
  obtain ⟨mv,r1,r2,r3⟩:=m.run.row
  have l1:=(Array.getElem?_eq_some_iff.1 hn).1
  have l2:=(Array.getElem?_eq_some_iff.1 m.ok).1
  have l3:=(Array.getElem?_eq_some_iff.1 r1).1
  exact ⟨m.run.move hb,⟨n,n0,n3,by rw [(hb _ l1 m.nH).2]; exact hn⟩,(hb _ l1 m.nH).1,by rw [(hb _ l2 m.okH).2]; exact m.ok,(hb _ l2 m.okH).1,m.d,m.k,fun mv h=>m.r mv (by rw [← (hb _ l3 m.run.bbH).2]; exact h)⟩
theorem WM.still {j:Nat} (m:WM bb nb okb K L s E w) (S:Stands E w E' w'):WM bb nb okb K L s E' w' :=
  m.move fun b hb hn=>by
    obtain ⟨s1,s2⟩:=S b _ hn (Array.getElem?_eq_getElem hb)
    exact ⟨s1,by rw [s2,Array.getElem?_eq_getElem hb]⟩
theorem WM.ext (m:WM bb nb okb K L s E w):∃ K':Nat→Obj→Prop,RunM bb K' L s E w∧∀ s' E' w',RunM bb K' L s' E' w'→WM bb nb okb K L s' E' w':=by
  obtain ⟨n,n0,n3,hn⟩:=m.n
  obtain ⟨mv,r1,r2,r3⟩:=m.run.row
  obtain ⟨v1,v2⟩:=m.r mv r1
  refine ⟨fun b o=>K b o∨(b=nb∧o=.cells #[.int .i64 n] 3)∨(b=okb∧o=.cells #[.bool true] 4),⟨m.run.bbH,fun b o hk=>?_,⟨mv,r1,r2,fun g hg=>⟨(r3 g hg).1,fun b o hk=>?_⟩⟩,m.run.len,m.run.cnt⟩,fun s' E' w' m'=>?_⟩
  · rcases hk with hk | ⟨rfl,rfl⟩ | ⟨rfl,rfl⟩
    · exact m.run.kobj b o hk
    · exact ⟨hn,m.nH,m.d.2.1⟩
    · exact ⟨m.ok,m.okH,m.d.2.2⟩
  · rcases hk with hk | ⟨rfl,rfl⟩ | ⟨rfl,rfl⟩
    · exact (r3 g hg).2 b o hk
    · exact fun e=>v1 (by rw [e]; exact hg)
    · exact fun e=>v2 (by rw [e]; exact hg)
  · obtain ⟨mv',q1,q2,q3⟩:=m'.row
    obtain ⟨a1,a2,_⟩:=m'.kobj nb _ (.inr (.inl ⟨rfl,rfl⟩))
    obtain ⟨b1,b2,_⟩:=m'.kobj okb _ (.inr (.inr ⟨rfl,rfl⟩))
    refine ⟨⟨m'.bbH,fun b o hk=>m'.kobj b o (.inl hk),⟨mv',q1,q2,fun g hg=>⟨(q3 g hg).1,fun b o hk=>(q3 g hg).2 b o (.inl hk)⟩⟩,m'.len,m'.cnt⟩,⟨n,n0,n3,a1⟩,a2,b1,b2,m.d,m.k,fun mv2 h2=>?_⟩
    rw [q1] at h2
    simp only [Option.some.injEq,Obj.cells.injEq] at h2
    have e:mv'=mv2:=by simpa using h2
    subst e
    exact ⟨fun e=>(q3 _ e).2 nb _ (.inr (.inl ⟨rfl,rfl⟩)) rfl,fun e=>(q3 _ e).2 okb _ (.inr (.inr ⟨rfl,rfl⟩)) rfl⟩
theorem WM.inner (m:WM bb nb okb K L s E w) (S:StandsBut (fun b=>b=nb∨b=okb) E w E' w') {n:Int} (h0:0≤n) (h3:n < 3) (hn:w'.heap[nb]?=some (.cells #[.int .i64 (n+1)] 3)) (hnH:E'.H nb=none) (ho:w'.heap[okb]?=some (.cells #[.bool true] 4)) (hoH:E'.H okb=none):WM bb nb okb K L s E' w':=by
  obtain ⟨mv,r1,r2,r3⟩:=m.run.row
  obtain ⟨v1,v2⟩:=m.r mv r1
  obtain ⟨bH,b1⟩:=S bb _ (by rintro (e | e); exact m.d.2.1 e.symm; exact m.d.2.2 e.symm) m.run.bbH r1
  have hg:∀ g,mv.ownBlock=some g→E'.H g=none∧w'.heap[g]?=w.heap[g]?:=fun g hg=>by
    have hl:=(r2.lt g hg).2
    obtain ⟨a1,a2⟩:=S g _ (by rintro (e | e); exact v1 (by rw [← e]; exact hg); exact v2 (by rw [← e]; exact hg)) (r3 g hg).1 (Array.getElem?_eq_getElem hl)
    exact ⟨a1,by rw [a2,Array.getElem?_eq_getElem hl]⟩
  refine ⟨⟨bH,fun b o hk=>?_,⟨mv,b1,ownsRow_same r2 (fun g h=>(hg g h).2),fun g h=>⟨(hg g h).1,(r3 g h).2⟩⟩,m.run.len,m.run.cnt⟩,⟨n+1,by omega,by omega,hn⟩,hnH,ho,hoH,m.d,m.k,fun mv2 h2=>?_⟩
  · obtain ⟨k1,k2,k3⟩:=m.run.kobj b o hk
    obtain ⟨a1,a2⟩:=S b o (by rintro (e | e); exact (m.k b o hk).1 e; exact (m.k b o hk).2 e) k2 k1
    exact ⟨a2,a1,k3⟩
  · rw [b1] at h2
    simp only [Option.some.injEq,Obj.cells.injEq] at h2
    have e:mv=mv2:=by simpa using h2
    subst e
    exact ⟨v1,v2⟩
end
def withD (bb nb okb:Nat) (K:Nat→Obj→Prop) (L:List RT):Prot RSt RL where
  M:=WM bb nb okb K L
  next:=(runD bb K L).next
  fits:=(runD bb K L).fits
  who:=(runD bb K L).who
  init:=(runD bb K L).init
  mono:=(runD bb K L).mono
  fresh:=(runD bb K L).fresh
  tal:=(runD bb K L).tal
  closed:=fun s E w E' w' m hb=>m.move hb
structure InnF (E00:Env) (w00:World) (its:List (List Int)) (within:List Int) (drain:Bool) (z:RA × Int) (tv pv:Value):Prop where
  thr:∃ (ta:Option Addr) (ba bo cap:Nat) (LA:Nat→Option Addr) (LC:Nat→Nat),tv=.slice ta its.length cap∧IntssL E00 w00 ta ba bo LA LC its
  pk:IntsAt E00 w00 pv within
  hn:its.length≤1000000000000
  hl:∀ l ∈ its,l.length≤100000000000
  hnp:within.length≤1000000000000000
  hp64:∀ p ∈ within,-9223372036854775808≤p∧p≤9223372036854775807
  hz:(runG its).Run within drain (ra0 its its.length) z
  hml:(rTl its z).length≤1000000000000
section
variable {rb bb ba bo nn cp t:Nat} {th:Th} {K:Nat→Obj→Prop} {L:List RT} {p:RT} {b₀:Frame} {a₀:Act} {ops₀:Array Oper} {i₀:Nat} {rest₀:List Nat} {k₀:List Item} {cl:List Frame} {C:Nat→Nat} {E00:Env} {w00:World} {its:List (List Int)} {within:List Int} {drain:Bool} {z:RA × Int} {tv pv ov:Value}
theorem wn_tail {j i:Nat} {gp:Value} {cs:List Frame} {F:Machine→Trace→Prop} {E:Env} {w:World} {s:RSt} {T:Array Value} (P:RTok K L bb (C 1) (C 2) (C 3) ba bo nn cp t p) (I:InnF E00 w00 its within drain z tv pv) (A:ApartW w00 C ov) (hI:∀ s E w,WM bb (C 4) (C 9) K L s E w→InnC E00 w00 E w C its drain z tv pv ov)
    (M:WM bb (C 4) (C 9) K L s E w) (R:RegW T gp C i) (hi:i < p.ops.length) (hrole:E.role j=.gone) (hmode:∀ b,E.mode b=0)
    (hc:∀ E' w' T',Kept j none E w E' w'→WM bb (C 4) (C 9) K L s E' w'→RegW T' gp C (i+1)→HG Try.prog j F E' (G ((base 41).at ⟨T',[]⟩ hdW) cs) w') :
    HG Try.prog j F E (G ((base 41).at ⟨T,[]⟩ (.code iwT4 :: hdW1)) cs) w:=by
  obtain ⟨c,hop⟩:∃ c,p.ops[i]?=some c:=⟨_,List.getElem?_eq_getElem hi⟩
  obtain ⟨hA,K4⟩:=P.ops i c hop
  have K3:=P.kr
  rw [hA] at K3
  obtain ⟨d1,d1H,_⟩:=M.run.konst _ _ P.kx
  obtain ⟨d2,d2H,_⟩:=M.run.konst _ _ P.kt
  obtain ⟨d3,d3H,_⟩:=M.run.konst _ _ K3
  obtain ⟨d4,d4H,_⟩:=M.run.konst _ _ K4
  obtain ⟨n,n0,n3,hn⟩:=M.n
  have hi12:i≤1000000000000:=by have:=P.len; omega
  rw [iwT4_parts]
  change HGn Try.prog j F E w 100 _
  refine Idl.step (idl_hg Try.prog j F E w) _ _ _ rfl (fun _=>stepG_seq) ?_
  refine HG.fstep (closed_none _) (by kernel_rfl) (by rfl) (R:=fun T' x x'=>T'.size=73∧(∀ j,j < 13→T'[j]?=T[j]?)∧T'[47]?=some (.bool ((c == 5) && decide (n < 3)))) (fun x hxs hx=>?_) (fun E1 w1 T1 x x' hK1 hH1 hxs hx hx' hB1 hS1 hR=>?_)
  · have cell:∀ {a:Addr} {v:Value},w.cell? a=some v→E.H a.block=none→x.cell? a=some v:=fun {a v} h1 h2=>(World.cell?_of_block (hx _ h2)).trans h1
    exact iwR4_wp R (cell d1 d1H) (cell d2 d2H) (cell d3 d3H) (cell d4 d4H) (obj_cell ((hx _ M.nH).trans hn) rfl) P.lt hi (fun T' a1 a2 a3=>⟨rfl,rfl,fun _ _=>rfl,a1,a2,a3⟩)
  obtain ⟨s1,o1,r47⟩:=hR
  have R1:=R.up s1 o1
  have M1:WM bb (C 4) (C 9) K L s E1 w1:=M.still (j:=j) hS1
  have hn1:=(hS1 _ _ M.nH hn).2
  cases hb:((c == 5) && decide (n < 3)) with
  | false =>
    rw [hb] at r47
    exact iw_no R1 r47 (fun T2 R2=>iw_again R2 hi12 (fun T3 R3=>hc E1 w1 T3 hK1 M1 R3))
  | true =>
    rw [hb] at r47
    have hlt:n < 3:=by
      simp only [Bool.and_eq_true,decide_eq_true_eq] at hb
      exact hb.2
    obtain ⟨ta,ba',bo',cap,LA,LC,htv,hT⟩:=I.thr
    refine iw_yes r47 ?_
    refine iw_inner R1 (hI s E1 w1 M1) A htv hT I.pk I.hn I.hl I.hnp I.hp64 I.hz I.hml hn1 M1.nH n0 hlt M1.ok M1.okH (hK1.le.roleH.trans hrole) (fun b=>hK1.le.mode b (hmode b)) (fun E2 w2 T2 R2 hK2 hS2 q1 q2 q3 q4=>?_)
    exact iw_again R2 hi12 (fun T3 R3=>hc E2 w2 T3 (hK1.trans hK2) (M1.inner hS2 n0 hlt q1 q2 q3 q4) R3)
theorem wn_loop (P:RTok K L bb (C 1) (C 2) (C 3) ba bo nn cp t p) (I:InnF E00 w00 its within drain z tv pv) (A:ApartW w00 C ov) (hI:∀ s E w,WM bb (C 4) (C 9) K L s E w→InnC E00 w00 E w C its drain z tv pv ov) (hbound:sumTo L.length (fun t=>(opsR L t).length)≤1000000000000) (LR:LiveRet th.gb th.box rb b₀ a₀ ops₀ i₀ rest₀ k₀ cl) :
    ∀ (m i:Nat),m+i=p.ops.length→∀ (f:Nat) (tl:Tl3),m≤f→∀ (h:Nat) (home:Goroutine→Prop) (k:Int) (F:Machine→Trace→Prop) (E:Env) (w:World) (s:RSt) (T:Array Value),TKn h rb home k th E w→GA w rb th false false tl→WM bb (C 4) (C 9) K L s E w→s.cnt t=i→RegW T (.pointer (some ⟨th.gb,0,none⟩)) C i →
      (∀ s' o,AdvR (opsR L t) t k i tl s (s',o)→Back (withD bb (C 4) (C 9) K L) h rb home th F E w s' o (roleOf (Srv (withD bb (C 4) (C 9) K L) rb th f) rb th o)) →
      HG Try.prog th.j F E (G ((base 41).at ⟨T,[]⟩ hdW) (b₀.at a₀ (.inRegion ops₀ (i₀ :: rest₀) :: k₀) :: cl)) w:=by
  intro m
  induction m with
  | zero =>
    intro i hi f tl hf h home k F E w s T TK g M hcn R hB
    obtain ⟨c1,c2,_⟩:=M.run.konst _ _ P.kx
    obtain ⟨c3,c4,_⟩:=M.run.konst _ _ P.kt
    obtain ⟨c5,c6,_⟩:=M.run.konst _ _ P.kr
    refine iw_head R c1 c3 c5 c2 c4 c6 P.lt (fun hlt=>absurd hlt (by omega)) (fun _ E1 w1 T1 S1 s1=>?_)
    have TK1:=TK.kept S1.kept.weaken TK.gct
    have hb:=(hB s none (.stop (by rw [P.o]; omega))).kept S1.kept.weaken
    refine Idl.step (idl_hg Try.prog th.j F E1 w1) _ _ _ rfl (fun _=>stepG_end) ?_
    refine Idl.leave0 (n:=1) (idl_hg Try.prog th.j F E1 w1) rfl rfl Try.func41 rfl ?_
    exact body_ret (D:=withD bb (C 4) (C 9) K L) LR TK1 (GA.kept S1.kept g TK.gH TK.gW) (M.still (j:=th.j) S1.st) hb
  | succ m ih =>
    intro i hi f tl hf h home k F E w s T TK g M hcn R hB
    obtain ⟨c1,c2,_⟩:=M.run.konst _ _ P.kx
    obtain ⟨c3,c4,_⟩:=M.run.konst _ _ P.kt
    obtain ⟨c5,c6,_⟩:=M.run.konst _ _ P.kr
    refine iw_head R c1 c3 c5 c2 c4 c6 P.lt (fun hlt E1 w1 T1 S1 R1=>?_) (fun h=>absurd h (by omega))
    have TK1:=TK.kept S1.kept.weaken TK.gct
    have g1:=GA.kept S1.kept g TK.gH TK.gW
    have M1:WM bb (C 4) (C 9) K L s E1 w1:=M.still (j:=th.j) S1.st
    obtain ⟨c,hop⟩:∃ c,p.ops[i]?=some c:=⟨_,List.getElem?_eq_getElem hlt⟩
    have hop':(opsR L t)[i]?=some c:=by rw [P.o]; exact hop
    obtain ⟨hA,K4⟩:=P.ops i c hop
    have K3:=P.kr
    rw [hA] at K3
    obtain ⟨d1,d1H,_⟩:=M1.run.konst _ _ P.kx
    obtain ⟨d2,d2H,_⟩:=M1.run.konst _ _ P.kt
    obtain ⟨d3,d3H,_⟩:=M1.run.konst _ _ K3
    obtain ⟨d4,d4H,_⟩:=M1.run.konst _ _ K4
    obtain ⟨d5,d5H,_⟩:=M1.run.konst _ _ P.kb
    have htl:t < L.length:=(List.getElem?_eq_some_iff.1 P.pt).1
    have hil:i < (opsR L t).length:=by rw [P.o]; exact hlt
    refine HG.withH fun hWH _=>?_
    have hWn:∀ b,E1.H b=none→E1.W b=false:=fun b hb=>by
      cases e:E1.W b with
      | false=>rfl
      | true=>have:=hWH b e; rw [hb] at this; cases this
    rw [iwBl_parts]
    change HGn Try.prog th.j F E1 w1 100 _
    refine Idl.step (idl_hg Try.prog th.j F E1 w1) _ _ _ rfl (fun _=>stepG_seq) ?_
    refine iw_r3 R1 d1 d2 d3 d4 d5 (hWn _ d1H) (hWn _ d2H) (hWn _ d3H) (hWn _ d4H) (hWn _ d5H) P.lt hlt (fun T2 w2 hA2 R2=>?_)
    have kk2:Kept th.j (some th.gb) E1 w1 E1 w2:=Kept.of_at hA2
    have TK2:=TK1.kept kk2 TK1.gct
    have g2:=GA.at g1 TK1.gW hA2
    have M2:WM bb (C 4) (C 9) K L s E1 w2:=Prot.at (D:=withD bb (C 4) (C 9) K L) M1 hWH hA2
    have kE:Kept th.j (some th.gb) E w E1 w2:=S1.kept.weaken.trans kk2
    by_cases h1:c=1
    · subst h1
      obtain ⟨f',rfl⟩:∃ f',f=f'+1:=⟨f - 1,by omega⟩
      have B1:=(hB s (some ⟨t,i,tl⟩) (.step hop')).kept kE
      refine does_step (fun a₁ ops' i' rest' k' hd hp=>?_)
      refine body_step (D:=withD bb (C 4) (C 9) K L) (n:=f') (ℓ:=⟨t,i,tl⟩) TK2 g2 M2 (OffAt.up (OffAt.up LR.offAt Try.func41 rfl) Try.func42 hd) B1 (fun h' home' k' F' E' w' s' T' g' m' f'' B'=>?_)
      have m':WM bb (C 4) (C 9) K L s' E' w':=m'
      have f'':s'.cnt t=i:=f''
      refine hp F' E' w' (iw_back3 R2 (fun T3 R3=>?_))
      refine wn_tail P I A hI m' R3 hlt T'.role T'.mode (fun E4 w4 T4 hK4 M4 R4=>?_)
      obtain ⟨K',rK',bK'⟩:=M4.ext
      exact ih (i+1) (by omega) f' _ (by omega) h' home' k' F' E4 w4 ⟨s'.told,upd s'.cnt t (i+1)⟩ T4 (T'.kept hK4.weaken T'.gct) (GA.kept hK4 g' T'.gH T'.gW) (bK' _ _ _ (rK'.step f'' hil htl rfl)) (upd_same ..) R4 (fun s'' o ha=>(B' s'' o ha).kept hK4.weaken)
    · obtain ⟨K',rK',bK'⟩:=M2.ext
      have hgo:∀ E3 w3,Kept th.j (some th.gb) E1 w2 E3 w3→TKn h rb home k th E3 w3→GA w3 rb th false false (actT c k tl)→RunM bb K' L (actS c t k tl i s) E3 w3→∀ T3,RegW T3 (.pointer (some ⟨th.gb,0,none⟩)) C i →
          HG Try.prog th.j F E3 (G ((base 41).at ⟨T3,[]⟩ (.code iwT4 :: hdW1)) (b₀.at a₀ (.inRegion ops₀ (i₀ :: rest₀) :: k₀) :: cl)) w3:=fun E3 w3 k3 T3k g3 M3 T3 R3=>by
        refine wn_tail P I A hI (bK' _ _ _ M3) R3 hlt T3k.role T3k.mode (fun E4 w4 T4 hK4 M4 R4=>?_)
        exact ih (i+1) (by omega) f _ (by omega) h home k F E4 w4 _ T4 (T3k.kept hK4.weaken T3k.gct) (GA.kept hK4 g3 T3k.gH T3k.gW) M4 (upd_same ..) R4 (fun s' o ha=>(hB s' o (.act hop' h1 ha)).kept ((kE.trans k3).trans hK4.weaken))
      by_cases h5:c=5
      · subst h5
        refine does_tell rfl TK2 g2 rK' hcn hil htl hbound (fun E3 w3 k3 T3 g3 M3=>iw_back3 R2 (fun T4 R4=>hgo E3 w3 k3 T3 g3 M3 T4 R4))
      · have hM:∀ {E3 w3},RunM bb K' L s E3 w3→RunM bb K' L (actS c t k tl i s) E3 w3:=fun m=>by rw [actS_other h5]; exact m.step hcn hil htl rfl
        by_cases h2:c=2
        · subst h2
          exact does_begin TK2 g2 rK' (fun E3 w3 k3 T3 g3 M3=>iw_back3 R2 (fun T4 R4=>hgo E3 w3 k3 T3 g3 (hM M3) T4 R4))
        · by_cases h3:c=3
          · subst h3
            exact does_poll TK2 g2 rK' (fun E3 w3 k3 T3 g3 M3=>iw_back3 R2 (fun T4 R4=>hgo E3 w3 k3 T3 g3 (hM M3) T4 R4))
          · by_cases h4:c=4
            · subst h4
              exact does_point TK2 g2 rK' (fun E3 w3 k3 T3 g3 M3=>iw_back3 R2 (fun T4 R4=>hgo E3 w3 k3 T3 g3 (hM M3) T4 R4))
            · have e:actT c k tl=tl:=by unfold actT; rw [if_neg h2,if_neg h3,if_neg h4]
              refine does_other h1 h2 h3 h4 h5 (iw_back3 R2 (fun T4 R4=>hgo E1 w2 (.refl _ _ _ _) TK2 (by rw [e]; exact g2) (hM rK') T4 R4))
theorem wn_born (P:RTok K L bb (C 1) (C 2) (C 3) ba bo nn cp t p) (I:InnF E00 w00 its within drain z tv pv) (A:ApartW w00 C ov) (hI:∀ s E w,WM bb (C 4) (C 9) K L s E w→InnC E00 w00 E w C its drain z tv pv ov) (hbound:sumTo L.length (fun t=>(opsR L t).length)≤1000000000000) :
    Born (withD bb (C 4) (C 9) K L) t p.ops.length (AdvR (opsR L t) t 0 0 (0,0,0)) 41 Try.f41 #[.pointer (some ⟨C 1,0,none⟩),.pointer (some ⟨C 2,0,none⟩),.pointer (some ⟨C 3,0,none⟩),.pointer (some ⟨C 4,0,none⟩),.pointer (some ⟨C 5,0,none⟩),.pointer (some ⟨C 6,0,none⟩),.pointer (some ⟨C 7,0,none⟩),.pointer (some ⟨C 8,0,none⟩),.pointer (some ⟨C 9,0,none⟩),.pointer (some ⟨C 10,0,none⟩)]:=by
  intro h rb home th F E w s b₀ a₀ ops₀ i₀ rest₀ k₀ cl TK g M hi0 LR hB
  have M:WM bb (C 4) (C 9) K L s E w:=M
  have hI':s.cnt t=0:=hi0 t (Nat.le_refl _)
  have hgo:∀ T,RegW T (.pointer (some ⟨th.gb,0,none⟩)) C 0→HG Try.prog th.j F E (G ((base 41).at ⟨T,[]⟩ hdW) (b₀.at a₀ (.inRegion ops₀ (i₀ :: rest₀) :: k₀) :: cl)) w:=fun T R =>
    wn_loop P I A hI hbound LR p.ops.length 0 (by omega) p.ops.length (0,0,0) (Nat.le_refl _) h home 0 F E w s T TK g M hI' R hB
  clear hB LR M TK g hI hI' hbound P I A hi0
  replace hgo:=Lib.hid hgo
  unfold entry
  unfold hdW at hgo
  rw [show Try.f41.body.getD .skip=.seq xiwR0 (.block 0 (.loop iwL)) from iwB_parts,show Try.f41.ntmps=73 from rfl]
  change HGn Try.prog th.j F E w 100 _
  generalize hG4:iwL=L4 at hgo ⊢
  simp only [xiwR0,iwR0,iwB,Try.f41,Option.getD_some]
  walk_nrm
  refine Idl.q (idl_hg Try.prog th.j F E w) (Idl.rg (idl_hg Try.prog th.j F E w) [0] rfl ?_)
  apply Idl.value (idl_hg Try.prog th.j F E w) rfl rfl (by first | decide | exact base_kind _ | exact baseD_kind _ | assumption)
  focus (intro w; go_simp; (try w_num); first | done | rfl)
  focus (intro w; simp [go_sem, *])
  walk_nrm
  refine Idl.re (idl_hg Try.prog th.j F E w) (Idl.bl (idl_hg Try.prog th.j F E w) (Idl.lp (idl_hg Try.prog th.j F E w) ?_))
  exact hgo.out _ ⟨by simp,by simp,by simp,by simp,by simp,by simp,by simp,by simp,by simp,by simp,by simp,by simp,by simp⟩
end
section
variable {F:Machine→Trace→Prop} {E:Env} {w:World}
theorem bnd_picks {ts:List (List Int)}:∀ (l:List Int) (a:RA × Int),BndR ts a.1→BndR ts ((runG ts).picks a l).1
  | [],a,h=>h
  | p :: l,a,h=>by
    have e:(runG ts).picks a (p :: l)=(runG ts).picks ((runG ts).pk a (pickIx p (runG ts).n)) l:=by
      unfold Game.picks
      rw [List.foldl_cons]
    rw [e]
    refine bnd_picks l _ ?_
    unfold Game.pk
    split
    · rename_i ha
      refine bnd_pick h ?_ ha
      by_cases ht:pickIx p (runG ts).n < ts.length
      · exact ht
      · exfalso
        have h1:¬ (a.1.at_ (pickIx p (runG ts).n) < (opsOf ts (pickIx p (runG ts).n)).length):=by
          have e:opsOf ts (pickIx p (runG ts).n)=[]:=by unfold opsOf; rw [List.getElem?_eq_none (by omega)]; rfl
          rw [e]
          exact Nat.not_lt_zero _
        exact h1 (of_decide_eq_true ha)
    · exact h
theorem bnd_drn {ts:List (List Int)} {a z:RA × Int} {x:Nat} (hx:x < (runG ts).n) (h:(runG ts).Drn a x z) (hb:BndR ts a.1):BndR ts z.1:=by
  induction h with
  | stop _=>exact hb
  | go h d ih =>
    obtain ⟨b1,b2⟩:=nx_some (by omega) h
    exact ih (Nat.mod_lt _ (by omega)) (bnd_pick hb b1 b2)
theorem bnd_run {ts:List (List Int)} {picks:List Int} {drain:Bool} {z:RA × Int} (h:(runG ts).Run picks drain (ra0 ts ts.length) z):BndR ts z.1:=by
  have h0:=(bnd_start (ts:=ts) ts.length (Nat.le_refl _)).1
  unfold Game.Run at h
  by_cases hn:(runG ts).n=0
  · rw [if_pos hn] at h; rw [h]; exact h0
  · rw [if_neg hn] at h
    have h1:=bnd_picks picks (ra0 ts ts.length,0) h0
    cases drain with
    | true =>
      simp only [if_true] at h
      exact bnd_drn (by omega) h h1
    | false =>
      simp only [Bool.false_eq_true,if_false] at h
      rw [h]; exact h1
theorem told_len {ts:List (List Int)} {picks:List Int} {drain:Bool} {z:RA × Int} {N:Nat} (h:(runG ts).Run picks drain (ra0 ts ts.length) z) (hl:∀ l ∈ ts,l.length≤N):(rTl ts z).length≤8 * N:=by
  unfold rTl
  by_cases h8:8 < ts.length
  · rw [if_pos h8]; exact Nat.zero_le _
  · rw [if_neg h8]
    have hb:=bnd_run h
    have h1:=hb.2
    have h2:sumTo ts.length z.1.at_≤sumTo ts.length (fun t=>(opsOf ts t).length):=sumTo_le _ hb.1
    have h3:=ops_sum hl (show ts.length≤8 by omega)
    omega
end
end Go.Proofs.Ytimlbbleblijnaa.Co

namespace Go.Proofs.Ytimlbbleblijnaa.Co
open Go Go.Conc Go.RowKit Go.ChangeShapes Go.WideShapes Go.Deep
set_option maxRecDepth 100000
theorem bulk_one {H:Type} (d:DataW H):1≤Rows.uptoBulk d:=by
  cases d with
  | lit l=>cases l <;> simp [Rows.uptoBulk]
  | nil=>simp [Rows.uptoBulk]
  | ptr d=>simp [Rows.uptoBulk]
  | slice elems spare=>simp [Rows.uptoBulk]
  | agg parts=>simp [Rows.uptoBulk]
  | iface t d=>simp [Rows.uptoBulk]
  | map entries=>simp [Rows.uptoBulk]
  | held h=>simp [Rows.uptoBulk]
theorem bulk_many {H:Type}:∀ l:List (DataW H),l.length≤Rows.uptoBulkAll l
  | []=>by simp [Rows.uptoBulkAll]
  | x :: r=>by
    have h1:=bulk_one x
    have h2:=bulk_many r
    simp only [Rows.uptoBulkAll,List.length_cons]; omega
theorem bulk_mem {H:Type}:∀ {l:List (DataW H)} {x:DataW H},x ∈ l→Rows.uptoBulk x≤Rows.uptoBulkAll l
  | y :: r,x,h=>by
    simp only [Rows.uptoBulkAll]
    rcases List.mem_cons.1 h with rfl | h
    · omega
    · have:=bulk_mem h
      omega
theorem pick_list {α:Type} {p:Nat→α→Prop}:∀ n,(∀ i,i < n→∃ x,p i x)→∃ l:List α,l.length=n∧∀ i (h:i < l.length),p i l[i]
  | 0,_=>⟨[],rfl,fun i h=>absurd h (by simp)⟩
  | n+1,hp=>by
    obtain ⟨l,hl,h⟩:=pick_list n (fun i hi=>hp i (by omega))
    obtain ⟨x,hx⟩:=hp n (by omega)
    refine ⟨l ++ [x],by simp [hl],fun i hi=>?_⟩
    by_cases hi':i < l.length
    · rw [List.getElem_append_left hi']; exact h i hi'
    · have hi2:i=l.length:=by simp at hi; omega
      subst hi2
      simp [hl,hx]
theorem add_at (b o k:Nat):(⟨b,o,none⟩:Addr).add k=⟨b,o+k,none⟩:=by
  unfold Addr.add
  by_cases h:k=0
  · simp [h]
  · simp [h]
theorem vis_cell {W:World} {a:Addr} {v:Value} (h:W.cell? a=some v):(Env.zero W).H a.block=none:=by
  show H0 W a.block=none
  unfold H0
  unfold World.cell? at h
  cases e:W.heap[a.block]? with
  | none=>rfl
  | some o =>
    rw [e] at h
    cases o <;> first | rfl | (exfalso; simp at h)
section
variable {H:Type} {enc:TypeId × Value→H} {W:World} {base:Nat} {spare:Nat→Bool} {held:Bool}
theorem ints_open {m:Nat} {c:Value} {y:DataW H × List MemPlace} (h:DataW.trod enc Try.prog W base spare held m 23 [c]=some y) :
    ∃ ps:List Int,IntsAt (Env.zero W) W c ps∧ps.length≤Rows.uptoBulk y.1∧∀ p ∈ ps,-9223372036854775808≤p∧p≤9223372036854775807:=by
  rcases DataW.trod_slice Try.underlying23 h with ⟨hc,hy⟩ | ⟨a,len,cap,elems,rest,n,_,hc,hy,hb,hl,hm,hlen,hel,_,_⟩
  · obtain rfl:c=.slice none 0 0:=by simpa using hc
    exact ⟨[],⟨none,0,0,0,rfl,fun h=>absurd rfl h,fun i l hi=>by simp at hi⟩,Nat.zero_le _,fun l hl=>by cases hl⟩
  · obtain rfl:c=.slice (some a) len cap:=by simpa using hc
    have hC:Try.prog.cellsOf 3=1:=by kernel_rfl
    rw [hC] at hel
    have key:∀ i,i < len→∃ z:Int,W.cell? (a.add (i * 1))=some (.int .i64 z)∧-9223372036854775808≤z∧z≤9223372036854775807:=by
      intro i hi
      have he:=hel i hi
      rw [List.getElem?_eq_getElem (by omega)] at he
      simp only [Option.bind_eq_some_iff] at he
      obtain ⟨cs,hcs,ht⟩:=he
      have hcc:=World.cells?_some hcs
      have hl1:cs.length=1:=hcc.2.1
      match cs,hl1 with
      | [c0],_ =>
        obtain ⟨z,e0,z0,b0⟩:=DataW.trod_int (k:=.i64) (by kernel_rfl) ht
        obtain rfl:c0=.int .i64 z:=by simpa using e0
        have hbb:=bounds_i64 b0
        refine ⟨z,?_,by omega,by omega⟩
        have:=hcc.2.2 0 (by omega)
        simpa [Addr.add] using this
    obtain ⟨zs,hzl,hp⟩:=pick_list len key
    refine ⟨zs,⟨some a,a.block,a.off,cap,by rw [hzl],fun hn=>?_,fun i p hi=>?_⟩,?_,fun p hp'=>?_⟩
    · have h0:=(hp 0 (List.length_pos_iff.2 hn)).1
      have ha:a.add (0 * 1)=a:=by simp [Addr.add]
      rw [ha] at h0
      have hsp:=World.cell?_spot h0
      obtain ⟨ab,ao,at0⟩:=a
      simp only at hsp
      subst hsp
      rfl
    · have hi':i < zs.length:=(List.getElem?_eq_some_iff.1 hi).1
      have h0:=(hp 0 (by omega)).1
      have ha:a.add (0 * 1)=a:=by simp [Addr.add]
      rw [ha] at h0
      have hsp:=World.cell?_spot h0
      obtain ⟨ab,ao,at0⟩:=a
      simp only at hsp
      subst hsp
      obtain ⟨w1,_⟩:=hp i hi'
      rw [add_at,Nat.mul_one] at w1
      obtain ⟨_,rfl⟩:=List.getElem?_eq_some_iff.1 hi
      have hv:=vis_cell w1
      exact ⟨w1,hv⟩
    · rw [hzl]
      have h1:=bulk_many (elems.map (·.1))
      rw [hy]
      simp only [Rows.uptoBulk]
      rw [List.length_map] at h1
      omega
    · obtain ⟨i,hi,rfl⟩:=List.mem_iff_getElem.1 hp'
      exact (hp i hi).2
end
end Go.Proofs.Ytimlbbleblijnaa.Co

namespace Go.Proofs.Ytimlbbleblijnaa.Co
open Go Go.Conc Go.RowKit
open Go.ConcN (sumTo upd sumTo_upd upd_ne upd_same sumTo_congr le_sumTo)
theorem drn_w {ts:List (List Int)} {a z:RA × Int} {x:Nat} (hx:x < (runG ts).n) (h:(runG ts).Drn a x z):z.2≤a.2+(runW ts a.1:Int):=by
  induction h with
  | stop _=>omega
  | go h d ih =>
    obtain ⟨b1,b2⟩:=nx_some (by omega) h
    have h1:=ih (Nat.mod_lt _ (by omega))
    dsimp only at h1
    rename_i a' x' t z'
    have h2:=runW_pick a'.1 t (a'.2+1) b1 b2
    omega
theorem runW_le (ts:List (List Int)) (a:RA):runW ts a≤sumTo ts.length (fun t=>(opsOf ts t).length):=sumTo_le _ fun t=>Nat.sub_le _ _
theorem run_k2 {ts:List (List Int)} {picks:List Int} {drain:Bool} {z:RA × Int} (h:(runG ts).Run picks drain (ra0 ts ts.length) z):z.2≤(picks.length:Int)+(sumTo ts.length (fun t=>(opsOf ts t).length):Int):=by
  unfold Game.Run at h
  by_cases hn:(runG ts).n=0
  · rw [if_pos hn] at h; rw [h]; dsimp only; omega
  · rw [if_neg hn] at h
    have h1:=gpicks_k (G:=runG ts) picks (ra0 ts ts.length,0)
    dsimp only at h1
    have h3:=runW_le ts ((runG ts).picks (ra0 ts ts.length,0) picks).1
    cases drain with
    | true =>
      simp only [if_true] at h
      have h2:=drn_w (by omega) h
      omega
    | false =>
      simp only [Bool.false_eq_true,if_false] at h
      rw [h]; omega
section
variable {F:Machine→Trace→Prop} {E:Env} {w:World}
end
section
open Go.ChangeShapes Go.WideShapes Go.Deep
variable {H:Type} {enc:TypeId × Value→H} {W:World} {base:Nat} {spare:Nat→Bool} {held:Bool}
theorem row_open {m:Nat} {c:Value} {y:DataW H × List MemPlace} (h:DataW.trod enc Try.prog W base spare held m 23 [c]=some y) :
    ∃ z:Option Addr × Nat × List Int,c=.slice z.1 z.2.2.length z.2.1∧z.2.2.length≤Rows.uptoBulk y.1∧(z.2.2≠[]→∃ la lo,z.1=some ⟨la,lo,none⟩∧∀ j p,z.2.2[j]?=some p→W.cell? ⟨la,lo+j,none⟩=some (.int .i64 p)):=by
  obtain ⟨ps,⟨pa,pb,po,cap,h1,h2,h3⟩,h4,_⟩:=ints_open h
  exact ⟨(pa,cap,ps),h1,h4,fun hne=>⟨pb,po,h2 hne,fun j p hj=>(h3 j p hj).1⟩⟩
theorem intss_open {m:Nat} {c:Value} {y:DataW H × List MemPlace} (h:DataW.trod enc Try.prog W base spare held m 57 [c]=some y) :
    ∃ (ts:List (List Int)) (ta:Option Addr) (ba bo cap:Nat) (LA:Nat→Option Addr) (LC:Nat→Nat),c=.slice ta ts.length cap∧IntssL (Env.zero W) W ta ba bo LA LC ts∧ts.length≤Rows.uptoBulk y.1∧∀ l ∈ ts,l.length≤Rows.uptoBulk y.1:=by
  rcases DataW.trod_slice Try.underlying57 h with ⟨hc,hy⟩ | ⟨a,len,cap,elems,rest,n,_,hc,hy,hb,hl,hm,hlen,hel,_,_⟩
  · obtain rfl:c=.slice none 0 0:=by simpa using hc
    exact ⟨[],none,0,0,0,fun _=>none,fun _=>0,rfl,⟨fun h=>absurd h (by simp),fun i l hi=>by simp at hi,fun i l hi=>by simp at hi⟩,Nat.zero_le _,fun l hl=>by cases hl⟩
  · obtain rfl:c=.slice (some a) len cap:=by simpa using hc
    have hC:Try.prog.cellsOf 23=1:=by kernel_rfl
    rw [hC] at hel
    have key:∀ i,i < len→∃ z:Option Addr × Nat × List Int,W.cell? (a.add (i * 1))=some (.slice z.1 z.2.2.length z.2.1)∧z.2.2.length≤Rows.uptoBulk y.1∧(z.2.2≠[]→∃ la lo,z.1=some ⟨la,lo,none⟩∧∀ j p,z.2.2[j]?=some p→W.cell? ⟨la,lo+j,none⟩=some (.int .i64 p)):=by
      intro i hi
      have he:=hel i hi
      rw [List.getElem?_eq_getElem (by omega)] at he
      simp only [Option.bind_eq_some_iff] at he
      obtain ⟨cs,hcs,ht⟩:=he
      have hcc:=World.cells?_some hcs
      have hl1:cs.length=1:=hcc.2.1
      match cs,hl1 with
      | [c0],_ =>
        obtain ⟨⟨A,cap',l⟩,rfl,hb',hops⟩:=row_open ht
        refine ⟨(A,cap',l),?_,?_,hops⟩
        · have:=hcc.2.2 0 (by omega)
          simpa [Addr.add] using this
        · have h1:=bulk_mem (l:=elems.map (·.1)) (x:=elems[i].1) (List.mem_map.2 ⟨elems[i],List.getElem_mem _,rfl⟩)
          rw [hy]
          simp only [Rows.uptoBulk]
          dsimp only at hb' ⊢
          omega
    obtain ⟨zs,hzl,hp⟩:=pick_list len key
    have hlen2:(zs.map (·.2.2)).length=len:=by rw [List.length_map,hzl]
    have spot:∀ i,i < zs.length→a=⟨a.block,a.off,none⟩:=fun i hi=>by
      have h0:=(hp 0 (by omega)).1
      have ha:a.add (0 * 1)=a:=by simp [Addr.add]
      rw [ha] at h0
      have hsp:=World.cell?_spot h0
      obtain ⟨ab,ao,at0⟩:=a
      simp only at hsp
      subst hsp
      rfl
    refine ⟨zs.map (·.2.2),some a,a.block,a.off,cap,fun i=>(zs.getD i (none,0,[])).1,fun i=>(zs.getD i (none,0,[])).2.1,by rw [hlen2],⟨fun hn=>?_,fun i l hi=>?_,fun i l hi hne=>?_⟩,?_,fun l hl'=>?_⟩
    · rw [hlen2] at hn
      exact congrArg some (spot 0 (by omega))
    · have hi':i < zs.length:=by have:=(List.getElem?_eq_some_iff.1 hi).1; simpa using this
      have hsp:=spot i hi'
      obtain ⟨w1,w2,w3⟩:=hp i hi'
      rw [hsp,add_at,Nat.mul_one] at w1
      have hz:zs.getD i (none,0,[])=zs[i]:=by simp [List.getD,List.getElem?_eq_getElem hi']
      have hl:l=zs[i].2.2:=by
        rw [List.getElem?_map,List.getElem?_eq_getElem hi'] at hi
        exact (Option.some.inj hi).symm
      have hv:=vis_cell w1
      rw [hz,hl]
      exact ⟨w1,hv⟩
    · have hi':i < zs.length:=by have:=(List.getElem?_eq_some_iff.1 hi).1; simpa using this
      obtain ⟨w1,w2,w3⟩:=hp i hi'
      have hz:zs.getD i (none,0,[])=zs[i]:=by simp [List.getD,List.getElem?_eq_getElem hi']
      have hl:l=zs[i].2.2:=by
        rw [List.getElem?_map,List.getElem?_eq_getElem hi'] at hi
        exact (Option.some.inj hi).symm
      rw [hz]
      rw [hl] at hne ⊢
      obtain ⟨la,lo,e1,e2⟩:=w3 hne
      refine ⟨la,lo,e1,?_,e2⟩
      cases hzz:zs[i].2.2 with
      | nil=>exact absurd hzz hne
      | cons op r=>exact vis_cell (e2 0 op (by rw [hzz]; rfl))
    · rw [hlen2]
      have h1:=bulk_many (elems.map (·.1))
      rw [hy]
      simp only [Rows.uptoBulk]
      rw [List.length_map] at h1
      omega
    · obtain ⟨z,hz,rfl⟩:=List.mem_map.1 hl'
      obtain ⟨i,hi,rfl⟩:=List.mem_iff_getElem.1 hz
      exact (hp i hi).2.1
end
end Go.Proofs.Ytimlbbleblijnaa.Co
