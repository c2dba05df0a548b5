/- Lemmas for the laws of this seat, laid together of PGar, PGas, PGat, PGau, PGav, PGaw. -/
import Derived.Test.YtimlbbleblijnaaW11

open Go.ConcR.Gen (base_kind baseD_kind)
set_option linter.unusedVariables false
set_option linter.unusedSimpArgs false
set_option maxRecDepth 100000
set_option maxHeartbeats 4000000
namespace Go.Proofs.Ytimlbbleblijnaa.Co
open Go Go.Conc
open Go.ConcN (sumTo upd sumTo_upd upd_ne upd_same sumTo_congr le_sumTo)
theorem HG.withH {P:Program} {h:Nat} {F:Machine→Trace→Prop} {E:Env} {g:Goroutine} {w:World} (hg:(∀ b,E.W b=true→E.H b=some 1)→(∀ i a,E.W a.block=true→E.St i a=none)→HG P h F E g w):HG P h F E g w :=
  HG.open fun E1 w1 hA ⟨gs,T,q,C,_⟩=>(hg (fun b hW=>by
    have:=C.fit.sub b (by rw [hA.1.W']; exact hW)
    rw [hA.1.H'] at this; exact this) (fun i a hW=>by
    cases e:E.St i a with
    | none=>rfl
    | some v =>
      have:=C.dis i a (by rw [hA.1.St',e]; rfl)
      rw [hA.1.W',hW] at this; cases this)).at hA
theorem tk_of_tb {h rb:Nat} {home:Goroutine→Prop} {k:Int} {th:Th} {E:Env} {w:World} (T:TB h rb th E w) (h1:E.role h=.seat th.cs home) (h2:E.role th.j=.gone) (h3:E.wg th.j=some rb) (h4:E.W rb=true) (h5:Live rb w) (h6:w.cell? ⟨rb,0,none⟩=some (.int .i64 k)) (h7:∀ b,E.mode b=0):TKn h rb home k th E w∧TX h th E w:=by
  obtain ⟨kc,hkc⟩:=T.csC
  exact ⟨⟨h1,fun e=>T.hj e.symm,T.j0,h2,h3,T.gW,T.gH,T.ctH,T.ctW,T.ctC,T.stT,T.stB,T.bW,T.bL,T.gL,T.noSt,T.noT,h4,h5,h6,h7⟩,⟨T.csH,T.csW,(Array.getElem?_eq_some_iff.1 hkc).1,T.stS,T.noS⟩⟩
section
variable {σ Λ:Type} {D:Prot σ Λ} {Pv:Nat→Option Obj} {h rb:Nat} {E0 E E1:Env} {w0 w wa w1:World} {ths:List Th} {st:List (Option (Nat × Λ))} {s:σ} {k k':Int} {t m n':Nat} {th:Th} {ℓ:Λ} {home:Goroutine→Prop} {F:Machine→Trace→Prop}
theorem given_prep (Ph:Phase D h rb E0 w0 Pv ths st s k E w) (ht:ths[t]?=some th) (hst:st[t]?=some (some (m,ℓ))) (hWH:∀ b,E.W b=true→E.H b=some 1) (hsz:wa.heap.size=w.heap.size) (hwa:∀ b,b≠rb→wa.heap[b]?=w.heap[b]?) (hLa:Live rb wa) (hpa:wa.cell? ⟨rb,0,none⟩=some (.int .i64 k'))
    (hA:AtE h E wa E1 w1) (hct:w1.heap[th.ct]?=some (.chan 0 #[] false n' n' false)) :
    ∃ E2 w2,E2=(E1.setRole h (.seat th.cs home)).setRole th.j .gone∧w2=w1.setChan th.ct 0 #[] false (n'+1) (n'+1) false∧Mv h rb th E w E2 w2∧TKn h rb home k' th E2 w2∧TX h th E2 w2∧GA w2 rb th false false (D.tal ℓ)∧D.M s E2 w2∧E2.ex rb=0:=by
  have hmem:th ∈ ths:=List.mem_of_getElem? ht
  have T:=Ph.tb th hmem
  obtain ⟨q1,q2,q3⟩:=Ph.self th hmem
  obtain ⟨s1,s2,s3⟩:=Ph.ts t th _ ht hst
  have hAw:=hA.2
  have hW1:E1.W=E.W:=hA.1.W'
  obtain ⟨kc,hkc⟩:=T.csC
  generalize hE2:(E1.setRole h (.seat th.cs home)).setRole th.j .gone=E2
  generalize hw2:w1.setChan th.ct 0 #[] false (n'+1) (n'+1) false=w2
  have hr2:∀ x,E2.role x=if x=th.j then .gone else if x=h then .seat th.cs home else E1.role x:=fun x=>by
    rw [← hE2]
    show upd (upd E1.role h (.seat th.cs home)) th.j .gone x=_
    by_cases e1:x=th.j
    · rw [if_pos e1,e1,upd_same]
    · rw [if_neg e1,upd_ne _ _ e1]
      by_cases e2:x=h
      · rw [if_pos e2,e2,upd_same]
      · rw [if_neg e2,upd_ne _ _ e2]
  have hW2:E2.W=E.W:=by rw [← hE2]; exact hW1
  have hH2:E2.H=E.H:=by rw [← hE2]; exact hA.1.H'
  have hex2:E2.ex=E.ex:=by rw [← hE2]; exact hA.1.ex
  have hwg2:E2.wg=E1.wg:=by rw [← hE2]; rfl
  have h2ne:∀ b,b≠th.ct→w2.heap[b]?=w1.heap[b]?:=fun b hb=>by rw [← hw2]; exact heap_setChan_ne w1 _ _ _ _ _ _ (fun z=>hb z.symm)
  have h2ct:w2.heap[th.ct]?=some (.chan 0 #[] false (n'+1) (n'+1) false):=by rw [← hw2]; exact heap_setChan_self w1 hct ..
  have h2sz:w2.heap.size=w1.heap.size:=by rw [← hw2]; simp [World.setChan]
  have hrbg:rb≠th.gb:=fun e=>by have:=Ph.rW; rw [e,T.gW] at this; cases this
  have hrbt:rb≠th.ct:=fun e=>by have:=Ph.rW; rw [e,T.ctW] at this; cases this
  have hrbs:rb≠th.cs:=fun e=>by have:=Ph.rW; rw [e,T.csW] at this; cases this
  have m2:Mv h rb th E w E2 w2:=by
    have a1:Mv h rb th E w E wa:=.world hsz (fun b _ _ _ hb=>hwa b hb) Ph.rW T.gW T.ctW T.csW
    have a2:Mv h rb th E wa E1 w1:=hA.mv (.inl rfl)
    have a3:Mv h rb th E1 w1 (E1.setRole h (.seat th.cs home)) w1:=.role _ (.inr rfl)
    have a4:Mv h rb th (E1.setRole h (.seat th.cs home)) w1 ((E1.setRole h (.seat th.cs home)).setRole th.j .gone) w1:=.role _ (.inl rfl)
    rw [hE2] at a4
    have a5:Mv h rb th E2 w1 E2 w2:=.world h2sz (fun b _ hb _ _=>h2ne b hb) (by rw [hW2]; exact Ph.rW) (by rw [hW2]; exact T.gW) (by rw [hW2]; exact T.ctW) (by rw [hW2]; exact T.csW)
    exact (((a1.trans a2).trans a3).trans a4).trans a5
  have hsame:∀ b,E.W b=false→b≠rb→b≠th.ct→w2.heap[b]?=w.heap[b]?:=fun b h1 h2 h3=>by rw [h2ne b h3,hAw.heap b h1,hwa b h2]
  have T2:TB h rb th E2 w2:=T.mv m2 ⟨_,h2ct⟩ ⟨kc,by rw [hsame _ T.csW hrbs.symm q3.symm]; exact hkc⟩ (fun _ e=>absurd rfl e) (fun hm e=>by rw [hr2,if_pos rfl] at e; cases e) (fun hm e=>by
    rw [hr2,if_neg (fun z=>T.hj z.symm),if_pos rfl] at e
    injection e with z _
    exact q3 z.symm)
  have hL1:Live rb w1:=aw_live Ph.rW hAw hLa
  have hp1:w1.cell? ⟨rb,0,none⟩=some (.int .i64 k'):=aw_cell hAw hpa (fun _=>⟨rfl,hLa⟩)
  obtain ⟨T3,X3⟩:=tk_of_tb (home:=home) (k:=k') T2 (by rw [hr2,if_neg (fun z=>T.hj z.symm),if_pos rfl]) (by rw [hr2,if_pos rfl]) (by rw [hwg2,hA.1.wgS _ (by rw [s1]; rfl)]; exact s2) (by rw [hW2]; exact Ph.rW)
    (by obtain ⟨st',sm',x,e,hx⟩:=hL1; exact ⟨st',sm',x,e,by rw [h2ne _ hrbt]; exact hx⟩) (by unfold World.cell? at hp1 ⊢; rw [h2ne _ hrbt]; exact hp1) (fun b=>m2.mode b (Ph.base.mode b))
  refine ⟨E2,w2,rfl,rfl,m2,T3,X3,?_,?_,by rw [hex2]; exact Ph.ex⟩
  · unfold GA at s3 ⊢
    rw [hsame _ T.gW hrbg.symm q1]; exact s3
  · refine D.closed _ _ _ _ _ Ph.M fun b hb hn=>⟨by rw [hH2]; exact hn,?_⟩
    have n1:b≠rb:=fun e=>by rw [e,hWH rb Ph.rW] at hn; cases hn
    have n2:b≠th.ct:=fun e=>by rw [e,T.ctH] at hn; cases hn
    cases hW:E.W b with
    | false=>exact hsame b hW n1 n2
    | true=>rw [hWH b hW] at hn; cases hn
variable {b₀:Frame} {a₀:Act} {ops₀:Array Oper} {i₀:Nat} {rest₀:List Nat} {k₀:List Item} {cl:List Frame}
theorem given_lists (Ph:Phase D h rb E0 w0 Pv ths st s k E w) (ht:ths[t]?=some th) (o:Option (Nat × Λ)) :
    (∀ x,((∃ th ∈ ths,x=th.j)∨x=th.j) ↔ ∃ th ∈ ths,x=th.j)∧(st.set t o).length=ths.length∧(st.set t o)[t]?=some o∧∀ t' th',t'≠t→ths[t']?=some th'→TB h rb th' E w∧∀ o',(st.set t o)[t']?=some o'→TS D rb th' E w o':=by
  have hmem:th ∈ ths:=List.mem_of_getElem? ht
  have hlt:=(List.getElem?_eq_some_iff.1 ht).1
  refine ⟨fun x=>⟨fun z=>z.elim id fun e=>⟨th,hmem,e⟩,.inl⟩,by rw [List.length_set]; exact Ph.len,by rw [List.getElem?_set_self (by rw [Ph.len]; exact hlt)],fun t' th' hne e=>⟨Ph.tb th' (List.mem_of_getElem? e),fun o' h'=>?_⟩⟩
  rw [List.getElem?_set_ne (fun z=>hne z.symm)] at h'
  exact Ph.ts t' th' o' e h'
theorem fits_next (Ph:Phase D h rb E0 w0 Pv ths st s k E w) (ht:ths[t]?=some th) {n:Nat} {s':σ} {o:Option Λ} (hst:st[t]?=some (some (n+1,ℓ))) (hn:D.next ℓ k' s (s',o)):∀ (t' m':Nat) (ℓ':Λ),(st.set t (o.map (fun x=>(n,x))))[t']?=some (some (m',ℓ'))→D.fits ℓ' s'∧D.who ℓ'=t':=fun t' m' ℓ' e=>by
  by_cases h1:t=t'
  · subst h1
    rw [List.getElem?_set_self (List.getElem?_eq_some_iff.1 hst).1] at e
    cases o with
    | none=>simp at e
    | some y =>
      simp only [Option.map_some,Option.some.injEq,Prod.mk.injEq] at e
      rw [← e.2]
      have z:=D.fresh _ _ _ _ _ (Ph.fits t _ _ hst).1 hn
      exact ⟨z.1,z.2.trans (Ph.fits t _ _ hst).2⟩
  · rw [List.getElem?_set_ne h1] at e
    obtain ⟨g1,g2⟩:=Ph.fits t' m' ℓ' e
    exact ⟨D.mono _ _ _ _ _ _ (Ph.fits t _ _ hst).1 g1 (by rw [g2,(Ph.fits t _ _ hst).2]; exact Ne.symm h1) hn,g2⟩
theorem fits_off (Ph:Phase D h rb E0 w0 Pv ths st s k E w) (ht:ths[t]?=some th):∀ (t' m':Nat) (ℓ':Λ),(st.set t none)[t']?=some (some (m',ℓ'))→D.fits ℓ' s∧D.who ℓ'=t':=fun t' m' ℓ' e=>by
  by_cases h1:t=t'
  · subst h1
    rw [List.getElem?_set_self (by rw [Ph.len]; exact (List.getElem?_eq_some_iff.1 ht).1)] at e
    simp at e
  · rw [List.getElem?_set_ne h1] at e
    exact Ph.fits t' m' ℓ' e
theorem phase_pick_next (hm:D.lax→0 < m) (Ph:Phase D h rb E0 w0 Pv ths st s k E w) (ht:ths[t]?=some th) (hst:st[t]?=some (some (m,ℓ))) (hWH:∀ b,E.W b=true→E.H b=some 1) (hsz:wa.heap.size=w.heap.size) (hwa:∀ b,b≠rb→wa.heap[b]?=w.heap[b]?) (hLa:Live rb wa) (hpa:wa.cell? ⟨rb,0,none⟩=some (.int .i64 k'))
    (hcont:∀ n s' o E' w',m=n+1→D.next ℓ k' s (s',o)→Phase D h rb E0 w0 Pv ths (st.set t (o.map (fun x=>(n,x)))) s' k' E' w'→HG Try.prog h F E' (G (b₀.at (a₀.put ((ops₀[i₀]?).bind (·.dst)) (.tuple #[])) (.inRegion ops₀ rest₀ :: k₀)) cl) w') :
    ∀ E1 w1 n' g₂,AtE h E wa E1 w1→w1.heap[th.ct]?=some (.chan 0 #[] false n' n' false)→Srv D rb th m ℓ g₂→HG Try.prog th.j F (E1.setRole h (.seat th.cs (AtWait th.gb b₀ a₀ ops₀ i₀ rest₀ k₀ cl))) (Go.Conc.served g₂ (.bool true)) (w1.setChan th.ct 0 #[] false (n'+1) (n'+1) false):=by
  intro E1 w1 n' g₂ hA hct hS
  refine HG.clear ?_
  obtain ⟨E2,w2,e1,e2,m2,T2,X2,hga,hM,hex⟩:=given_prep (home:=AtWait th.gb b₀ a₀ ops₀ i₀ rest₀ k₀ cl) Ph ht hst hWH hsz hwa hLa hpa hA hct
  rw [← e1,← e2]
  cases m with
  | zero=>exact absurd (hm hS) (Nat.lt_irrefl 0)
  | succ n =>
    have hgl:=fun o:Option Λ=>given_lists Ph ht (o.map (fun x=>(n,x)))
    have hmem:th ∈ ths:=List.mem_of_getElem? ht
    exact (hS h _ k' F E2 w2 s T2 hga hM (Ph.fits t _ ℓ hst).1).1 (fun s' o hn=>back_hg Ph.base (hgl o).1 (.inl ⟨th,hmem,rfl⟩) (hgl o).2.1 Ph.new Ph.apart Ph.self (hgl o).2.2.2 m2 T2 X2 ht (hgl o).2.2.1 hex Ph.pv (fits_next Ph ht hst hn) (fun E' w' p=>hcont n s' o E' w' rfl hn p) (fun _ z=>z))
theorem phase_off_next (hm:D.lax→0 < m) (Ph:Phase D h rb E0 w0 Pv ths st s k E w) (ht:ths[t]?=some th) (hst:st[t]?=some (some (m,ℓ))) (hWH:∀ b,E.W b=true→E.H b=some 1)
    (hcont:∀ E' w',Phase D h rb E0 w0 Pv ths (st.set t none) s k E' w'→HG Try.prog h F E' (G (b₀.at (a₀.put ((ops₀[i₀]?).bind (·.dst)) (.tuple #[])) (.inRegion ops₀ rest₀ :: k₀)) cl) w') :
    ∀ E1 w1 n' g₂,AtE h E w E1 w1→w1.heap[th.ct]?=some (.chan 0 #[] false n' n' false)→Srv D rb th m ℓ g₂→HG Try.prog th.j F (E1.setRole h (.seat th.cs (AtWait th.gb b₀ a₀ ops₀ i₀ rest₀ k₀ cl))) (Go.Conc.served g₂ (.bool false)) (w1.setChan th.ct 0 #[] false (n'+1) (n'+1) false):=by
  intro E1 w1 n' g₂ hA hct hS
  refine HG.clear ?_
  obtain ⟨E2,w2,e1,e2,m2,T2,X2,hga,hM,hex⟩:=given_prep (home:=AtWait th.gb b₀ a₀ ops₀ i₀ rest₀ k₀ cl) Ph ht hst hWH rfl (fun _ _=>rfl) Ph.rL Ph.pick hA hct
  rw [← e1,← e2]
  cases m with
  | zero=>exact absurd (hm hS) (Nat.lt_irrefl 0)
  | succ n =>
    obtain ⟨l1,l2,l3,l4⟩:=given_lists Ph ht none
    have hmem:th ∈ ths:=List.mem_of_getElem? ht
    exact (hS h _ k F E2 w2 s T2 hga hM (Ph.fits t _ ℓ hst).1).2 (back_hg (n:=n) (o:=none) Ph.base l1 (.inl ⟨th,hmem,rfl⟩) l2 Ph.new Ph.apart Ph.self l4 m2 T2 X2 ht l3 hex Ph.pv (fits_off Ph ht) hcont (fun _ z=>z))
theorem phase_pick (hm:D.lax→0 < m) (Ph:Phase D h rb E0 w0 Pv ths st s k E w) (ht:ths[t]?=some th) (hst:st[t]?=some (some (m,ℓ))) (hk:IntKind.i64.wrap (k+1)=k+1)
    (hcont:∀ n s' o E' w',m=n+1→D.next ℓ (k+1) s (s',o)→Phase D h rb E0 w0 Pv ths (st.set t (o.map (fun x=>(n,x)))) s' (k+1) E' w'→HG Try.prog h F E' (G (b₀.at (a₀.put ((ops₀[i₀]?).bind (·.dst)) (.tuple #[])) (.inRegion ops₀ rest₀ :: k₀)) cl) w') :
    HGn Try.prog h F E w 100 (entry 75 Try.f75 #[.pointer (some ⟨th.gb,0,none⟩)] (b₀.at a₀ (.inRegion ops₀ (i₀ :: rest₀) :: k₀) :: cl)):=by
  refine HG.withH fun hWH hWS=>?_
  have hmem:th ∈ ths:=List.mem_of_getElem? ht
  have T:=Ph.tb th hmem
  obtain ⟨s1,s2,s3⟩:=Ph.ts t th _ ht hst
  obtain ⟨kc,hkc⟩:=T.csC
  have hSr:∀ i,E.St i ⟨rb,0,none⟩=none:=fun i=>hWS i _ Ph.rW
  refine pick_go (h:=h) (j:=th.j) (home:=Srv D rb th m ℓ) (home':=AtWait th.gb b₀ a₀ ops₀ i₀ rest₀ k₀ cl) s3 T.gW Ph.pick Ph.rW Ph.rL hSr Ph.role s1 T.hj T.stS hkc T.csH T.noS (fun _ z=>z) ?_
  rw [hk]
  obtain ⟨st',sm',x,e,hx⟩:=Ph.rL
  refine phase_pick_next hm Ph ht hst hWH (by simp [World.setCell]) (fun b hb=>heap_setCell_ne (fun z=>hb z.symm)) ⟨st',sm',.int .i64 (k+1),e,heap_set (a:=⟨rb,0,none⟩) rfl hx⟩ ?_ hcont
  exact World.cell?_setCell_same (h:=Ph.pick) ..
theorem Base.tick {J:Nat→Prop} (B:Base h rb J E0 w0 E w) (hsz:wa.heap.size=w.heap.size) (hwa:∀ b,b≠rb→wa.heap[b]?=w.heap[b]?):Base h rb J E0 w0 E wa :=
  ⟨B.seat,B.gone,B.newR,B.role0,B.St,B.StN,B.W,B.WN,B.H,B.wg,B.wgH,B.wgS,B.wgJ,B.ex,B.mode0,B.mode,by rw [hsz]; exact B.size,fun b n h1 h2 h3=>by rw [hwa b (fun e=>by have:=B.rN; omega)]; exact B.heap b n h1 h2 h3,fun b h1 x st sm e hx=>by rw [hwa b (fun e=>by rw [e,B.rW0] at h1; cases h1)]; exact B.heapW b h1 x st sm e hx,B.rN,B.rW0,B.rX0,by first | exact B.io | exact m.io.trans B.io | exact a.1.io.trans B.io | exact B1.io | rfl⟩
theorem TB.tick {h rb:Nat} {th:Th} (T:TB h rb th E w) (hW:E.W rb=true) (hsz:wa.heap.size=w.heap.size) (hwa:∀ b,b≠rb→wa.heap[b]?=w.heap[b]?):TB h rb th E wa:=by
  obtain ⟨k1,c1⟩:=T.ctC
  obtain ⟨k2,c2⟩:=T.csC
  exact ⟨T.hj,T.j0,T.gW,T.gH,T.ctH,T.ctW,⟨k1,by rw [hwa _ (fun e=>by rw [← e,T.ctW] at hW; cases hW)]; exact c1⟩,T.csH,T.csW,⟨k2,by rw [hwa _ (fun e=>by rw [← e,T.csW] at hW; cases hW)]; exact c2⟩,T.stT,T.stS,T.stB,T.bW,by rw [hsz]; exact T.bL,by rw [hsz]; exact T.gL,T.noSt,T.noT,T.noS⟩
theorem TS.tick {th:Th} {o:Option (Nat × Λ)} (S:TS D rb th E w o) (hW:E.W rb=true) (hg:E.W th.gb=false) (hwa:∀ b,b≠rb→wa.heap[b]?=w.heap[b]?):TS D rb th E wa o:=by
  have hga:∀ en fr tl,GA w rb th en fr tl→GA wa rb th en fr tl:=fun en fr tl g=>by
    unfold GA at g ⊢
    rw [hwa _ (fun e=>by rw [← e,hg] at hW; cases hW)]; exact g
  match o,S with
  | some (n,ℓ),⟨s1,s2,s3⟩=>exact ⟨s1,s2,hga _ _ _ s3⟩
  | none,⟨s1,fr,tl,s2⟩=>exact ⟨s1,fr,tl,hga _ _ _ s2⟩
theorem Phase.tick (Ph:Phase D h rb E0 w0 Pv ths st s k E w) (hWH:∀ b,E.W b=true→E.H b=some 1) (hsz:wa.heap.size=w.heap.size) (hwa:∀ b,b≠rb→wa.heap[b]?=w.heap[b]?) (hLa:Live rb wa) (hpa:wa.cell? ⟨rb,0,none⟩=some (.int .i64 k')):Phase D h rb E0 w0 Pv ths st s k' E wa :=
  ⟨Ph.base.tick hsz hwa,Ph.role,Ph.len,fun th hm=>(Ph.tb th hm).tick Ph.rW hsz hwa,Ph.new,Ph.apart,Ph.self,fun t th o e1 e2=>(Ph.ts t th o e1 e2).tick Ph.rW (Ph.tb th (List.mem_of_getElem? e1)).gW hwa,Ph.ex,Ph.rW,hLa,hpa,
    D.closed _ _ _ _ _ Ph.M fun b _ hn=>⟨hn,hwa b (fun e=>by rw [e,hWH rb Ph.rW] at hn; cases hn)⟩,fun b o e=>by
      obtain ⟨p1,p2,p3,p4⟩:=Ph.pv b o e
      exact ⟨by rw [hwa b (fun z=>by rw [z,Ph.rW] at p3; cases p3)]; exact p1,p2,p3,p4⟩,Ph.fits⟩
theorem phase_pick_over (Ph:Phase D h rb E0 w0 Pv ths st s k E w) (ht:ths[t]?=some th) (hst:st[t]?=some none) (hk:IntKind.i64.wrap (k+1)=k+1)
    (hcont:∀ E' w',Phase D h rb E0 w0 Pv ths st s (k+1) E' w'→HG Try.prog h F E' (G (b₀.at (a₀.put ((ops₀[i₀]?).bind (·.dst)) (.tuple #[])) (.inRegion ops₀ rest₀ :: k₀)) cl) w') :
    HGn Try.prog h F E w 100 (entry 75 Try.f75 #[.pointer (some ⟨th.gb,0,none⟩)] (b₀.at a₀ (.inRegion ops₀ (i₀ :: rest₀) :: k₀) :: cl)):=by
  refine HG.withH fun hWH hWS=>?_
  have hmem:th ∈ ths:=List.mem_of_getElem? ht
  have T:=Ph.tb th hmem
  obtain ⟨s1,fr,tl,s2⟩:=Ph.ts t th _ ht hst
  refine pick_over s2 T.gW Ph.pick Ph.rW Ph.rL (fun i=>hWS i _ Ph.rW) Ph.role ?_
  rw [hk]
  obtain ⟨st',sm',x,e,hx⟩:=Ph.rL
  exact hcont _ _ (Ph.tick hWH (by simp [World.setCell]) (fun b hb=>heap_setCell_ne (fun z=>hb z.symm)) ⟨st',sm',.int .i64 (k+1),e,heap_set (a:=⟨rb,0,none⟩) rfl hx⟩ (World.cell?_setCell_same (h:=Ph.pick) ..))
end
section
variable {σ Λ:Type} {D:Prot σ Λ} {Pv:Nat→Option Obj} {h rb:Nat} {J:Nat→Prop} {E0 E E1:Env} {w0 w w1:World} {ths:List Th} {st:List (Option (Nat × Λ))} {s:σ} {k:Int} {th:Th} {o:Option (Nat × Λ)}
theorem Base.at (B:Base h rb J E0 w0 E w) (a:AtE h E w E1 w1):Base h rb J E0 w0 E1 w1:=by
  have hE:=a.1
  refine ⟨fun x c home h1 h2=>(B.seat x c home h1 h2).trans (hE.seat x c home),fun x h1 h2 e=>hE.gone x (B.gone x h1 h2 e),B.newR,B.role0,fun x ad v e=>by rw [hE.St']; exact B.St x ad v e,fun i ad e=>B.StN i ad (by rw [← hE.St']; exact e),fun b e=>by rw [hE.W']; exact B.W b e,fun b e=>B.WN b (by rw [← hE.W']; exact e),fun b n e=>by rw [hE.H']; exact B.H b n e,fun x b h1 e=>B.wg x b h1 (hE.wg x b e),hE.wgH.trans B.wgH,fun x h1 h2 e=>?_,fun x b h1 e=>B.wgJ x b h1 (hE.wg x b e),fun b hb=>(congrFun hE.ex b).trans (B.ex b hb),B.mode0,fun b=>hE.mode b (B.mode b),Nat.le_trans B.size (Nat.le_of_eq a.2.size.symm),fun b n h1 h2 h3=>?_,fun b h1 x st sm e hx=>?_,B.rN,B.rW0,B.rX0,by first | exact B.io | exact m.io.trans B.io | exact a.1.io.trans B.io | exact B1.io | rfl⟩
  · have hs:(E.role x).sits=true:=by
      cases er:E0.role x with
      | seat c home=>rw [(B.seat x c home h1 h2).1 er]; rfl
      | _=>rw [er] at e; cases e
    exact (hE.wgS x hs).trans (B.wgS x h1 h2 e)
  · have hW:E.W b=false:=by
      cases e:E.W b with
      | false=>rfl
      | true =>
        rcases B.WN b e with z | z
        · rw [h2] at z; cases z
        · omega
    rw [a.2.heap b hW,B.heap b n h1 h2 h3]
  · obtain ⟨st',sm',h3⟩:=B.heapW b h1 x st sm e hx
    exact a.2.run b (B.W b h1) x st' sm' e h3
theorem TB.at (T:TB h rb th E w) (a:AtE h E w E1 w1) (hr:E.role h=.gone):TB h rb th E1 w1:=by
  obtain ⟨k1,c1⟩:=T.ctC
  obtain ⟨k2,c2⟩:=T.csC
  exact T.mv (th:=th) (a.mv (.inl rfl)) ⟨k1,by rw [a.2.heap _ T.ctW]; exact c1⟩ ⟨k2,by rw [a.2.heap _ T.csW]; exact c2⟩ (fun _ e=>absurd rfl e) (fun home e=>T.noS _ home T.hj ((a.1.seat _ _ _).2 e)) (fun home e=>by rw [a.1.roleH,hr] at e; cases e)
theorem TS.at (S:TS D rb th E w o) (hg:E.W th.gb=false) (a:AtE h E w E1 w1):TS D rb th E1 w1 o:=by
  have hga:∀ en fr tl,GA w rb th en fr tl→GA w1 rb th en fr tl:=fun en fr tl g=>by
    unfold GA at g ⊢
    rw [a.2.heap _ hg]; exact g
  match o,S with
  | some (n,ℓ),⟨s1,s2,s3⟩=>exact ⟨(a.1.seat _ _ _).1 s1,(a.1.wgS _ (by rw [s1]; rfl)).trans s2,hga _ _ _ s3⟩
  | none,⟨s1,fr,tl,s2⟩=>exact ⟨(a.1.toLe.sits _).trans s1,fr,tl,hga _ _ _ s2⟩
theorem Phase.at (Ph:Phase D h rb E0 w0 Pv ths st s k E w) (hWH:∀ b,E.W b=true→E.H b=some 1) (a:AtE h E w E1 w1):Phase D h rb E0 w0 Pv ths st s k E1 w1 :=
  ⟨Ph.base.at a,a.1.roleH.trans Ph.role,Ph.len,fun th hm=>(Ph.tb th hm).at a Ph.role,Ph.new,Ph.apart,Ph.self,fun t th o e1 e2=>(Ph.ts t th o e1 e2).at (Ph.tb th (List.mem_of_getElem? e1)).gW a,(congrFun a.1.ex rb).trans Ph.ex,by rw [a.1.W']; exact Ph.rW,aw_live Ph.rW a.2 Ph.rL,aw_cell a.2 Ph.pick (fun _=>⟨rfl,Ph.rL⟩),
    D.closed _ _ _ _ _ Ph.M fun b _ hn=>⟨by rw [a.1.H']; exact hn,a.2.heap b (by
      cases e:E.W b with
      | false=>rfl
      | true=>rw [hWH b e] at hn; cases hn)⟩,fun b o e=>by
      obtain ⟨p1,p2,p3,p4,p5⟩:=Ph.pv b o e
      exact ⟨by rw [a.2.heap b p3]; exact p1,by rw [a.1.H']; exact p2,by rw [a.1.W']; exact p3,p4,fun i x ex=>by rw [a.1.St']; exact p5 i x ex⟩,Ph.fits⟩
end
theorem fit_show {H H':Nat→Option Nat} {W:Nat→Bool} {w:World} (hf:Fit H W w) (h1:∀ b n,H' b=some n→H b=some n) (h2:∀ b,H' b=none→H b=none∨∃ c e f,w.heap[b]?=some (.cells c e f)) (h3:∀ b,W b=true→H' b=some 1):Fit H' W w:=by
  refine ⟨fun b o ho=>?_,fun b hb=>?_,fun b n o hD ho=>hf.hides b n o (h1 b n hD) ho,hf.ok,h3⟩
  · cases hD:H' b with
    | none =>
      rw [vw_get_none hD] at ho
      rcases h2 b hD with e | ⟨c,e,f,e1⟩
      · exact hf.fair b o (by rw [vw_get_none e]; exact ho)
      · rw [e1] at ho; cases ho; rfl
    | some n =>
      rw [vw_get_some hD] at ho
      exact hf.fair b o (by rw [vw_get_some (h1 b n hD)]; exact ho)
  · cases hD:H' b with
    | none=>rfl
    | some n=>have:=h1 b n hD; rw [hf.bound b hb] at this; cases this
section
variable {P:Program} {E:Env} {h dh:Nat} {T:Trace} {gs:Array Goroutine} {w:World} {q:Nat→Nat}
theorem Co.show (C:Co P E h dh T gs w q) {H':Nat→Option Nat} (h1:∀ b n,H' b=some n→E.H b=some n) (h2:∀ b,H' b=none→E.H b=none∨((∃ c e f,w.heap[b]?=some (.cells c e f))∧E.W b=false∧∀ i a,a.block=b→E.St i a=none)) (hrole:E.role h=.gone):Co P { E with H:=H' } h dh T gs w q:=by
  have hfit:Fit H' E.W w:=fit_show C.fit h1 (fun b e=>(h2 b e).imp id (·.1)) (fun b hb=>by
    cases e:H' b with
    | some n=>have:=h1 b n e; rw [C.fit.sub b hb] at this; exact this.symm
    | none =>
      rcases h2 b e with z | ⟨_,z,_⟩
      · rw [C.fit.sub b hb] at z; cases z
      · rw [hb] at z; cases z)
  refine ⟨C.lt,C.idle,C.chans,C.inj,C.above,C.keep,C.dis,hfit,fun i a hs=>?_,fun i c home e=>?_,C.past,C.wgW,C.fresh,C.groups,C.few,C.modes,C.lastEx,C.zero,C.one,by first | exact ⟨C.io.1,C.io.2⟩ | exact C.io.trans ⟨hA.os,hA.output⟩ | exact C.io.trans hio | exact ⟨C₁.io.1,C₁.io.2⟩ | exact C₁.io.trans ⟨hA.os,hA.output⟩⟩
  · obtain ⟨n,n1,n2⟩:=C.hidS i a hs
    cases e:H' a.block with
    | some m=>have:=h1 _ _ e; rw [n1] at this; cases this; exact ⟨n,e,n2⟩
    | none =>
      rcases h2 _ e with z | ⟨_,_,z⟩
      · rw [n1] at z; cases z
      · rw [z i a rfl] at hs; cases hs
  · have hc:=C.hidC i c home e
    cases e':H' c with
    | some m=>have:=h1 _ _ e'; rw [hc] at this; cases this; exact e'
    | none =>
      rcases h2 _ e' with z | ⟨⟨cc,ee,ff,z⟩,_⟩
      · rw [hc] at z; cases z
      · have hih:i≠h:=fun x=>by
          subst x
          have e2:E.role i=.seat c home:=e
          rw [hrole] at e2; cases e2
        obtain ⟨k,hk⟩:=C.chans i c home hih (C.seat_lt e) e
        rw [hk] at z; cases z
end
section
variable {P:Program} {h:Nat} {F:Machine→Trace→Prop} {E:Env} {w:World} {g:Goroutine}
theorem HG.show {H':Nat→Option Nat} (h1:∀ b n,H' b=some n→E.H b=some n) (h2:∀ b,H' b=none→E.H b=none∨((∃ c e f,w.heap[b]?=some (.cells c e f))∧E.W b=false∧∀ i a,a.block=b→E.St i a=none)) (hrole:E.role h=.gone) (hg:HG P h F { E with H:=H' } g w):HG P h F E g w:=by
  intro E' w' gs T q sl ⟨hE,hA⟩ C ha
  refine hg { E' with H:=H' } w' gs T q sl ⟨⟨⟨hE.seat,hE.gone,hE.roleH,hE.St,hE.W,fun _ _ e=>e,hE.wg,hE.wgH,hE.wgS,hE.ex,hE.mode,hE.modeUp,hE.io⟩,hE.W',hE.St',rfl⟩,hA⟩ (C.show (by rw [hE.H']; exact h1) (fun b e=>?_) (hE.roleH.trans hrole)) ha
  rcases h2 b e with z | ⟨⟨c,e',f,z1⟩,z2,z3⟩
  · exact .inl (by rw [hE.H']; exact z)
  · exact .inr ⟨⟨c,e',f,by rw [hA.heap b z2]; exact z1⟩,by rw [hE.W']; exact z2,fun i a e=>by rw [hE.St']; exact z3 i a e⟩
theorem closed_none (P:Program):Closed P (fun _=>false):=by
  constructor <;> intros <;> simp_all
theorem HG.quiet {fr:Frame} {a:Act} {k:List Item} {cs:List Frame} {x:Code} {Q:Act→World→Env→World→Prop} (hq:quietCode P (fun _=>false) x=true) (hk:fr.kind=.normal) (ha:a.defers=[])
    (hwp:∀ E1 w1,AtE h E w E1 w1→Fit E1.H E1.W w1→∀ τ,x.wp P (fun e a' x'=>e=.normal∧a'.defers=[]∧∀ w' τ' d,x'=rt (vw E1.H w') τ' d→Far E1.H E1.W w1 w'→Fit E1.H E1.W w'→Q a' w' E1 w1) a (rt (vw E1.H w1) τ 0))
    (hg:∀ E1 w1,AtE h E w E1 w1→∀ a' w',a'.defers=[]→Far E1.H E1.W w1 w'→Fit E1.H E1.W w'→Q a' w' E1 w1→HG P h F E1 (G (fr.at a' k) cs) w'):HG P h F E (G (fr.at a (.code x :: k)) cs) w:=by
  refine HG.open fun E1 w1 hA ⟨gs,T,q,C,_⟩=>?_
  have hD:Lets E1.H E1.W E1.D:=lets_dg (fun a ⟨i,hi⟩=>C.hidS i a hi) (fun c ⟨i,home,e⟩=>C.hidC i c home e) C.fit.sub
  exact (HG.clo P h F E1).quiet (Q:=fun a' w'=>Q a' w' E1 w1) (closed_none P) hD hq hk ha C.fit (hwp E1 w1 hA C.fit) (fun a' w' h1 h2 h3 h4=>hg E1 w1 hA a' w' h1 h2 h3 h4)
end
theorem AtE.virt {h:Nat} {E E1:Env} {w w1:World} {Hs:Nat→Option Nat} (a:AtE h { E with H:=Hs } w E1 w1):AtE h E w { E1 with H:=E.H } w1∧E1.H=Hs :=
  ⟨⟨⟨⟨a.1.seat,a.1.gone,a.1.roleH,a.1.St,a.1.W,fun _ _ e=>e,a.1.wg,a.1.wgH,a.1.wgS,a.1.ex,a.1.mode,a.1.modeUp,a.1.io⟩,a.1.W',a.1.St',rfl⟩,a.2⟩,a.1.H'⟩
section
variable {σ Λ:Type} {D:Prot σ Λ} {Pv Pv':Nat→Option Obj} {h rb:Nat} {J:Nat→Prop} {E0 E E1:Env} {w0 w w1 w3:World} {ths:List Th} {st:List (Option (Nat × Λ))} {s:σ} {k:Int} {th:Th} {o:Option (Nat × Λ)}
theorem Phase.hide (Ph:Phase D h rb E0 w0 Pv ths st s k E w) (hPn:∀ b o,Pv b=some o→w0.heap.size≤b) {H3:Nat→Option Nat} {S3:Addr→Option Value} (hsz:w.heap.size≤w3.heap.size) (hold:∀ b,b < w.heap.size→Pv b=none→E.W b=false→w3.heap[b]?=w.heap[b]?) (holdW:∀ b,E.W b=true→∀ x st sm e,w.heap[b]?=some (runObj x st sm e)→∃ st' sm',w3.heap[b]?=some (runObj x st' sm' e))
    (hpv:∀ b o,Pv' b=some o→w3.heap[b]?=some o∧H3 b=some 0∧E.W b=false∧(∀ th ∈ ths,b ∉ th.bl)∧∀ i a,a.block=b→upd E.St h S3 i a=none) (hH:∀ b n,E.H b=some n→H3 b=some n) (hHn:∀ b,b < w.heap.size→E.H b=none→H3 b=none) (hWH:∀ b,E.W b=true→E.H b=some 1)
    (hS:∀ a v,E.St h a=some v→S3 a=some v) (hSn:∀ a,S3 a≠none→E.St h a≠none∨w.heap.size≤a.block):Phase D h rb E0 w0 Pv' ths st s k { E with H:=H3,St:=upd E.St h S3 } w3:=by
  have B:=Ph.base
  have hPnone:∀ {b},(∃ th ∈ ths,b ∈ th.bl)→Pv b=none:=fun {b} ⟨th,hm,hb⟩=>by
    cases e:Pv b with
    | none=>rfl
    | some o=>exact absurd hb ((Ph.pv b o e).2.2.2.1 th hm)
  have hPW:∀ {b},E.W b=true→Pv b=none:=fun {b} hb=>by
    cases e:Pv b with
    | none=>rfl
    | some o=>have:=(Ph.pv b o e).2.2.1; rw [hb] at this; cases this
  have hP0:∀ {b},b < w0.heap.size→Pv b=none:=fun {b} hb=>by
    cases e:Pv b with
    | none=>rfl
    | some o=>have:=hPn b o e; omega
  have hSt:∀ x a v,E.St x a=some v→upd E.St h S3 x a=some v:=fun x a v e=>by
    by_cases hx:x=h
    · subst hx; rw [upd_same]; exact hS a v e
    · rw [upd_ne _ _ hx]; exact e
  have hStN:∀ i a,upd E.St h S3 i a≠none→E.St i a≠none∨w.heap.size≤a.block:=fun i a e=>by
    by_cases hx:i=h
    · subst hx; rw [upd_same] at e; exact hSn a e
    · rw [upd_ne _ _ hx] at e; exact .inl e
  have hrW:=Ph.rW
  obtain ⟨st0,sm0,x0,e0,hx0⟩:=Ph.rL
  obtain ⟨st1,sm1,hx1⟩:=holdW rb hrW _ _ _ _ hx0
  have hcell:∀ {th:Th},th ∈ ths→∀ b ∈ th.bl,E.W b=false→b < w.heap.size→w3.heap[b]?=w.heap[b]?:=fun hm b hb hW hl=>hold b hl (hPnone ⟨_,hm,hb⟩) hW
  refine ⟨⟨B.seat,B.gone,B.newR,B.role0,fun x a v e=>hSt x a v (B.St x a v e),fun i a e=>?_,B.W,B.WN,fun b n e=>hH b n (B.H b n e),B.wg,B.wgH,B.wgS,B.wgJ,B.ex,B.mode0,B.mode,Nat.le_trans B.size hsz,fun b n h1 h2 h3=>?_,fun b h1 x st sm e hx=>?_,B.rN,B.rW0,B.rX0,by first | exact B.io | exact m.io.trans B.io | exact a.1.io.trans B.io | exact B1.io | rfl⟩,Ph.role,Ph.len,fun th hm=>?_,Ph.new,Ph.apart,Ph.self,fun t th o e1 e2=>?_,Ph.ex,hrW,
    ⟨st1,sm1,x0,e0,hx1⟩,?_,D.closed _ _ _ _ _ Ph.M fun b hb hn=>⟨hHn b hb hn,hold b hb ?_ ?_⟩,hpv,Ph.fits⟩
  · rcases hStN i a e with z | z
    · exact B.StN i a z
    · exact .inr (Nat.le_trans B.size z)
  · have hW:E.W b=false:=by
      cases e:E.W b with
      | false=>rfl
      | true =>
        rcases B.WN b e with z | z
        · rw [h2] at z; cases z
        · omega
    rw [hold b (Nat.lt_of_lt_of_le h3 B.size) (hP0 h3) hW]; exact B.heap b n h1 h2 h3
  · obtain ⟨st',sm',h3⟩:=B.heapW b h1 x st sm e hx
    exact holdW b (B.W b h1) x st' sm' e h3
  · have T:=Ph.tb th hm
    obtain ⟨k1,c1⟩:=T.ctC
    obtain ⟨k2,c2⟩:=T.csC
    refine ⟨T.hj,T.j0,T.gW,hH _ _ T.gH,hH _ _ T.ctH,T.ctW,⟨k1,by rw [hcell hm _ (by simp [Th.bl]) T.ctW (Array.getElem?_eq_some_iff.1 c1).1]; exact c1⟩,hH _ _ T.csH,T.csW,⟨k2,by rw [hcell hm _ (by simp [Th.bl]) T.csW (Array.getElem?_eq_some_iff.1 c2).1]; exact c2⟩,hSt _ _ _ T.stT,hSt _ _ _ T.stS,hSt _ _ _ T.stB,T.bW,Nat.lt_of_lt_of_le T.bL hsz,Nat.lt_of_lt_of_le T.gL hsz,fun i x hx=>?_,T.noT,T.noS⟩
    cases e:upd E.St h S3 i ⟨th.gb,x,none⟩ with
    | none=>exact e
    | some v =>
      rcases hStN i _ (by rw [e]; simp) with z | z
      · exact absurd (T.noSt i x hx) z
      · have z':w.heap.size≤th.gb:=z
        have:=T.gL
        omega
  · have hm:=List.mem_of_getElem? e1
    have T:=Ph.tb th hm
    have hga:∀ en fr tl,GA w rb th en fr tl→GA w3 rb th en fr tl:=fun en fr tl g=>by
      unfold GA at g ⊢
      rw [hcell hm _ (by simp [Th.bl]) T.gW T.gL]; exact g
    match o,Ph.ts t th o e1 e2 with
    | some (n,ℓ),⟨s1,s2,s3⟩=>exact ⟨s1,s2,hga _ _ _ s3⟩
    | none,⟨s1,fr,tl,s2⟩=>exact ⟨s1,fr,tl,hga _ _ _ s2⟩
  · have:=Ph.pick
    unfold World.cell? at this ⊢
    rw [hx0] at this
    rw [hx1]; exact this
  · cases e:Pv b with
    | none=>rfl
    | some o=>have:=(Ph.pv b o e).2.1; rw [hn] at this; cases this
  · cases e:E.W b with
    | false=>rfl
    | true=>rw [hWH b e] at hn; cases hn
theorem Phase.grow (Ph:Phase D h rb E0 w0 Pv ths st s k E w) (hPn:∀ b o,Pv b=some o→w0.heap.size≤b) (hWH:∀ b,E.W b=true→E.H b=some 1) (hsz:w.heap.size≤w3.heap.size) (hold:∀ b,b < w.heap.size→E.W b=false→w3.heap[b]?=w.heap[b]?) (holdW:∀ b,E.W b=true→∀ x st sm e,w.heap[b]?=some (runObj x st sm e)→∃ st' sm',w3.heap[b]?=some (runObj x st' sm' e)):Phase D h rb E0 w0 Pv ths st s k E w3:=by
  have:=Ph.hide (Pv':=Pv) (H3:=E.H) (S3:=E.St h) hPn hsz (fun b hb _ hW=>hold b hb hW) holdW (fun b o e=>by
    obtain ⟨p1,p2,p3,p4,p5⟩:=Ph.pv b o e
    exact ⟨by rw [hold b (Array.getElem?_eq_some_iff.1 p1).1 p3]; exact p1,p2,p3,p4,fun i a ea=>by
      by_cases hx:i=h
      · subst hx; rw [upd_same]; exact p5 _ a ea
      · rw [upd_ne _ _ hx]; exact p5 i a ea⟩) (fun _ _ e=>e) (fun _ _ e=>e) hWH (fun _ _ e=>e) (fun _ e=>.inl e)
  have e:({ E with H:=E.H,St:=upd E.St h (E.St h) }:Env)=E:=by
    have:upd E.St h (E.St h)=E.St:=by
      funext x
      by_cases hx:x=h
      · subst hx; rw [upd_same]
      · rw [upd_ne _ _ hx]
    rw [this]
  rw [e] at this
  exact this
theorem Upped.mv {E3 E4:Env} {w4:World} (u:Upped h rb (AtE h E3 w3) E4 w4):Mv h rb th E3 w3 E4 w4∧E4.ex rb=E3.ex rb+1∧E4.H=E3.H∧E4.W=E3.W∧E4.St=E3.St∧E4.role h=E3.role h∧Aw E3.W w3 w4∧(∀ x c home,E3.role x=.seat c home ↔ E4.role x=.seat c home):=by
  obtain ⟨Ea,wa,a1,a2,a3⟩:=u
  have m1:Mv h rb th E3 w3 Ea wa:=a1.mv (.inl rfl)
  have m2:Mv h rb th Ea wa { Ea with ex:=upd Ea.ex rb (Ea.ex rb+1) } wa:=⟨fun _ _ _ _ _=>Iff.rfl,fun _ _ _ e=>e,fun _ _ _ e=>e,fun _ _ e=>.inl e,fun _ e=>e,fun _ e=>.inl e,fun _ _ e=>e,fun _ _ _ e=>e,rfl,fun _ _ _ _=>rfl,fun _ e=>.inl e,fun b hb=>upd_ne _ _ hb,fun _ e=>e,Nat.le_refl _,fun _ _ _ _ _ _ _ _=>rfl,fun _ _ _ x st sm e hx=>⟨st,sm,hx⟩,by first | rfl | exact m.io | exact a.io | exact a.le.io | exact b.io.trans a.io | exact a.1.io⟩
  have m3:Mv h rb th { Ea with ex:=upd Ea.ex rb (Ea.ex rb+1) } wa E4 w4:=AtE.mv (j:=h) ⟨a2,a3⟩ (.inl rfl)
  refine ⟨(m1.trans m2).trans m3,?_,a2.H'.trans a1.1.H',a2.W'.trans a1.1.W',a2.St'.trans a1.1.St',a2.roleH.trans a1.1.roleH,a1.2.trans _ _ _ (by rw [← a1.1.W']; exact a3),fun x c home=>(a1.1.seat x c home).trans (a2.seat x c home)⟩
  rw [a2.ex]
  show upd Ea.ex rb (Ea.ex rb+1) rb=_
  rw [upd_same,a1.1.ex]
theorem quiet_heap {H:Nat→Option Nat} {W:Nat→Bool} {w1 w':World} (hF:Far H W w1 w') (hfit:Fit H W w1):(∀ b,b < w1.heap.size→W b=false→(vw H w').heap[b]?=(vw H w1).heap[b]?→w'.heap[b]?=w1.heap[b]?) ∧
    (∀ b,W b=true→(vw H w').heap[b]?=(vw H w1).heap[b]?→∀ x st sm e,w1.heap[b]?=some (runObj x st sm e)→∃ st' sm',w'.heap[b]?=some (runObj x st' sm' e)):=by
  refine ⟨fun b hb hW hv=>?_,fun b hW hv x st sm e hx=>?_⟩
  · cases hH:H b with
    | none=>rw [vw_get_none hH,vw_get_none hH] at hv; exact hv
    | some m =>
      rcases hF.hid b m hH hW hb with ⟨c,c',e,f,h1,h2,h3,h4⟩ | h1
      · rw [vw_get_some hH,vw_get_some hH,h1,h2] at hv
        simp only [Option.map_some,hideObj,Option.some.injEq,Obj.cells.injEq] at hv
        rw [h1,h2]
        have:c'=c:=by
          apply Array.ext_getElem?
          intro i
          by_cases hi:m≤i
          · exact h4 i hi
          · have:=congrArg (·[i]?) hv.1
            simp only [Array.getElem?_extract] at this
            by_cases hl:i < c.size
            · rw [if_pos (by omega),if_pos (by omega)] at this
              simpa using this
            · rw [Array.getElem?_eq_none (by omega),Array.getElem?_eq_none (by omega)]
        rw [this]
      · exact h1
  · obtain ⟨x',st',sm',h1⟩:=hF.run b hW x st sm e hx
    have hH:=hfit.sub b hW
    rw [vw_get_some hH,vw_get_some hH,hx,h1] at hv
    simp only [Option.map_some,hideObj,runObj,Option.some.injEq,Obj.cells.injEq] at hv
    have h2:=congrArg (·[0]?) hv.1
    simp at h2
    exact ⟨st',sm',by rw [h1,h2]⟩
end
end Go.Proofs.Ytimlbbleblijnaa.Co

namespace Go.Proofs.Ytimlbbleblijnaa.Co
open Go Go.Conc
noncomputable def rBody:Code:=Try.f29.body.getD .skip
noncomputable def rHire:Code:=match rBody with | .seq _ (.seq _ (.seq _ (.seq _ x)))=>x | _=>.skip
noncomputable def rA:Code:=match rHire with | .seq (.seq _ (.block _ (.loop a))) _=>a | _=>.skip
noncomputable def rB:Code:=match rHire with | .seq _ b=>b | _=>.skip
noncomputable def rC:Code:=match rB with | .seq _ (.seq _ (.seq (.seq _ (.block _ (.loop c))) _))=>c | _=>.skip
noncomputable def rD:Code:=match rB with | .seq _ (.seq _ (.seq _ d))=>d | _=>.skip
noncomputable def rE:Code:=match rD with | .seq (.seq _ (.block _ (.loop e))) _=>e | _=>.skip
noncomputable def rG:Code:=match rD with | .seq _ g=>g | _=>.skip
noncomputable def rE6:Code:=match rE with | .seq _ (.block _ (.seq _ (.seq _ (.block _ (.loop c)))))=>c | _=>.skip
noncomputable def rH:Code:=match rG with | .seq (.seq _ (.block _ (.loop x))) _=>x | _=>.skip
noncomputable def rI:Code:=match rG with | .seq _ i=>i | _=>.skip
noncomputable def xA:Code:=rA
noncomputable def xB:Code:=rB
noncomputable def xC:Code:=rC
noncomputable def xD:Code:=rD
noncomputable def xE:Code:=rE
noncomputable def xE6:Code:=rE6
noncomputable def xG:Code:=rG
noncomputable def xH:Code:=rH
noncomputable def xI:Code:=rI
def R121 (f:Nat→Value):Array Value:=#[f 0,f 1,f 2,f 3,f 4,f 5,f 6,f 7,f 8,f 9,f 10,f 11,f 12,f 13,f 14,f 15,f 16,f 17,f 18,f 19,f 20,f 21,f 22,f 23,f 24,f 25,f 26,f 27,f 28,f 29,f 30,f 31,f 32,f 33,f 34,f 35,f 36,f 37,f 38,f 39,f 40,f 41,f 42,f 43,f 44,f 45,f 46,f 47,f 48,f 49,f 50,f 51,f 52,f 53,f 54,f 55,f 56,f 57,f 58,f 59,f 60,f 61,f 62,f 63,f 64,f 65,f 66,f 67,f 68,f 69,f 70,f 71,f 72,f 73,f 74,f 75,f 76,f 77,f 78,f 79,f 80,f 81,f 82,f 83,f 84,f 85,f 86,f 87,f 88,f 89,f 90,f 91,f 92,f 93,f 94,f 95,f 96,f 97,f 98,f 99,f 100,f 101,f 102,f 103,f 104,f 105,f 106,f 107,f 108,f 109,f 110,f 111,f 112,f 113,f 114,f 115,f 116,f 117,f 118,f 119,f 120]
theorem R121_eq (f:Nat→Value):R121 f=(List.map f (List.range 121)).toArray:=by kernel_rfl
theorem arr121f (T:Array Value) (h:T.size=121):∃ f:Nat→Value,T=R121 f:=by
  refine ⟨fun i=>T.getD i undef,?_⟩
  rw [R121_eq]
  apply Array.ext
  · rw [h]; simp
  · intro i h1 h2
    simp [Array.getD,h1]
theorem R121_get (f:Nat→Value) {i:Nat} (hi:i < 121):(R121 f)[i]?=some (f i):=by
  rw [R121_eq]
  simp [hi]
def PickR {σ Λ:Type} (D:Prot σ Λ) (t:Nat) (x x':List (Option (Nat × Λ)) × σ × Int):Prop :=
  match x.1[t]? with
  | some (some (m,ℓ))=>∃ n s' o,m=n+1∧D.next ℓ (x.2.2+1) x.2.1 (s',o)∧x'=(x.1.set t (o.map (fun y=>(n,y))),s',x.2.2+1)
  | _=>x'=(x.1,x.2.1,x.2.2+1)
def Pos {σ Λ:Type} (D:Prot σ Λ) (st:List (Option (Nat × Λ))):Prop:=∀ (t m:Nat) (ℓ:Λ),st[t]?=some (some (m,ℓ))→D.lax→0 < m
def FuelR {σ Λ:Type} (N:Nat) (x:List (Option (Nat × Λ)) × σ × Int):Prop:=∀ (t m:Nat) (ℓ:Λ),x.1[t]?=some (some (m,ℓ))→(N:Int)≤m+x.2.2
theorem FuelR.pos {σ Λ:Type} {D:Prot σ Λ} {N:Nat} {x:List (Option (Nat × Λ)) × σ × Int} (h:D.lax→FuelR N x∧x.2.2 < N):Pos D x.1:=fun t m ℓ e hl=>by
  have h1:=(h hl).1 t m ℓ e
  have h2:=(h hl).2
  omega
theorem pickR_fuel {σ Λ:Type} {D:Prot σ Λ} {N t:Nat} {x x':List (Option (Nat × Λ)) × σ × Int} (h:PickR D t x x') (f:FuelR N x):FuelR N x':=by
  unfold PickR at h
  split at h
  · next m ℓ e =>
    obtain ⟨n,s',o,hm,_,rfl⟩:=h
    intro t' m' ℓ' e'
    dsimp only at e' ⊢
    have hlt:=(List.getElem?_eq_some_iff.1 e).1
    by_cases h1:t=t'
    · subst h1
      rw [List.getElem?_set_self hlt] at e'
      have h2:=f t m ℓ e
      cases o with
      | none=>simp at e'
      | some y =>
        simp only [Option.map_some,Option.some.injEq,Prod.mk.injEq] at e'
        omega
    · rw [List.getElem?_set_ne h1] at e'
      have:=f t' m' ℓ' e'
      omega
  · subst h
    intro t' m' ℓ' e'
    have:=f t' m' ℓ' e'
    dsimp only
    omega
def pickIx (p:Int) (n:Nat):Nat:=((p.tmod n+n).tmod n).toNat
theorem pickIx_lt (p:Int) {n:Nat} (h:0 < n):pickIx p n < n:=by
  unfold pickIx
  have h1:0≤p.tmod n+n:=by
    have:=Int.lt_tmod_of_pos p (show (0:Int) < n by omega)
    omega
  have h2:=Int.tmod_lt_of_pos (p.tmod n+n) (show (0:Int) < n by omega)
  have h3:=Int.tmod_nonneg (n:Int) h1
  omega
def GS (w0:World) (v:Value) (Pv:Nat→Option Obj) (ths:List Th):Prop :=
  (v=.slice none 0 0∧ths=[]∧∀ b,Pv b=none)∨∃ g cap cur,v=.slice (some ⟨g,0,none⟩) ths.length cap∧Pv=(fun b=>if b=g then some (.cells cur 49) else none)∧w0.heap.size≤g∧ths.length≤cap∧cap≤maxLen∧cur.size=cap∧cur.toList.take ths.length=ths.map (fun th=>.pointer (some ⟨th.gb,0,none⟩))
theorem GS.row {w0:World} {v:Value} {Pv:Nat→Option Obj} {ths:List Th} (g:GS w0 v Pv ths) (h:0 < ths.length):∃ (g cap:Nat) (cur:Array Value),v=.slice (some ⟨g,0,none⟩) ths.length cap∧Pv g=some (.cells cur 49)∧∀ (t:Nat) (th:Th),ths[t]?=some th→(cur:Array Value)[t]?=some (Value.pointer (some ⟨th.gb,0,none⟩)):=by
  rcases g with ⟨_,rfl,_⟩ | ⟨g,cap,cur,e1,e2,e3,e4,e5,e6,e7⟩
  · simp at h
  · refine ⟨g,cap,cur,e1,by rw [e2]; simp,fun t th ht=>?_⟩
    have hlt:=(List.getElem?_eq_some_iff.1 ht).1
    have:(cur.toList.take ths.length)[t]?=some (.pointer (some ⟨th.gb,0,none⟩)):=by rw [e7,List.getElem?_map,ht]; rfl
    rw [List.getElem?_take_of_lt hlt] at this
    simpa using this
section
variable {σ Λ:Type} {D:Prot σ Λ} {Pv:Nat→Option Obj} {h rb:Nat} {E0 E:Env} {w0 w:World} {ths:List Th} {st:List (Option (Nat × Λ))} {s:σ} {k:Int} {th:Th} {F:Machine→Trace→Prop}
  {b₀:Frame} {a₀:Act} {ops₀:Array Oper} {i₀:Nat} {rest₀:List Nat} {k₀:List Item} {cl:List Frame}
theorem phase_step {t:Nat} (hP:Pos D st) (Ph:Phase D h rb E0 w0 Pv ths st s k E w) (ht:ths[t]?=some th) (hk:IntKind.i64.wrap (k+1)=k+1)
    (hcont:∀ x' E' w',PickR D t (st,s,k) x'→Phase D h rb E0 w0 Pv ths x'.1 x'.2.1 x'.2.2 E' w'→HG Try.prog h F E' (G (b₀.at (a₀.put ((ops₀[i₀]?).bind (·.dst)) (.tuple #[])) (.inRegion ops₀ rest₀ :: k₀)) cl) w') :
    HGn Try.prog h F E w 100 (entry 75 Try.f75 #[.pointer (some ⟨th.gb,0,none⟩)] (b₀.at a₀ (.inRegion ops₀ (i₀ :: rest₀) :: k₀) :: cl)):=by
  have hlt:=(List.getElem?_eq_some_iff.1 ht).1
  have hlt':t < st.length:=by rw [Ph.len]; exact hlt
  cases e:st[t]? with
  | none=>exact absurd (List.getElem?_eq_none_iff.1 e) (by omega)
  | some o =>
    cases o with
    | none=>exact phase_pick_over Ph ht e hk (fun E' w' p=>hcont (st,s,k+1) E' w' (by unfold PickR; simp only [e]) p)
    | some x =>
      obtain ⟨m,ℓ⟩:=x
      exact phase_pick (hP t m ℓ e) Ph ht e hk (fun n s' o E' w' hm hn p=>hcont (st.set t (o.map (fun x=>(n,x))),s',k+1) E' w' (by unfold PickR; simp only [e]; exact ⟨n,s',o,hm,hn,rfl⟩) p)
theorem run_picks_step {n:Nat} {T:Array Value} {gv:Value} {np i pcap:Nat} {pb po:Nat} {p:Int} {c:Frame} (hP:Pos D st) (Ph:Phase D h rb E0 w0 Pv ths st s k E w) (hk:IntKind.i64.wrap (k+1)=k+1) (hgs:GS w0 gv Pv ths) (hn:ths.length=n) (hN:0 < n) (hN8:n≤8)
    (hT:T.size=121) (t8:T[8]?=some gv) (t12:T[12]?=some (.int .i64 (n:Int))) (t53:T[53]?=some (.slice (some ⟨pb,po,none⟩) np pcap)) (t54:T[54]?=some (.int .i64 (np:Int))) (t55:T[55]?=some (.int .i64 (i:Int))) (hi:i < np) (hnp:np≤9223372036854775806)
    (hp:w.cell? ⟨pb,po+i,none⟩=some (.int .i64 p)) (hpW:E.W pb=false) (hp64:-9223372036854775808≤p∧p≤9223372036854775807)
    (hcont:∀ x' E' w' T',PickR D (pickIx p n) (st,s,k) x'→Phase D h rb E0 w0 Pv ths x'.1 x'.2.1 x'.2.2 E' w'→T'.size=121→T'[8]?=some gv→T'[12]?=some (.int .i64 (n:Int))→T'[53]?=some (.slice (some ⟨pb,po,none⟩) np pcap)→T'[54]?=some (.int .i64 (np:Int))→T'[55]?=some (.int .i64 ((i+1:Nat):Int))→(∀ x,x=0∨x=1∨x=2∨x=7→T'[x]?=T[x]?)→HG Try.prog h F E' (G ((base 29).at ⟨T',[]⟩ [.code rC,.inLoop rC,.inBlock 2,.code rD]) (c :: cl)) w') :
    HGn Try.prog h F E w 100 (G ((base 29).at ⟨T,[]⟩ [.code rC,.inLoop rC,.inBlock 2,.code rD]) (c :: cl)):=by
  obtain ⟨f,rfl⟩:=arr121f T hT
  clear hT
  simp only [R121_get f (show 8 < 121 by decide),R121_get f (show 12 < 121 by decide),R121_get f (show 53 < 121 by decide),R121_get f (show 54 < 121 by decide),R121_get f (show 55 < 121 by decide),Option.some.injEq] at t8 t12 t53 t54 t55
  have q1:decide ((i:Int) < (np:Int))=true:=decide_eq_true (by omega)
  change HGn Try.prog h F E w 100 (G ((base 29).at _ [.code xC,.inLoop rC,.inBlock 2,.code rD]) (c :: cl))
  generalize hLC:rC=LC
  generalize hLD:rD=LD
  simp only [xC,rC,rB,rHire,rBody,Try.f29,Option.getD_some,R121,t8,t12,t53,t54,t55]
  clear t8 t12 t53 t54 t55
  refine Idl.q (idl_hg Try.prog h F E w) (Idl.rg (idl_hg Try.prog h F E w) [0] rfl ?_)
  apply Idl.value (idl_hg Try.prog h F E w) rfl rfl (by first | decide | exact base_kind _ | exact baseD_kind _ | assumption)
  focus (intro w; go_simp; (try w_num); first | done | rfl)
  focus (intro w; simp [go_sem, *])
  walk_nrm
  refine Idl.re (idl_hg Try.prog h F E w) (Idl.q (idl_hg Try.prog h F E w) (Idl.ct (idl_hg Try.prog h F E w) rfl (Idl.sk (idl_hg Try.prog h F E w) (Idl.q (idl_hg Try.prog h F E w) (Idl.bl (idl_hg Try.prog h F E w) (Idl.q (idl_hg Try.prog h F E w) (Idl.rg (idl_hg Try.prog h F E w) [0,1,2] rfl ?_)))))))
  apply Idl.value (idl_hg Try.prog h F E w) rfl rfl (by first | decide | exact base_kind _ | exact baseD_kind _ | assumption)
  focus (intro w; go_simp; (try w_num); first | done | rfl)
  focus (intro w; simp [go_sem, *])
  walk_nrm
  refine HGn.ld hp (fun z=>by rw [hpW] at z; cases z) rfl rfl (by first | decide | exact base_kind _ | exact baseD_kind _ | assumption) (fun w₁ hc₁=>⟨by go_simp,fun e he=>by (have he':=he; simp [go_sem,hc₁] at he'; exact he')⟩) ?_
  walk_nrm
  apply Idl.value (idl_hg Try.prog h F E w) rfl rfl (by first | decide | exact base_kind _ | exact baseD_kind _ | assumption)
  focus (intro w; go_simp; (try w_num); first | done | rfl)
  focus (intro w; simp [go_sem, *])
  walk_nrm
  refine Idl.re (idl_hg Try.prog h F E w) (Idl.rg (idl_hg Try.prog h F E w) [0,1,2,3,4,5,6,7,8,9,10] rfl ?_)
  iterate 3 (apply Idl.value (idl_hg Try.prog h F E w) rfl rfl (by first | decide | exact base_kind _ | exact baseD_kind _ | assumption); (focus (intro w; go_simp; (try w_num); first | done | rfl)); (focus (intro w; simp [go_sem, *])); walk_nrm)
  have hn0:n≠0:=by omega
  have b1:=Int.lt_tmod_of_pos p (show (0:Int) < (n:Int) by omega)
  have b2:=Int.tmod_lt_of_pos p (show (0:Int) < (n:Int) by omega)
  refine Idl.value (v:=.int .i64 (p.tmod (n:Int))) (idl_hg Try.prog h F E w) rfl rfl (by k_ne) (fun w=>by simp [go_sem,hn0]) (fun w=>by simp [go_sem,hn0]) ?_
  walk_nrm
  have hix:=pickIx_lt p hN
  have hi0:0≤p.tmod (n:Int)+(n:Int):=by omega
  have hi1:=Int.tmod_nonneg (n:Int) hi0
  have w1:IntKind.i64.wrap (p.tmod (n:Int)+(n:Int))=p.tmod (n:Int)+(n:Int):=by rw [IntKind.wrap_i64]; omega
  have w2:(p.tmod (n:Int)+(n:Int)).tmod (n:Int)=((pickIx p n:Nat):Int):=by unfold pickIx; omega
  clear hi0 hi1 b1 b2
  generalize pickIx p n=ix at hix w2 hcont ⊢
  iterate 3 (apply Idl.value (idl_hg Try.prog h F E w) rfl rfl (by first | decide | exact base_kind _ | exact baseD_kind _ | assumption); (focus (intro w; go_simp; (try w_num); first | done | rfl)); (focus (intro w; simp [go_sem, *])); walk_nrm)
  try simp only [w1]
  refine Idl.value (v:=.int .i64 (ix:Int)) (idl_hg Try.prog h F E w) rfl rfl (by k_ne) (fun w=>by simp [go_sem,hn0,w2]) (fun w=>by simp [go_sem,hn0]) ?_
  walk_nrm
  clear w1 w2 hn0
  obtain ⟨g,gcap,cur,rfl,hPg,hcur⟩:=hgs.row (by omega)
  obtain ⟨th,hth⟩:∃ th,ths[ix]?=some th:=⟨_,List.getElem?_eq_getElem (by omega)⟩
  rw [hn]
  obtain ⟨g1,g2,g3,g4⟩:=Ph.pv g _ hPg
  have gix:(ix:Int) < (n:Int):=by omega
  apply Idl.value (idl_hg Try.prog h F E w) rfl rfl (by first | decide | exact base_kind _ | exact baseD_kind _ | assumption)
  focus (intro w; go_simp; (try w_num); first | done | rfl)
  focus (intro w; simp [go_sem, *])
  walk_nrm
  refine HGn.ld (obj_cell g1 (hcur ix th hth)) (fun z=>by rw [g3] at z; cases z) rfl rfl (by first | decide | exact base_kind _ | exact baseD_kind _ | assumption) (fun w₁ hc₁=>⟨by go_simp,fun e he=>by (have he':=he; simp [go_sem,hc₁] at he'; exact he')⟩) ?_
  walk_nrm
  refine Idl.callE (fn:=Try.f75) (vs:=#[.pointer (some ⟨th.gb,0,none⟩)]) (idl_hg Try.prog h F E w) rfl rfl (by k_ne) rfl Try.func75 rfl rfl (by simp [Act.eval]) ?_
  have w3:IntKind.i64.wrap ((i:Int)+1)=((i+1:Nat):Int):=by rw [IntKind.wrap_i64]; omega
  refine phase_step hP Ph hth hk (fun x' E' w' hx' Ph'=>?_)
  walk_nrm
  change HGn Try.prog h F E' w' 100 _
  refine Idl.re (idl_hg Try.prog h F E' w') (Idl.ib (idl_hg Try.prog h F E' w') (Idl.rg (idl_hg Try.prog h F E' w') [0,1] rfl ?_))
  iterate 2 (apply Idl.value (idl_hg Try.prog h F E' w') rfl rfl (by first | decide | exact base_kind _ | exact baseD_kind _ | assumption); (focus (intro w; go_simp; (try w_num); first | done | rfl)); (focus (intro w; simp [go_sem, *])); walk_nrm)
  refine Idl.re (idl_hg Try.prog h F E' w') (Idl.il (idl_hg Try.prog h F E' w') ?_)
  try simp only [w3]
  subst hLC hLD
  refine hcont x' E' w' _ hx' Ph' (by simp) (by simp [hn]) (by simp) (by simp) (by simp) (by simp) (fun x hx=>?_)
  rcases hx with rfl | rfl | rfl | rfl <;> rfl
end
section
variable {σ Λ:Type} {D:Prot σ Λ} {Pv:Nat→Option Obj} {h rb:Nat} {E0 E:Env} {w0 w:World} {ths:List Th} {st:List (Option (Nat × Λ))} {s:σ} {k:Int} {th:Th} {F:Machine→Trace→Prop} {n:Nat} {gv:Value} {c:Frame} {cl:List Frame} {T:Array Value}
theorem run_picks_end {np:Nat} (hT:T.size=121) (t54:T[54]?=some (.int .i64 (np:Int))) (t55:T[55]?=some (.int .i64 (np:Int)))
    (hcont:∀ T',T'.size=121→(∀ x,x≠56→T'[x]?=T[x]?)→HG Try.prog h F E (G ((base 29).at ⟨T',[]⟩ [.code rD]) (c :: cl)) w) :
    HGn Try.prog h F E w 100 (G ((base 29).at ⟨T,[]⟩ [.code rC,.inLoop rC,.inBlock 2,.code rD]) (c :: cl)):=by
  obtain ⟨f,rfl⟩:=arr121f T hT
  clear hT
  simp only [R121_get f (show 54 < 121 by decide),R121_get f (show 55 < 121 by decide),Option.some.injEq] at t54 t55
  have q1:decide ((np:Int) < (np:Int))=false:=decide_eq_false (by omega)
  change HGn Try.prog h F E w 100 (G ((base 29).at _ [.code xC,.inLoop rC,.inBlock 2,.code rD]) (c :: cl))
  generalize hLC:rC=LC
  generalize hLD:rD=LD
  have hc:=hcont (Array.setIfInBounds (R121 f) 56 (.bool false)) (by simp [R121]) (fun x hx=>by simp [Array.getElem?_setIfInBounds,Ne.symm hx])
  clear hcont
  rw [hLD] at hc
  simp only [R121,t54,t55] at hc
  simp only [xC,rC,rB,rHire,rBody,Try.f29,Option.getD_some,R121,t54,t55]
  clear t54 t55
  refine Idl.q (idl_hg Try.prog h F E w) (Idl.rg (idl_hg Try.prog h F E w) [0] rfl ?_)
  apply Idl.value (idl_hg Try.prog h F E w) rfl rfl (by first | decide | exact base_kind _ | exact baseD_kind _ | assumption)
  focus (intro w; go_simp; (try w_num); first | done | rfl)
  focus (intro w; simp [go_sem, *])
  walk_nrm
  refine Idl.re (idl_hg Try.prog h F E w) (Idl.q (idl_hg Try.prog h F E w) (Idl.cf (idl_hg Try.prog h F E w) rfl (Idl.exit (idl_hg Try.prog h F E w) rfl ?_)))
  exact hc
inductive PicksR (D:Prot σ Λ) (n:Nat):List Int→List (Option (Nat × Λ)) × σ × Int→List (Option (Nat × Λ)) × σ × Int→Prop
  | nil (x):PicksR D n [] x x
  | cons {p l x x' x''} (h:PickR D (pickIx p n) x x') (t:PicksR D n l x' x''):PicksR D n (p :: l) x x''
theorem pickR_k {D:Prot σ Λ} {t:Nat} {x x':List (Option (Nat × Λ)) × σ × Int} (h:PickR D t x x'):x'.2.2=x.2.2+1:=by
  unfold PickR at h
  split at h
  · obtain ⟨n,s',o,_,_,rfl⟩:=h; rfl
  · rw [h]
theorem picksR_fuel {N:Nat} {n:Nat} {l:List Int} {x x':List (Option (Nat × Λ)) × σ × Int} (h:PicksR D n l x x') (f:FuelR N x):FuelR N x':=by
  induction h with
  | nil x=>exact f
  | cons h t ih=>exact ih (pickR_fuel h f)
theorem run_picks {picks:List Int} {pcap pb po:Nat} {pv:Value} {Nf:Nat} (hNf:D.lax→(picks.length:Int) < Nf) (hn:ths.length=n) (hN:0 < n) (hN8:n≤8) (hgs:GS w0 gv Pv ths) (hnp:picks.length≤1000000000000000) (hpv:picks≠[]→pv=.slice (some ⟨pb,po,none⟩) picks.length pcap)
    (hp64:∀ p ∈ picks,-9223372036854775808≤p∧p≤9223372036854775807) (hPick:∀ s E w,D.M s E w→∀ i p,picks[i]?=some p→w.cell? ⟨pb,po+i,none⟩=some (.int .i64 p)∧E.H pb=none)
    (l:List Int):∀ (i:Nat) (x:List (Option (Nat × Λ)) × σ × Int) (T:Array Value) (E:Env) (w:World),picks.drop i=l→i≤picks.length→x.2.2=i→(D.lax→FuelR Nf x)→Phase D h rb E0 w0 Pv ths x.1 x.2.1 x.2.2 E w →
      T.size=121→T[8]?=some gv→T[12]?=some (.int .i64 (n:Int))→T[53]?=some pv→T[54]?=some (.int .i64 (picks.length:Int))→T[55]?=some (.int .i64 (i:Int)) →
      (∀ x' E' w' T',PicksR D n l x x'→Phase D h rb E0 w0 Pv ths x'.1 x'.2.1 x'.2.2 E' w'→T'.size=121→T'[8]?=some gv→(∀ y,y=0∨y=1∨y=2∨y=7→T'[y]?=T[y]?)→HG Try.prog h F E' (G ((base 29).at ⟨T',[]⟩ [.code rD]) (c :: cl)) w') →
      HG Try.prog h F E (G ((base 29).at ⟨T,[]⟩ [.code rC,.inLoop rC,.inBlock 2,.code rD]) (c :: cl)) w:=by
  induction l with
  | nil =>
    intro i x T E w hd hi hk hfu Ph hT t8 t12 t53 t54 t55 hcont
    have:i=picks.length:=by
      have:=congrArg List.length hd
      simp at this; omega
    subst this
    exact run_picks_end hT t54 t55 (fun T' h1 h2=>hcont x E w T' (.nil x) Ph h1 (by rw [h2 8 (by decide)]; exact t8) (fun y hy=>h2 y (by rcases hy with rfl | rfl | rfl | rfl <;> decide)))
  | cons p l ih =>
    intro i x T E w hd hi hk hfu Ph hT t8 t12 t53 t54 t55 hcont
    have hlt:i < picks.length:=by
      have:=congrArg List.length hd
      simp at this; omega
    have hpi:picks[i]?=some p:=by
      have:=congrArg (·[0]?) hd
      simpa using this
    have hne:picks≠[]:=fun e=>by rw [e] at hlt; simp at hlt
    obtain ⟨q1,q2'⟩:=hPick _ _ _ Ph.M i p hpi
    refine HG.withH fun hWH _=>?_
    have q2:E.W pb=false:=by
      cases e:E.W pb with
      | false=>rfl
      | true=>have:=hWH pb e; rw [q2'] at this; cases this
    refine run_picks_step (FuelR.pos (fun hl=>⟨hfu hl,by have:=hNf hl; omega⟩)) Ph (by rw [hk,IntKind.wrap_i64]; omega) hgs hn hN hN8 hT t8 t12 (by rw [t53,hpv hne]) t54 t55 hlt (by omega) q1 q2 (hp64 p (List.mem_of_getElem? hpi)) ?_
    intro x' E' w' T' hx' Ph' hT' s8 s12 s53 s54 s55 skeep
    refine ih (i+1) x' T' E' w' ?_ (by omega) (by rw [pickR_k hx']; show x.2.2+1=_; rw [hk]; push_cast; rfl) (fun hl=>pickR_fuel hx' (hfu hl)) Ph' hT' s8 s12 (by rw [s53,hpv hne]) s54 s55 ?_
    · have:=congrArg List.tail hd
      simpa using this
    · intro x'' E'' w'' T'' hx'' Ph'' e1 e2 e3
      exact hcont x'' E'' w'' T'' (.cons hx' hx'') Ph'' e1 e2 (fun y hy=>by rw [e3 y hy,skeep y hy])
end
end Go.Proofs.Ytimlbbleblijnaa.Co
