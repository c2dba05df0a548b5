/- Lemmas for the laws of this seat, laid together of PIi, PIj, PIl, PIm. -/
import Derived.Test.YtimlbbleblijnaaV21
import Derived.Deep.AppendLies
import Derived.Deep.RegionHeld3

set_option linter.unusedVariables false
set_option linter.unusedSimpArgs false
set_option maxRecDepth 100000
set_option maxHeartbeats 4000000
namespace Go.Proofs.Ytimlbbleblijnaa.Co
open Go Go.Conc Go.RowKit
open Go.ConcN (sumTo upd sumTo_upd upd_ne upd_same sumTo_congr le_sumTo)
theorem OnSt.tell {B lb lo:Nat} {x0 wr w1 w4:World} {c0:Array Value} {ov0 ov:Value} {a s p q:Int} {L:List Tld} {m:Tld} {gg cp:Nat} {o:Obj} (h:OnSt B lb lo x0 c0 ov0 a s p q L ov wr) (hw1:w1.heap=(wr.alloc o).heap)
    (ho4:w4.ownsRow B 117 5 (.slice (some ⟨gg,0,none⟩) (L.length+1) cp) (L.length+1) (tldsV L ++ tldV m)) (hgrow:w1.grownBy w4 ov.ownBlock) (hat:ov.ownBlock=some gg∨gg=w1.heap.size):OnSt B lb lo x0 c0 ov0 a s p q (L ++ [m]) (.slice (some ⟨gg,0,none⟩) (L.length+1) cp) w4:=by
  obtain ⟨c,h1,h2⟩:=h.blk
  have hl:=(Array.getElem?_eq_some_iff.1 h1).1
  have s1:w1.heap.size=wr.heap.size+1:=by rw [hw1,alloc_size]
  have s4:=hgrow.size
  have s0:=h.size
  have e1:(L ++ [m]).length=L.length+1:=by simp
  have hk:∀ b,b < wr.heap.size→ov.ownBlock≠some b→w4.heap[b]?=wr.heap[b]?:=fun b hb hne=>by
    rw [hgrow.block b (by omega) (fun e=>hne e.symm),hw1]
    exact alloc_old hb
  refine ⟨⟨c,(hk lb hl h.nlb).trans h1,h2⟩,by rw [e1,tldsV_snoc]; exact ho4,fun b hb hn1 hn2=>?_,fun g hg=>?_,by omega,fun e=>?_⟩
  · by_cases hbo:ov.ownBlock=some b
    · rcases h.own b hbo with z | z
      · exact absurd z hn2
      · omega
    · rw [hk b (by omega) hbo]; exact h.old b hb hn1 hn2
  · have hg2:gg=g:=by simpa [Value.ownBlock] using hg
    subst hg2
    rcases hat with z | z
    · exact h.own _ z
    · exact .inr (by omega)
  · have hg2:gg=lb:=by simpa [Value.ownBlock] using e
    subst hg2
    rcases hat with z | z
    · exact h.nlb z
    · omega
theorem on_any {x:World} {B lb lo pb po t cap:Nat} {k:Int} {pa:Option Addr} {ps:List Int} {c0:Array Value} {ov0:Value} {a0:Nat} {tl0:Tl3} {L0:List Tld} (h0:OnSt B lb lo x c0 ov0 (a0:Int) tl0.1 tl0.2.1 tl0.2.2 L0 ov0 x) (hpa:ps≠[]→pa=some ⟨pb,po,none⟩) (hps:∀ (i:Nat) p,ps[i]?=some p→x.cell? ⟨pb,po+i,none⟩=some (.int .i64 p)) (hpl:ps.length≤100000000000) (hL:L0.length≤1000000000000 - 100000000000) (ha:a0≤ps.length)
    (hBx:B≤x.heap.size) (hpb:ps≠[]→pb≠lb∧ov0.ownBlock≠some pb) :
    Calls Try.prog 77 #[.pointer (some ⟨lb,lo,none⟩),.int .i64 (t:Int),.slice pa ps.length cap,.int .i64 k,ov0] x fun e x'=>∃ ov,e=.returned ov∧OnSt B lb lo x c0 ov0 ((onF ps t k (ps.length - a0) a0 tl0 L0).1:Int) (onF ps t k (ps.length - a0) a0 tl0 L0).2.1.1 (onF ps t k (ps.length - a0) a0 tl0 L0).2.1.2.1 (onF ps t k (ps.length - a0) a0 tl0 L0).2.1.2.2 (onF ps t k (ps.length - a0) a0 tl0 L0).2.2 ov x':=by
  obtain ⟨i0,hinf,hz0,hz1,hz2⟩:=info117
  obtain ⟨R,hR⟩:∃ R,R=onF ps t k (ps.length - a0) a0 tl0 L0:=⟨_,rfl⟩
  have hbd:=onF_le (t:=t) (k:=k) (ps.length - a0) a0 tl0 L0 ha
  rw [← hR] at hbd ⊢
  replace h0:=Lib.hid h0
  replace hpa:=Lib.hid hpa
  replace hps:=Lib.hid hps
  replace hR:=Lib.hid hR
  replace hpb:=Lib.hid hpb
  replace hbd:=Lib.hid hbd
  go_enter Try.func77,Try.ntmps77
  go_wp2_with fail
  go_loopw [4] (fun ov wr=>∃ (i:Nat) (tl:Tl3) (L:List Tld),i≤ps.length∧L.length≤L0.length+(i - a0)∧a0≤i∧Hid (onF ps t k (ps.length - i) i tl L=R)∧Hid (OnSt B lb lo x c0 ov0 (i:Int) tl.1 tl.2.1 tl.2.2 L ov wr)) (fun _ wr=>ps.length+1 - natOfV ((wr.cell? ⟨lb,lo,none⟩).getD undef))
  case atStart=>exact ⟨a0,tl0,L0,ha,by omega,Nat.le_refl _,Lib.hid hR.out.symm,h0⟩
  case round =>
    obtain ⟨i,tl,L,hi,hLi,hai,hF,hSt⟩:=hrel
    obtain ⟨ts,tp,tq⟩:=tl
    obtain ⟨c1,c2,c3,c4,hfz⟩:=hSt.out.cells
    dsimp only at c2 c3 c4
    have f0:=hfz lo
    have f1:=hfz (lo+1)
    have f2:=hfz (lo+2)
    have f3:=hfz (lo+3)
    have hm0:natOfV ((wr.cell? ⟨lb,lo,none⟩).getD undef)=i:=by rw [c1]; simp [natOfV]
    have hiw:IntKind.i64.wrap ((i:Int)+1)=((i+1:Nat):Int):=by rw [IntKind.wrap_i64]; omega
    have hdone:(i:Nat)=R.1→(ts,tp,tq)=R.2.1→L=R.2.2→OnSt B lb lo x c0 ov0 (R.1:Int) R.2.1.1 R.2.1.2.1 R.2.1.2.2 R.2.2 u4 wr:=fun e1 e2 e3=>by
      have:=hSt.out
      rw [← e1,← e2,← e3]; exact this
    by_cases hlt:i < ps.length
    · obtain ⟨c,hop⟩:∃ c,ps[i]?=some c:=⟨_,List.getElem?_eq_getElem hlt⟩
      have hne:ps≠[]:=fun e=>by rw [e] at hlt; simp at hlt
      have hpa':=hpa.out hne
      subst hpa'
      obtain ⟨hp1,hp2⟩:=hpb.out hne
      have hcell:wr.cell? ⟨pb,po+i,none⟩=some (.int .i64 c):=by
        have h1:=hps.out i c hop
        have hl:=World.block_lt_of_cell? x _ h1
        exact (World.cell?_of_block (hSt.out.old pb hl hp1 hp2)).trans h1
      have g1:(i:Int) < (ps.length:Int):=by omega
      have g0:(0:Int)≤(i:Int):=by omega
      by_cases hc1:c=1
      · subst hc1
        have e:(i,(ts,tp,tq),L)=R:=by rw [← hF.out]; exact (onF_step hop).symm
        have hfin:=hdone (by rw [← e]) (by rw [← e]) (by rw [← e])
        replace hfin:=Lib.hid hfin
        clear hdone hSt hF hm0
        go_wp2_with fail
        go_ret
        exact ⟨_,rfl,hfin.out⟩
      · have b1:(c == 1)=false:=beq_eq_false_iff_ne.2 hc1
        have b1':(c != 1)=true:=by rw [bne,b1]; rfl
        have hF2:onF ps t k (ps.length - (i+1)) (i+1) (actT c k (ts,tp,tq)) (actL c t k (ts,tp,tq) L)=R:=by
          have e:ps.length - i=(ps.length - (i+1))+1:=by omega
          have h1:=hF.out
          rw [e,onF_act hop hc1] at h1
          exact h1
        replace hF2:=Lib.hid hF2
        clear hdone
        by_cases hc2:c=2
        · subst hc2
          have S1:=hSt.out.set 1 0 (by decide)
          have S2:=S1.set 2 0 (by decide)
          have S3:=S2.set 3 0 (by decide)
          have S4:=S3.set 0 ((i+1:Nat):Int) (by decide)
          have SF:OnSt B lb lo x c0 ov0 ((i+1:Nat):Int) ((0:Int),(0:Int),(0:Int)).1 ((0:Int),(0:Int),(0:Int)).2.1 ((0:Int),(0:Int),(0:Int)).2.2 (L) u4 (((((((((wr).setCell ⟨lb,lo+1,none⟩ (.int .i64 0))).setCell ⟨lb,lo+2,none⟩ (.int .i64 0))).setCell ⟨lb,lo+3,none⟩ (.int .i64 0))).setCell ⟨lb,lo,none⟩ (.int .i64 ((i+1:Nat):Int)))):=by simpa using S4
          obtain ⟨wF,hwF⟩:∃ wF,wF=((((((((wr).setCell ⟨lb,lo+1,none⟩ (.int .i64 0))).setCell ⟨lb,lo+2,none⟩ (.int .i64 0))).setCell ⟨lb,lo+3,none⟩ (.int .i64 0))).setCell ⟨lb,lo,none⟩ (.int .i64 ((i+1:Nat):Int))):=⟨_,rfl⟩
          rw [← hwF] at SF
          have hmF:natOfV ((wF.cell? ⟨lb,lo,none⟩).getD undef)=i+1:=by rw [SF.cells.1]; simp [natOfV]
          have hG:∃ (i':Nat) (tl:Tl3) (L':List Tld),i'≤ps.length∧L'.length≤L0.length+(i' - a0)∧a0≤i'∧Hid (onF ps t k (ps.length - i') i' tl L'=R)∧Hid (OnSt B lb lo x c0 ov0 (i':Int) tl.1 tl.2.1 tl.2.2 L' u4 wF):=⟨i+1,((0:Int),(0:Int),(0:Int)),L,by omega,by omega,by omega,hF2,Lib.hid SF⟩
          replace hG:=Lib.hid hG
          replace hmF:=Lib.hid hmF
          replace hwF:=Lib.hid hwF
          clear S1 S2 S3
          replace hm0:=Lib.hid hm0
          replace hSt:=Lib.hid hSt
          clear SF S4
          go_wp2_with fail
          try simp only [hiw]
          try simp only [← w64]
          try rw [show ((i:Int)+1)=((i+1:Nat):Int) from rfl]
          rw [← hwF.out]
          have hM:ps.length+1 - natOfV ((wF.cell? ⟨lb,lo,none⟩).getD undef) < ps.length+1 - natOfV ((wr.cell? ⟨lb,lo,none⟩).getD undef):=by rw [hmF.out,hm0.out]; omega
          exact ⟨hG.out,hM⟩
        · have b2:(c == 2)=false:=beq_eq_false_iff_ne.2 hc2
          by_cases hc3:c=3
          · subst hc3
            have S1:=hSt.out.set 2 (IntKind.i64.wrap (tp+1)) (by decide)
            have S4:=S1.set 0 ((i+1:Nat):Int) (by decide)
            have SF:OnSt B lb lo x c0 ov0 ((i+1:Nat):Int) (ts,IntKind.i64.wrap (tp+1),tq).1 (ts,IntKind.i64.wrap (tp+1),tq).2.1 (ts,IntKind.i64.wrap (tp+1),tq).2.2 (L) u4 (((((wr).setCell ⟨lb,lo+2,none⟩ (.int .i64 (IntKind.i64.wrap (tp+1))))).setCell ⟨lb,lo,none⟩ (.int .i64 ((i+1:Nat):Int)))):=by simpa using S4
            obtain ⟨wF,hwF⟩:∃ wF,wF=((((wr).setCell ⟨lb,lo+2,none⟩ (.int .i64 (IntKind.i64.wrap (tp+1))))).setCell ⟨lb,lo,none⟩ (.int .i64 ((i+1:Nat):Int))):=⟨_,rfl⟩
            rw [← hwF] at SF
            have hmF:natOfV ((wF.cell? ⟨lb,lo,none⟩).getD undef)=i+1:=by rw [SF.cells.1]; simp [natOfV]
            have hG:∃ (i':Nat) (tl:Tl3) (L':List Tld),i'≤ps.length∧L'.length≤L0.length+(i' - a0)∧a0≤i'∧Hid (onF ps t k (ps.length - i') i' tl L'=R)∧Hid (OnSt B lb lo x c0 ov0 (i':Int) tl.1 tl.2.1 tl.2.2 L' u4 wF):=⟨i+1,(ts,IntKind.i64.wrap (tp+1),tq),L,by omega,by omega,by omega,hF2,Lib.hid SF⟩
            replace hG:=Lib.hid hG
            replace hmF:=Lib.hid hmF
            replace hwF:=Lib.hid hwF
            clear S1
            replace hm0:=Lib.hid hm0
            replace hSt:=Lib.hid hSt
            clear SF S4
            go_wp2_with fail
            try simp only [hiw]
            try simp only [← w64]
            try rw [show ((i:Int)+1)=((i+1:Nat):Int) from rfl]
            rw [← hwF.out]
            have hM:ps.length+1 - natOfV ((wF.cell? ⟨lb,lo,none⟩).getD undef) < ps.length+1 - natOfV ((wr.cell? ⟨lb,lo,none⟩).getD undef):=by rw [hmF.out,hm0.out]; omega
            exact ⟨hG.out,hM⟩
          · have b3:(c == 3)=false:=beq_eq_false_iff_ne.2 hc3
            by_cases hc4:c=4
            · subst hc4
              have S1:=hSt.out.set 3 k (by decide)
              have S4:=S1.set 0 ((i+1:Nat):Int) (by decide)
              have SF:OnSt B lb lo x c0 ov0 ((i+1:Nat):Int) (ts,tp,k).1 (ts,tp,k).2.1 (ts,tp,k).2.2 (L) u4 (((((wr).setCell ⟨lb,lo+3,none⟩ (.int .i64 k))).setCell ⟨lb,lo,none⟩ (.int .i64 ((i+1:Nat):Int)))):=by simpa using S4
              obtain ⟨wF,hwF⟩:∃ wF,wF=((((wr).setCell ⟨lb,lo+3,none⟩ (.int .i64 k))).setCell ⟨lb,lo,none⟩ (.int .i64 ((i+1:Nat):Int))):=⟨_,rfl⟩
              rw [← hwF] at SF
              have hmF:natOfV ((wF.cell? ⟨lb,lo,none⟩).getD undef)=i+1:=by rw [SF.cells.1]; simp [natOfV]
              have hG:∃ (i':Nat) (tl:Tl3) (L':List Tld),i'≤ps.length∧L'.length≤L0.length+(i' - a0)∧a0≤i'∧Hid (onF ps t k (ps.length - i') i' tl L'=R)∧Hid (OnSt B lb lo x c0 ov0 (i':Int) tl.1 tl.2.1 tl.2.2 L' u4 wF):=⟨i+1,(ts,tp,k),L,by omega,by omega,by omega,hF2,Lib.hid SF⟩
              replace hG:=Lib.hid hG
              replace hmF:=Lib.hid hmF
              replace hwF:=Lib.hid hwF
              clear S1
              replace hm0:=Lib.hid hm0
              replace hSt:=Lib.hid hSt
              clear SF S4
              go_wp2_with fail
              try simp only [hiw]
              try simp only [← w64]
              try rw [show ((i:Int)+1)=((i+1:Nat):Int) from rfl]
              rw [← hwF.out]
              have hM:ps.length+1 - natOfV ((wF.cell? ⟨lb,lo,none⟩).getD undef) < ps.length+1 - natOfV ((wr.cell? ⟨lb,lo,none⟩).getD undef):=by rw [hmF.out,hm0.out]; omega
              exact ⟨hG.out,hM⟩
            · have b4:(c == 4)=false:=beq_eq_false_iff_ne.2 hc4
              by_cases hc5:c=5
              · subst hc5
                have ho:=hSt.out.row
                have nlb:=hSt.out.nlb
                have hbs:B≤wr.heap.size:=by have:=hSt.out.size; omega
                have hLl:L.length≤1000000000000:=by omega
                have hlbl:lb < wr.heap.size:=World.block_lt_of_cell? wr _ c1
                have wn:lb≠wr.heap.size:=Nat.ne_of_lt (World.block_lt_of_cell? wr _ c1)
                have hF3:onF ps t k (ps.length - (i+1)) (i+1) (ts,tp,tq) (L ++ [((t:Int),k,ts,tp,tq)])=R:=by
                  have h1:=hF2.out
                  have eT:actT 5 k (ts,tp,tq)=(ts,tp,tq):=by unfold actT; rw [if_neg hc2,if_neg hc3,if_neg hc4]
                  rw [eT] at h1
                  exact h1
                replace hF3:=Lib.hid hF3
                replace hm0:=Lib.hid hm0
                replace hfz:=Lib.hid hfz
                clear hF2 hF
                go_wp2_with fail
                go_region_held3 (fun w'=>w'.cell? ⟨lb,lo+1,none⟩=some (.int .i64 ts)∧w'.cell? ⟨lb,lo+2,none⟩=some (.int .i64 tp)∧w'.cell? ⟨lb,lo+3,none⟩=some (.int .i64 tq)) (first | go_keep | (go_split_ands; refine ⟨?_,?_,?_⟩ <;> first | (rw [hgrow.cell_far _ (by simp; omega) (Ne.symm nlb)]; assumption)))
                  ((refine step_append_lies _ (by rfl) _ _ _ (by rfl) B 117 i0 _ 5 40 Try.underlying58 hinf hz0 hz1 hz2 rfl (by decide) u4 L.length (tldsV L) (by rfl) ((ho.alloc _).drew) ⟨wr.heap.size,0,none⟩ 1 1 (tldV ((t:Int),k,ts,tp,tq)) (by rfl) (by rfl) (World.news_of_block (cs:=#[.int .i64 (t:Int),.int .i64 k,.int .i64 ts,.int .i64 tp,.int .i64 tq]) (t:=117) (fr:=(0,0)) (heap_alloc_new _ _)) (by simp [tldV,Value.oneCell']) (by omega) (by unfold maxLen; omega) (by omega) (by simp; omega) _ rfl ?_; intro gg cp w1 hown1 hgrow hat hlt1))
                rename_i hHeld
                have St:=hSt.out.tell (w1:=(wr.alloc (.cells #[.int .i64 (t:Int),.int .i64 k,.int .i64 ts,.int .i64 tp,.int .i64 tq] 117)).drew) rfl hown1 hgrow hat
                obtain ⟨d1,d2,d3,d4,dz⟩:=St.cells
                have y0:=dz lo
                have S4:=St.set 0 ((i+1:Nat):Int) (by decide)
                clear hHeld hgrow hown1 hat hlt1 c2 c3 c4 f0 f1 f2 f3 dz
                replace St:=Lib.hid St
                have SF:OnSt B lb lo x c0 ov0 ((i+1:Nat):Int) ts tp tq (L ++ [((t:Int),k,ts,tp,tq)]) (.slice (some ⟨gg,0,none⟩) (L.length+1) cp) (w1.setCell ⟨lb,lo,none⟩ (.int .i64 ((i+1:Nat):Int))):=by simpa using S4
                obtain ⟨wF,hwF⟩:∃ wF,wF=w1.setCell ⟨lb,lo,none⟩ (.int .i64 ((i+1:Nat):Int)):=⟨_,rfl⟩
                rw [← hwF] at SF
                have hmF:natOfV ((wF.cell? ⟨lb,lo,none⟩).getD undef)=i+1:=by rw [SF.cells.1]; simp [natOfV]
                have hG:∃ (i':Nat) (tl:Tl3) (L':List Tld),i'≤ps.length∧L'.length≤L0.length+(i' - a0)∧a0≤i'∧Hid (onF ps t k (ps.length - i') i' tl L'=R)∧Hid (OnSt B lb lo x c0 ov0 (i':Int) tl.1 tl.2.1 tl.2.2 L' (.slice (some ⟨gg,0,none⟩) (L.length+1) cp) wF):=⟨i+1,(ts,tp,tq),L ++ [((t:Int),k,ts,tp,tq)],by omega,by simp; omega,by omega,hF3,Lib.hid SF⟩
                replace hG:=Lib.hid hG
                replace hmF:=Lib.hid hmF
                replace hwF:=Lib.hid hwF
                replace hSt:=Lib.hid hSt
                clear SF S4
                go_wp2_with fail
                try simp only [hiw]
                try rw [show ((i:Int)+1)=((i+1:Nat):Int) from rfl]
                rw [← hwF.out]
                have hM:ps.length+1 - natOfV ((wF.cell? ⟨lb,lo,none⟩).getD undef) < ps.length+1 - natOfV ((wr.cell? ⟨lb,lo,none⟩).getD undef):=by rw [hmF.out,hm0.out]; omega
                exact ⟨hG.out,hM⟩
              · have b5:(c == 5)=false:=beq_eq_false_iff_ne.2 hc5
                have eT:actT c k (ts,tp,tq)=(ts,tp,tq):=by unfold actT; rw [if_neg hc2,if_neg hc3,if_neg hc4]
                have eL:actL c t k (ts,tp,tq) L=L:=by unfold actL; rw [if_neg hc5]
                have hF2:onF ps t k (ps.length - (i+1)) (i+1) (ts,tp,tq) L=R:=by
                  have h1:=hF2.out
                  rw [eT,eL] at h1
                  exact h1
                replace hF2:=Lib.hid hF2
                clear eT eL
                have S4:=hSt.out.set 0 ((i+1:Nat):Int) (by decide)
                have SF:OnSt B lb lo x c0 ov0 ((i+1:Nat):Int) (ts,tp,tq).1 (ts,tp,tq).2.1 (ts,tp,tq).2.2 (L) u4 (((wr).setCell ⟨lb,lo,none⟩ (.int .i64 ((i+1:Nat):Int)))):=by simpa using S4
                obtain ⟨wF,hwF⟩:∃ wF,wF=((wr).setCell ⟨lb,lo,none⟩ (.int .i64 ((i+1:Nat):Int))):=⟨_,rfl⟩
                rw [← hwF] at SF
                have hmF:natOfV ((wF.cell? ⟨lb,lo,none⟩).getD undef)=i+1:=by rw [SF.cells.1]; simp [natOfV]
                have hG:∃ (i':Nat) (tl:Tl3) (L':List Tld),i'≤ps.length∧L'.length≤L0.length+(i' - a0)∧a0≤i'∧Hid (onF ps t k (ps.length - i') i' tl L'=R)∧Hid (OnSt B lb lo x c0 ov0 (i':Int) tl.1 tl.2.1 tl.2.2 L' u4 wF):=⟨i+1,(ts,tp,tq),L,by omega,by omega,by omega,hF2,Lib.hid SF⟩
                replace hG:=Lib.hid hG
                replace hmF:=Lib.hid hmF
                replace hwF:=Lib.hid hwF
                replace hm0:=Lib.hid hm0
                replace hSt:=Lib.hid hSt
                clear SF S4
                go_wp2_with fail
                try simp only [hiw]
                try simp only [← w64]
                try rw [show ((i:Int)+1)=((i+1:Nat):Int) from rfl]
                rw [← hwF.out]
                have hM:ps.length+1 - natOfV ((wF.cell? ⟨lb,lo,none⟩).getD undef) < ps.length+1 - natOfV ((wr.cell? ⟨lb,lo,none⟩).getD undef):=by rw [hmF.out,hm0.out]; omega
                exact ⟨hG.out,hM⟩
    · have e:(i,(ts,tp,tq),L)=R:=by rw [← hF.out]; exact (onF_stop (by omega)).symm
      have hfin:=hdone (by rw [← e]) (by rw [← e]) (by rw [← e])
      have g1:¬ (i:Int) < (ps.length:Int):=by omega
      have g2:decide ((i:Int) < (ps.length:Int))=false:=decide_eq_false g1
      replace hfin:=Lib.hid hfin
      clear hdone hSt hF hm0
      go_wp2_with fail
      go_ret
      exact ⟨_,rfl,hfin.out⟩
theorem gpicks_k {A:Type} {G:Game A}:∀ (l:List Int) (a:A × Int),(G.picks a l).2=a.2+l.length
  | [],a=>by simp [Game.picks]
  | p :: l,a=>by
    have e:G.picks a (p :: l)=G.picks (G.pk a (pickIx p G.n)) l:=by
      unfold Game.picks
      rw [List.foldl_cons]
    rw [e,gpicks_k l]
    show a.2+1+_=_
    rw [List.length_cons]
    push_cast
    omega
theorem gdrn_k {A:Type} {G:Game A} {a z:A × Int} {x:Nat} (h:G.Drn a x z):a.2≤z.2:=by
  induction h with
  | stop _=>exact Int.le_refl _
  | go _ _ ih=>dsimp only at ih; omega
def RFg {A:Type} (G:Game A) (picks:List Int) (drain:Bool) (a:A) (K nxt:Nat) (z:A × Int):Prop :=
  (0 < G.n∧((K≤picks.length∧nxt=0∧(if drain then G.Drn (G.picks (a,(K:Int)) (picks.drop K)) 0 z else z=G.picks (a,(K:Int)) (picks.drop K)))∨(picks.length≤K∧drain=true∧nxt < G.n∧G.Drn (a,(K:Int)) nxt z)))∨(G.n=0∧z=(a,(K:Int)))
theorem rfg_start {A:Type} {G:Game A} {a0:A} {picks:List Int} {drain:Bool} {z:A × Int} (h:G.Run picks drain a0 z):RFg G picks drain a0 0 0 z:=by
  unfold Game.Run at h
  by_cases hn:G.n=0
  · rw [if_pos hn] at h
    exact .inr ⟨hn,h⟩
  · rw [if_neg hn] at h
    exact .inl ⟨Nat.pos_of_ne_zero hn,.inl ⟨Nat.zero_le _,rfl,by simpa using h⟩⟩
theorem rfg_next {A:Type} {G:Game A} {picks:List Int} {drain:Bool} {a:A} {K nxt:Nat} {z:A × Int} (h:RFg G picks drain a K nxt z) {r:Int} {K' nxt':Nat} (hr:(r,K',nxt')=nextF picks drain G.n (G.alive a) K nxt) :
    (r = -2∧z=(a,(K:Int))∧K'=K)∨(r = -1∧K'=K+1∧K < picks.length∧RFg G picks drain a K' nxt' z)∨(∃ t:Nat,r=(t:Int)∧t < G.n∧G.alive a t=true∧K'=K+1∧RFg G picks drain (G.pick a t ((K:Int)+1)) K' nxt' z):=by
  unfold nextF at hr
  rcases h with ⟨hn,h⟩ | ⟨hn,rfl⟩
  · rw [if_neg (by omega)] at hr
    rcases h with ⟨h1,h2,h3⟩ | ⟨h1,h2,h3,h4⟩
    · subst h2
      cases hp:picks[K]? with
      | some p =>
        rw [hp] at hr
        have hlt:=(List.getElem?_eq_some_iff.1 hp).1
        have hdrop:picks.drop K=p :: picks.drop (K+1):=by
          rw [List.drop_eq_getElem_cons hlt]
          obtain ⟨_,e⟩:=List.getElem?_eq_some_iff.1 hp
          rw [e]
        have hpk:G.picks (a,(K:Int)) (picks.drop K)=G.picks ((if G.alive a (pickIx p G.n)=true then G.pick a (pickIx p G.n) ((K:Int)+1) else a),((K+1:Nat):Int)) (picks.drop (K+1)):=by
          rw [hdrop]
          unfold Game.picks
          rw [List.foldl_cons]
          rfl
        rw [hpk] at h3
        dsimp only at hr
        by_cases ha:G.alive a (pickIx p G.n)=true
        · rw [if_pos ha] at hr h3
          simp only [Prod.mk.injEq] at hr
          obtain ⟨rfl,rfl,rfl⟩:=hr
          exact .inr (.inr ⟨_,rfl,pickIx_lt p hn,ha,rfl,.inl ⟨hn,.inl ⟨by omega,rfl,h3⟩⟩⟩)
        · rw [if_neg ha] at hr h3
          simp only [Prod.mk.injEq] at hr
          obtain ⟨rfl,rfl,rfl⟩:=hr
          exact .inr (.inl ⟨rfl,rfl,hlt,.inl ⟨hn,.inl ⟨by omega,rfl,h3⟩⟩⟩)
      | none =>
        rw [hp] at hr
        have hle:=List.getElem?_eq_none_iff.1 hp
        have hdrop:picks.drop K=[]:=List.drop_eq_nil_of_le hle
        rw [hdrop] at h3
        have hz:G.picks (a,(K:Int)) []=(a,(K:Int)):=rfl
        rw [hz] at h3
        dsimp only at hr
        cases drain with
        | false =>
          simp only [Bool.false_eq_true,if_false] at hr h3
          simp only [Prod.mk.injEq] at hr
          obtain ⟨rfl,rfl,rfl⟩:=hr
          exact .inl ⟨rfl,h3,rfl⟩
        | true =>
          simp only [if_true] at hr h3
          cases h3 with
          | stop h =>
            have h':nx (G.alive a) G.n G.n 0=none:=h
            rw [h'] at hr
            simp only [Prod.mk.injEq] at hr
            obtain ⟨rfl,rfl,rfl⟩:=hr
            exact .inl ⟨rfl,rfl,rfl⟩
          | @go _ _ t _ h d =>
            have h':nx (G.alive a) G.n G.n 0=some t:=h
            obtain ⟨b1,b2⟩:=nx_some hn h'
            rw [h'] at hr
            simp only [Prod.mk.injEq] at hr
            obtain ⟨rfl,rfl,rfl⟩:=hr
            exact .inr (.inr ⟨t,rfl,b1,b2,rfl,.inl ⟨hn,.inr ⟨by omega,rfl,Nat.mod_lt _ hn,d⟩⟩⟩)
    · subst h2
      rw [List.getElem?_eq_none h1] at hr
      simp only [if_true] at hr
      cases h4 with
      | stop h =>
        have h':nx (G.alive a) G.n G.n nxt=none:=h
        rw [h'] at hr
        simp only [Prod.mk.injEq] at hr
        obtain ⟨rfl,rfl,rfl⟩:=hr
        exact .inl ⟨rfl,rfl,rfl⟩
      | @go _ _ t _ h d =>
        have h':nx (G.alive a) G.n G.n nxt=some t:=h
        obtain ⟨b1,b2⟩:=nx_some h3 h'
        rw [h'] at hr
        simp only [Prod.mk.injEq] at hr
        obtain ⟨rfl,rfl,rfl⟩:=hr
        exact .inr (.inr ⟨t,rfl,b1,b2,rfl,.inl ⟨hn,.inr ⟨by omega,rfl,Nat.mod_lt _ hn,d⟩⟩⟩)
  · rw [if_pos hn] at hr
    simp only [Prod.mk.injEq] at hr
    obtain ⟨rfl,rfl,rfl⟩:=hr
    exact .inl ⟨rfl,rfl,rfl⟩
theorem rfg_nxt {A:Type} {G:Game A} {picks:List Int} {drain:Bool} {a:A} {K nxt:Nat} {z:A × Int} (h:RFg G picks drain a K nxt z) (hn:0 < G.n):nxt < G.n:=by
  rcases h with ⟨_,⟨_,rfl,_⟩ | ⟨_,_,h,_⟩⟩ | ⟨h,_⟩
  · exact hn
  · exact h
  · omega
theorem rfg_le {A:Type} {G:Game A} {picks:List Int} {drain:Bool} {a:A} {K nxt:Nat} {z:A × Int} (h:RFg G picks drain a K nxt z):(K:Int)≤z.2:=by
  rcases h with ⟨_,⟨_,_,h⟩ | ⟨_,_,_,h⟩⟩ | ⟨_,rfl⟩
  · have h1:=gpicks_k (G:=G) (picks.drop K) (a,(K:Int))
    dsimp only at h1
    cases drain with
    | true =>
      simp only [if_true] at h
      have:=gdrn_k h
      omega
    | false =>
      simp only [Bool.false_eq_true,if_false] at h
      rw [h]
      omega
  · exact gdrn_k h
  · exact Int.le_refl _
def NxtG {A:Type} (G:Game A) (picks:List Int) (drain:Bool) (a:A) (r:Int) (K nxt:Nat) (z:A × Int):Prop :=
  (r = -2∧z=(a,(K:Int)))∨(r = -1∧RFg G picks drain a K nxt z)∨∃ t:Nat,r=(t:Int)∧t < G.n∧G.alive a t=true∧RFg G picks drain (G.pick a t (K:Int)) K nxt z
def opsOf (ts:List (List Int)) (t:Nat):List Int:=(ts[t]?).getD []
structure RA where
  told:List Tld
  at_:Nat→Nat
  tl:Nat→Tl3
def goesRA (ts:List (List Int)) (a:RA) (t:Nat) (k:Int) (i:Nat) (tl:Tl3):RA:=⟨(onF (opsOf ts t) t k ((opsOf ts t).length - i) i tl a.told).2.2,upd a.at_ t (onF (opsOf ts t) t k ((opsOf ts t).length - i) i tl a.told).1,upd a.tl t (onF (opsOf ts t) t k ((opsOf ts t).length - i) i tl a.told).2.1⟩
def startRA (ts:List (List Int)) (a:RA) (t:Nat):RA:=goesRA ts a t 0 0 (0,0,0)
def pickRA (ts:List (List Int)) (a:RA) (t:Nat) (k:Int):RA:=goesRA ts a t k (a.at_ t+1) (IntKind.i64.wrap ((a.tl t).1+1),(a.tl t).2.1,(a.tl t).2.2)
def ra00:RA:=⟨[],fun _=>0,fun _=>(0,0,0)⟩
def ra0 (ts:List (List Int)) (n:Nat):RA:=(List.range n).foldl (startRA ts) ra00
theorem ra0_succ (ts:List (List Int)) (n:Nat):ra0 ts (n+1)=startRA ts (ra0 ts n) n:=by
  unfold ra0
  rw [List.range_succ,List.foldl_append]
  rfl
def runG (ts:List (List Int)):Game RA where
  n:=ts.length
  alive a t:=decide (a.at_ t < (opsOf ts t).length)
  pick:=pickRA ts
def runW (ts:List (List Int)) (a:RA):Nat:=sumTo ts.length (fun t=>(opsOf ts t).length - a.at_ t)
theorem runW_pick {ts:List (List Int)} (a:RA) (t:Nat) (k:Int) (ht:t < (runG ts).n) (ha:(runG ts).alive a t=true):runW ts ((runG ts).pick a t k) < runW ts a:=by
  have ha':a.at_ t < (opsOf ts t).length:=of_decide_eq_true ha
  obtain ⟨q1,q2,_⟩:=onF_le (t:=t) (k:=k) ((opsOf ts t).length - (a.at_ t+1)) (a.at_ t+1) (IntKind.i64.wrap ((a.tl t).1+1),(a.tl t).2.1,(a.tl t).2.2) a.told (show a.at_ t+1≤(opsOf ts t).length from ha')
  obtain ⟨r,hr⟩:∃ r,r=(onF (opsOf ts t) t k ((opsOf ts t).length - (a.at_ t+1)) (a.at_ t+1) (IntKind.i64.wrap ((a.tl t).1+1),(a.tl t).2.1,(a.tl t).2.2) a.told).1:=⟨_,rfl⟩
  rw [← hr] at q1 q2
  have h1:=sumTo_upd (fun t=>(opsOf ts t).length - a.at_ t) ((opsOf ts t).length - r) (fun x=>x) (j:=ts.length) (i:=t) ht
  have e:(fun t'=>(opsOf ts t').length - upd a.at_ t r t')=upd (fun t=>(opsOf ts t).length - a.at_ t) t ((opsOf ts t).length - r):=by
    funext t'
    by_cases e:t'=t
    · subst e
      rw [upd_same,upd_same]
    · rw [upd_ne _ _ e,upd_ne _ _ e]
  show sumTo ts.length (fun t'=>(opsOf ts t').length - upd a.at_ t _ t') < sumTo ts.length (fun t=>(opsOf ts t).length - a.at_ t)
  rw [← hr,e]
  have h2:sumTo ts.length (fun a_1=>upd (fun t=>(opsOf ts t).length - a.at_ t) t ((opsOf ts t).length - r) a_1)=sumTo ts.length (upd (fun t=>(opsOf ts t).length - a.at_ t) t ((opsOf ts t).length - r)):=rfl
  have h3:sumTo ts.length (fun a_1=>(fun t=>(opsOf ts t).length - a.at_ t) a_1)=sumTo ts.length (fun t=>(opsOf ts t).length - a.at_ t):=rfl
  omega
theorem run_ex (ts:List (List Int)) (picks:List Int) (drain:Bool) (a:RA):∃ z,(runG ts).Run picks drain a z:=Game.Run.ex (runW ts) (fun a t k h1 h2=>runW_pick a t k h1 h2) picks drain a
def BndR (ts:List (List Int)) (a:RA):Prop:=(∀ t,a.at_ t≤(opsOf ts t).length)∧a.told.length≤sumTo ts.length a.at_
theorem bnd_goes {ts:List (List Int)} {a:RA} {t:Nat} {k:Int} {i:Nat} {tl:Tl3} (h:BndR ts a) (ht:t < ts.length) (h1:a.at_ t≤i) (h2:i≤(opsOf ts t).length):BndR ts (goesRA ts a t k i tl):=by
  obtain ⟨q1,q2,q3⟩:=onF_le (t:=t) (k:=k) ((opsOf ts t).length - i) i tl a.told h2
  refine ⟨fun t'=>?_,?_⟩
  · show upd a.at_ t _ t'≤_
    by_cases e:t'=t
    · subst e; rw [upd_same]; exact q2
    · rw [upd_ne _ _ e]; exact h.1 t'
  · have e1:=sumTo_upd a.at_ (onF (opsOf ts t) t k ((opsOf ts t).length - i) i tl a.told).1 (fun x=>x) (j:=ts.length) (i:=t) ht
    have e2:sumTo ts.length (fun b=>upd a.at_ t (onF (opsOf ts t) t k ((opsOf ts t).length - i) i tl a.told).1 b)=sumTo ts.length (upd a.at_ t (onF (opsOf ts t) t k ((opsOf ts t).length - i) i tl a.told).1):=rfl
    have e3:sumTo ts.length (fun b=>a.at_ b)=sumTo ts.length a.at_:=rfl
    have:=h.2
    show (onF (opsOf ts t) t k ((opsOf ts t).length - i) i tl a.told).2.2.length≤sumTo ts.length (upd a.at_ t _)
    omega
theorem bnd_pick {ts:List (List Int)} {a:RA} {t:Nat} {k:Int} (h:BndR ts a) (ht:t < ts.length) (ha:(runG ts).alive a t=true):BndR ts (pickRA ts a t k):=bnd_goes h ht (by omega) (of_decide_eq_true ha)
theorem bnd_start {ts:List (List Int)}:∀ n,n≤ts.length→BndR ts (ra0 ts n)∧∀ t,n≤t→(ra0 ts n).at_ t=0
  | 0,_=>⟨⟨fun t=>Nat.zero_le _,Nat.zero_le _⟩,fun _ _=>rfl⟩
  | n+1,h=>by
    obtain ⟨h1,h2⟩:=bnd_start (ts:=ts) n (by omega)
    rw [ra0_succ]
    refine ⟨bnd_goes h1 (by omega) (by rw [h2 n (Nat.le_refl _)]; exact Nat.zero_le _) (Nat.zero_le _),fun t ht=>?_⟩
    show upd (ra0 ts n).at_ n _ t=0
    rw [upd_ne _ _ (by omega)]
    exact h2 t (by omega)
structure RB (B:Nat) (pv:Value) (drain:Bool) (n:Nat) (at_:Nat→Nat) (tl:Nat→Tl3) (told:List Tld) (al:Nat→Bool) (K nxt:Nat) (ov:Value) (x:World):Prop where
  run:x.heap[B]?=some (runCells pv drain K nxt)
  bod:∃ c,x.heap[B+1]?=some (.cells c 114)∧c.size=n * 4∧∀ t,t < n→c[t * 4]?=some (.int .i64 (at_ t:Int))∧c[t * 4+1]?=some (.int .i64 (tl t).1)∧c[t * 4+2]?=some (.int .i64 (tl t).2.1)∧c[t * 4+3]?=some (.int .i64 (tl t).2.2)
  en:x.heap[B+2]?=some (.cells ((List.range n).map fun t=>.bool (al t)).toArray 4)
  out:x.ownsRow (B+3) 117 5 ov told.length (tldsV told)
section
variable {B n K nxt:Nat} {pv ov:Value} {drain:Bool} {at_:Nat→Nat} {tl:Nat→Tl3} {told:List Tld} {al:Nat→Bool} {x x':World}
theorem RB.nb (h:RB B pv drain n at_ tl told al K nxt ov x) (b:Nat) (hb:b < B+3):ov.ownBlock≠some b:=fun e=>by have:=(h.out.lt _ e).1; omega
theorem RB.same (h:RB B pv drain n at_ tl told al K nxt ov x) (hh:x'.heap=x.heap):RB B pv drain n at_ tl told al K nxt ov x':=by
  obtain ⟨h1,h2,h3,h4⟩:=h
  exact ⟨by rw [hh]; exact h1,by rw [hh]; exact h2,by rw [hh]; exact h3,ownsRow_same h4 (fun g _=>by rw [hh])⟩
theorem RB.toOn (h:RB B pv drain n at_ tl told al K nxt ov x) {t:Nat} (ht:t < n):∃ c,x.heap[B+1]?=some (.cells c 114)∧c.size=n * 4∧OnSt (B+3) (B+1) (t * 4) x c ov (at_ t:Int) (tl t).1 (tl t).2.1 (tl t).2.2 told ov x:=by
  obtain ⟨c,h1,h2,h3⟩:=h.bod
  obtain ⟨a1,a2,a3,a4⟩:=h3 t ht
  exact ⟨c,h1,h2,⟨c,h1,rfl,a1,a2,a3,a4,fun _ _=>rfl⟩,h.out,fun _ _ _ _=>rfl,fun g hg=>.inl hg,Nat.le_refl _,h.nb (B+1) (by omega)⟩
theorem RB.ofOn (h:RB B pv drain n at_ tl told al K nxt ov x) {t:Nat} (ht:t < n) {c:Array Value} {a':Nat} {s p q:Int} {told':List Tld} {ov':Value} (hc:x.heap[B+1]?=some (.cells c 114)) (o:OnSt (B+3) (B+1) (t * 4) x c ov (a':Int) s p q told' ov' x') :
    RB B pv drain n (upd at_ t a') (upd tl t (s,p,q)) told' al K nxt ov' x'∧(∀ b,b < B→x'.heap[b]?=x.heap[b]?)∧x.heap.size≤x'.heap.size:=by
  obtain ⟨c',h1,h2,a1,a2,a3,a4,h7⟩:=o.blk
  obtain ⟨c2,e1,e2,e3⟩:=h.bod
  rw [hc] at e1
  simp only [Option.some.injEq,Obj.cells.injEq] at e1
  obtain ⟨rfl,_,_⟩:=e1
  have hl1:=(Array.getElem?_eq_some_iff.1 h.run).1
  have hl2:=(Array.getElem?_eq_some_iff.1 h.en).1
  refine ⟨⟨(o.old B hl1 (by omega) (h.nb B (by omega))).trans h.run,⟨c',h1,h2.trans e2,fun t' ht'=>?_⟩,(o.old (B+2) hl2 (by omega) (h.nb (B+2) (by omega))).trans h.en,o.row⟩,fun b hb=>o.old b (by omega) (by omega) (h.nb b (by omega)),o.size⟩
  by_cases e:t'=t
  · subst e
    rw [upd_same,upd_same]
    exact ⟨a1,a2,a3,a4⟩
  · rw [upd_ne _ _ e,upd_ne _ _ e]
    obtain ⟨b1,b2,b3,b4⟩:=e3 t' ht'
    rw [h7 _ (by omega),h7 _ (by omega),h7 _ (by omega),h7 _ (by omega)]
    exact ⟨b1,b2,b3,b4⟩
theorem RB.ended (h:RB B pv drain n at_ tl told al K nxt ov x) {t:Nat} (ht:t < n) (b:Bool):RB B pv drain n at_ tl told (upd al t b) K nxt ov (x.setCell ⟨B+2,t,none⟩ (.bool b))∧∀ c,c < B→(x.setCell ⟨B+2,t,none⟩ (.bool b)).heap[c]?=x.heap[c]?:=by
  have ho:∀ c,c≠B+2→(x.setCell ⟨B+2,t,none⟩ (.bool b)).heap[c]?=x.heap[c]?:=fun c hc=>heap_setCell_ne (a:=⟨B+2,t,none⟩) (fun e=>hc e.symm)
  refine ⟨⟨(ho B (by omega)).trans h.run,by rw [ho (B+1) (by omega)]; exact h.bod,row_set h.en ht (by rw [upd_same]) (fun s hs=>by rw [upd_ne _ _ hs]),ownsRow_same h.out (fun g hg=>ho g (fun e=>h.nb (B+2) (by omega) (by rw [← e]; exact hg)))⟩,fun c hc=>ho c (by omega)⟩
theorem RB.kOf (h:RB B pv drain n at_ tl told al K nxt ov x):Co.kOf B x=K:=by
  unfold Co.kOf
  rw [obj_cell h.run (o:=2) rfl]
  simp [natOfV]
theorem RB.atCell (h:RB B pv drain n at_ tl told al K nxt ov x) {t:Nat} (ht:t < n):x.cell? ⟨B+1,t * 4,none⟩=some (.int .i64 (at_ t:Int))∧x.cell? ⟨B+1,t * 4+1,none⟩=some (.int .i64 (tl t).1)∧∀ o,x.frozen? ⟨B+1,o,none⟩=false:=by
  obtain ⟨c,h1,_,h3⟩:=h.bod
  exact ⟨obj_cell h1 (h3 t ht).1,obj_cell h1 (h3 t ht).2.1,fun o=>obj_thaw h1 o⟩
theorem RB.next {pcap pb po:Nat} {pa:Option Addr} {A:Type} {G:Game A} {picks:List Int} {a:A} {z:A × Int} (h:RB B (.slice pa picks.length pcap) drain n at_ tl told al K nxt ov x) (hG:G.n=n) (hal:∀ t,t < n→al t = !G.alive a t) (hf:RFg G picks drain a K nxt z) (hz2:z.2≤100000000000000) (hn:n≤8) (hnp:picks.length≤100000000000) (hp64:∀ p ∈ picks,-9223372036854775808≤p∧p≤9223372036854775807)
    (hpa:picks≠[]→pa=some ⟨pb,po,none⟩) (hps:∀ i p,picks[i]?=some p→x.cell? ⟨pb,po+i,none⟩=some (.int .i64 p)) :
    Calls Try.prog 66 #[.pointer (some ⟨B,0,none⟩),.slice (some ⟨B+2,0,none⟩) n n] x fun e x'=>∃ r K' nxt',e=.returned (.int .i64 r)∧RB B (.slice pa picks.length pcap) drain n at_ tl told al K' nxt' ov x'∧NxtG G picks drain a r K' nxt' z∧(r≠-2→K'=K+1)∧K≤K'∧(∀ b,b < B→x'.heap[b]?=x.heap[b]?)∧x'.heap.size=x.heap.size:=by
  subst hG
  have hle:=rfg_le hf
  refine (next_any (alive:=G.alive a) hn (by omega) (by omega) hp64 (rfg_nxt hf) h.run hpa hps (fun t ht=>by rw [← hal t ht]; exact row_cell h.en ht) (by omega)).mono ?_
  rintro e y' ⟨rfl,hr⟩
  obtain ⟨r,K',nxt',hres⟩:∃ r K' nxt',(r,K',nxt')=nextF picks drain G.n (G.alive a) K nxt:=⟨_,_,_,rfl⟩
  rw [← hres] at hr ⊢
  have hs:=rfg_next hf hres
  refine ⟨r,K',nxt',rfl,⟨hr.run,by rw [hr.old (B+1) (by omega)]; exact h.bod,(hr.old (B+2) (by omega)).trans h.en,ownsRow_same h.out (fun g hg=>hr.old g (fun e=>h.nb B (by omega) (by rw [← e]; exact hg)))⟩,?_,fun hne=>?_,?_,fun b hb=>hr.old b (by omega),hr.size⟩
  · rcases hs with ⟨e1,e2,e3⟩ | ⟨e1,_,_,e2⟩ | ⟨t,e1,e2,e3,e4,e5⟩
    · exact .inl ⟨e1,by rw [e2,e3]⟩
    · exact .inr (.inl ⟨e1,e2⟩)
    · refine .inr (.inr ⟨t,e1,e2,e3,?_⟩)
      rw [e4] at e5 ⊢
      push_cast
      exact e5
  · rcases hs with ⟨e1,_⟩ | ⟨_,e2,_⟩ | ⟨t,_,_,_,e4,_⟩
    · exact absurd e1 hne
    · exact e2
    · exact e4
  · rcases hs with ⟨_,_,e3⟩ | ⟨_,e2,_⟩ | ⟨t,_,_,_,e4,_⟩ <;> omega
end
structure IntsTX (x:World) (ta:Option Addr) (ba bo:Nat) (LA:Nat→Option Addr) (LC:Nat→Nat) (ts:List (List Int)):Prop where
  ta:0 < ts.length→ta=some ⟨ba,bo,none⟩
  row:∀ i l,ts[i]?=some l→x.cell? ⟨ba,bo+i,none⟩=some (.slice (LA i) l.length (LC i))
  ops:∀ i l,ts[i]?=some l→l≠[]→∃ la lo,LA i=some ⟨la,lo,none⟩∧∀ j c,l[j]?=some c→x.cell? ⟨la,lo+j,none⟩=some (.int .i64 c)
theorem RB.on {B n K nxt t cap:Nat} {pv ov:Value} {drain:Bool} {at_:Nat→Nat} {tl:Nat→Tl3} {told:List Tld} {al:Nat→Bool} {y:World} {k:Int} {l:List Int} {pa:Option Addr} (h:RB B pv drain n at_ tl told al K nxt ov y) (ht:t < n) (hpa:l≠[]→∃ la lo,pa=some ⟨la,lo,none⟩∧la < B∧∀ j c,l[j]?=some c→y.cell? ⟨la,lo+j,none⟩=some (.int .i64 c))
    (hpl:l.length≤100000000000) (hL:told.length≤1000000000000 - 100000000000) (ha:at_ t≤l.length) :
    Calls Try.prog 77 #[.pointer (some ⟨B+1,t * 4,none⟩),.int .i64 (t:Int),.slice pa l.length cap,.int .i64 k,ov] y fun e y'=>∃ ov',e=.returned ov'∧RB B pv drain n (upd at_ t (onF l t k (l.length - at_ t) (at_ t) (tl t) told).1) (upd tl t (onF l t k (l.length - at_ t) (at_ t) (tl t) told).2.1) (onF l t k (l.length - at_ t) (at_ t) (tl t) told).2.2 al K nxt ov' y'∧(∀ b,b < B→y'.heap[b]?=y.heap[b]?)∧y.heap.size≤y'.heap.size:=by
  obtain ⟨c,e1,e2,o⟩:=h.toOn ht
  have hB3:B+3≤y.heap.size:=by have:=(Array.getElem?_eq_some_iff.1 h.en).1; omega
  by_cases hne:l=[]
  · subst hne
    refine (on_any (pb:=0) (po:=0) (pa:=pa) (ps:=[]) (tl0:=tl t) (a0:=at_ t) o (fun e=>absurd rfl e) (fun i p hi=>by simp at hi) hpl hL ha hB3 (fun e=>absurd rfl e)).mono ?_
    rintro e y' ⟨ov',rfl,h'⟩
    exact ⟨ov',rfl,h.ofOn ht e1 h'⟩
  · obtain ⟨la,lo,q1,q2,q3⟩:=hpa hne
    refine (on_any (pb:=la) (po:=lo) (pa:=pa) (ps:=l) (tl0:=tl t) (a0:=at_ t) o (fun _=>q1) q3 hpl hL ha hB3 (fun _=>⟨by omega,h.nb la (by omega)⟩)).mono ?_
    rintro e y' ⟨ov',rfl,h'⟩
    exact ⟨ov',rfl,h.ofOn ht e1 h'⟩
theorem info114:∃ i:TypeInfo,Try.prog.info? 114=some i∧i.zero=some (.agg #[.int .i64 0,.int .i64 0,.int .i64 0,.int .i64 0])∧i.size=4∧i.bytes=32:=by
  have h:(Try.prog.info? 114).isSome=true:=by kernel_rfl
  obtain ⟨i,hi⟩:=Option.isSome_iff_exists.1 h
  have h2:(Try.prog.info? 114).map (fun i=>(i.zero,i.size,i.bytes))=some (some (.agg #[.int .i64 0,.int .i64 0,.int .i64 0,.int .i64 0]),4,32):=by kernel_rfl
  rw [hi] at h2
  simp only [Option.map_some,Option.some.injEq,Prod.mk.injEq] at h2
  exact ⟨i,hi,h2.1,h2.2.1,h2.2.2⟩
def bodsZ (n:Nat):Array Value:=((List.range (n * 4)).map fun _=>Value.int .i64 0).toArray
theorem made_bd (n:Nat):madeCells (Value.agg #[.int .i64 0,.int .i64 0,.int .i64 0,.int .i64 0]).cells (n * 4)=bodsZ n:=by
  apply Array.ext
  · simp [madeCells,bodsZ]
  · intro i h1 h2
    simp only [madeCells,bodsZ,Value.cells,List.getElem_toArray,List.getElem_map]
    simp
    have:i % 4 < 4:=Nat.mod_lt _ (by decide)
    match i % 4,this with
    | 0,_ | 1,_ | 2,_ | 3,_=>rfl
theorem make_bd (n:Nat) (hn:n≤8) (x:World):(Instr.makeSlice 112 (.int .i64 (n:Int)) (.int .i64 (n:Int))).run Try.prog x=.ok (.slice (some ⟨x.heap.size,0,none⟩) n n) (x.alloc (.cells (bodsZ n) 114)):=by
  obtain ⟨i0,hi,hz,hs,hb⟩:=info114
  have h:=run_makeSlice (P:=Try.prog) (w:=x) 112 114 i0 _ Try.underlying112 hi hz .i64 .i64 (n:Int) (n:Int) (by omega) (Int.le_refl _) (by rw [hs,Int.toNat_natCast]; omega) (by rw [hb]; push_cast; omega) (by omega)
  rw [Int.toNat_natCast,hs,made_bd n] at h
  exact h
theorem rbodies_many {x:World} {n cap:Nat} {ta:Option Addr} {pv dv:Value} (hn:8 < n):Calls Try.prog 38 #[.slice ta n cap,pv,dv] x fun e x'=>e=.returned (.tuple #[.slice none 0 0,.int .i64 0])∧x'=x:=by
  have q:(8:Int) < (n:Int):=by omega
  go_enter Try.func38,Try.ntmps38
  go_wp2
  refine bodyPost_ret (results_tmp2 rfl _ _ _) rfl ⟨?_,rfl⟩
  rfl
end Go.Proofs.Ytimlbbleblijnaa.Co
