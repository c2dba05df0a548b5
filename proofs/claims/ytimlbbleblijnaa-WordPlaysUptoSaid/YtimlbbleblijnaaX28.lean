/- Lemmas for the laws of this seat, laid together of POf, POg. -/
import Derived.Test.YtimlbbleblijnaaX23
import Derived.Test.YtimlbbleblijnaaX27

set_option linter.unusedVariables false
set_option linter.unusedSimpArgs false
set_option maxRecDepth 100000
set_option maxHeartbeats 4000000
namespace Go.Proofs.Ytimlbbleblijnaa.Co
open Go Go.Conc Go.RowKit
open Go.ConcN (sumTo upd sumTo_upd upd_ne upd_same sumTo_congr le_sumTo)
noncomputable def gqB:Code:=Try.f48.body.getD .skip
noncomputable def gqT1:Code:=match gqB with | .seq _ x=>x | _=>.skip
noncomputable def gqL1:Code:=match gqT1 with | .seq (.seq _ (.block _ x)) _=>x | _=>.skip
noncomputable def gqT5:Code:=match gqT1 with | .seq _ x=>x | _=>.skip
noncomputable def gqL5:Code:=match gqT5 with | .seq (.seq _ (.block _ x)) _=>x | _=>.skip
noncomputable def gqT9:Code:=match gqT5 with | .seq _ x=>x | _=>.skip
noncomputable def gqL9:Code:=match gqT9 with | .seq (.seq _ (.block _ x)) _=>x | _=>.skip
noncomputable def gqT13:Code:=match gqT9 with | .seq _ x=>x | _=>.skip
noncomputable def gqL13:Code:=match gqT13 with | .seq (.seq _ (.block _ x)) _=>x | _=>.skip
noncomputable def gqT17:Code:=match gqT13 with | .seq _ x=>x | _=>.skip
noncomputable def gqT18:Code:=match gqT17 with | .seq _ x=>x | _=>.skip
noncomputable def gqT19:Code:=match gqT18 with | .seq _ x=>x | _=>.skip
noncomputable def gqT20:Code:=match gqT19 with | .seq _ x=>x | _=>.skip
noncomputable def gqT21:Code:=match gqT20 with | .seq _ x=>x | _=>.skip
noncomputable def gqL21:Code:=match gqT21 with | .seq (.seq _ (.block _ x)) _=>x | _=>.skip
noncomputable def gqT28:Code:=match gqT21 with | .seq _ x=>x | _=>.skip
noncomputable def gqT29:Code:=match gqT28 with | .seq _ x=>x | _=>.skip
noncomputable def gqL29:Code:=match gqT29 with | .seq (.seq _ (.block _ x)) _=>x | _=>.skip
noncomputable def gqT33:Code:=match gqT29 with | .seq _ x=>x | _=>.skip
noncomputable def gqL33:Code:=match gqT33 with | .seq (.seq _ (.block _ x)) _=>x | _=>.skip
noncomputable def gqT37:Code:=match gqT33 with | .seq _ x=>x | _=>.skip
noncomputable def gqL37:Code:=match gqT37 with | .seq (.seq _ (.block _ x)) _=>x | _=>.skip
noncomputable def gqT41:Code:=match gqT37 with | .seq _ x=>x | _=>.skip
noncomputable def gqL41:Code:=match gqT41 with | .seq (.seq _ (.block _ x)) _=>x | _=>.skip
theorem gq1_wp {f:Nat→Value} {x wr0:World} {V:Nat→Value} {N:Nat→Nat} {L:Nat→List Value} {A:Option Addr} {n cap:Nat} {Q:Exit→Act→World→Prop} (h1:f 0=.slice A n cap) (h2:f 9=.int .i64 0) (hv:V 0=.slice A n cap) (hN:N 0=n) (hn:n≤100000000000) (hA:0 < n→∃ g,A=some ⟨g,0,none⟩) (hF:Fil x V N L wr0)
  (hQ:∀ T' x',T'.size=196→(∀ j,j < 23→j≠9→T'[j]?=some (f j))→Fil x V N (upd L 0 (repV (mkV mA) n)) x'→Q (.exit 0) ⟨T',[]⟩ x'):gqL1.wp Try.prog Q ⟨(List.map f (List.range 196)).toArray,[]⟩ wr0:=by
 replace hQ:=Lib.hid hQ
 replace hv:=Lib.hid hv
 replace hN:=Lib.hid hN
 have hlen:(L 0).length=n * 4:=by have:=(hF.row 0 (by decide)).1; rw [hN.out] at this; exact this
 replace hlen:=Lib.hid hlen
 replace hF:=Lib.hid hF
 simp only [List.range,List.range.loop,List.map_cons,List.map_nil,h1,h2]
 simp only [gqL1,gqT1,gqB,Try.f48,Option.getD_some]
 go_loopw [9] (fun v wr=>∃ i:Nat,v=.int .i64 (i:Int)∧i≤n∧Hid (Fil x V N (upd L 0 (fillV (mkV mA) (L 0) i)) wr)) (fun v _=>n+1 - natOfV v)
 case atStart =>
  refine ⟨0,rfl,Nat.zero_le _,Lib.hid ?_⟩
  have e:upd L 0 (fillV (mkV mA) (L 0) 0)=L:=by
   rw [fillV_0]
   funext z
   by_cases e:z=0
   ·rw [e,upd_same]
   ·rw [upd_ne _ _ e]
  rw [e]
  exact hF.out
 case round =>
  clear hF
  obtain ⟨i,rfl,hi,hr⟩:=hrel
  by_cases hlt:i < n
  ·obtain ⟨g,rfl⟩:=hA (by omega)
   have g1:(i:Int) < (n:Int):=by omega
   have g2:(0:Int)≤(i:Int):=by omega
   have hrow:wr.ownsRow 0 37 4 (.slice (some ⟨g,0,none⟩) n cap) n (fillV (mkV mA) (L 0) i):=by
    have h:=hr.out.row 0 (by decide)
    rw [upd_same,hN.out,hv.out] at h
    exact h
   obtain ⟨cur,hg0,hfit0,hnew⟩:=own_store (o:=i * 4) (mkV mA) hrow (by show i * 4+4≤n * 4; omega)
   have hks:(mkV mA).length=4:=rfl
   rw [hks] at hfit0 hnew
   have hks2:=hks
   have hfn:=fillV_next (mkV mA) (L 0) i
   rw [hks] at hfn
   rw [hfn] at hnew
   obtain ⟨i0,hi0,_,hs0,_⟩:=info37
   have hst:=store_run4 (P:=Try.prog) (o:=i * 4) (.int .i64 mA.1) (.int .i64 mA.2.1) (.int .i64 mA.2.2.1) (.int .i64 mA.2.2.2) hi0 hs0 hg0 hfit0 rfl rfl rfl rfl
   obtain ⟨w2,hw2⟩:∃ w,w=wr.setRow g (cur.take (i * 4) ++ (mkV mA) ++ cur.drop (i * 4+4)).toArray:=⟨_,rfl⟩
   have hst':(Instr.storeAt 37 (.pointer (some ⟨g,i * 4,none⟩)) (.agg #[.int .i64 mA.1,.int .i64 mA.2.1,.int .i64 mA.2.2.1,.int .i64 mA.2.2.2])).run Try.prog wr=.ok () w2:=by rw [hw2]; exact hst
   have hF3:Fil x V N (upd L 0 (fillV (mkV mA) (L 0) (i+1))) w2:=by
    have hp:=hr.out.put (r:=0) (g:=g) (w':=w2) (l:=fillV (mkV mA) (L 0) (i+1)) (by decide) (by rw [hv.out]; rfl) (fun b hb=>by rw [hw2]; exact setRow_other _ _ _ _ hb) (by rw [hw2]; simp [World.setRow]) (by rw [hN.out,hv.out,hw2]; exact hnew)
    have e:∀ l,upd (upd L 0 (fillV (mkV mA) (L 0) i)) 0 l=upd L 0 l:=fun l=>by
     funext z
     by_cases e:z=0
     ·rw [e,upd_same,upd_same]
     ·rw [upd_ne _ _ e,upd_ne _ _ e,upd_ne _ _ e]
    rw [e] at hp
    exact hp
   have e9:natOfV (.int .i64 ((i:Int)+1))=i+1:=by simp [natOfV]
   have hiw:IntKind.i64.wrap ((i:Int)+1)=((i+1:Nat):Int):=by rw [IntKind.wrap_i64]; omega
   replace hF3:=Lib.hid hF3
   clear hst hnew hfit0 hg0 hrow hr
   replace hw2:=Lib.hid hw2
   go_wp2_with (refine wpList_store rfl rfl (.tmp 32) (.tmp 31) 37 rfl rfl rfl hst' ?_)
   exact ⟨⟨i+1,by rw [Int.natCast_add]; rfl,by omega,hF3⟩,by rw [e9]; simp [natOfV]; omega⟩
  ·obtain rfl:n=i:=by omega
   have g1:¬ (n:Int) < (n:Int):=by omega
   have hfin:Fil x V N (upd L 0 (repV (mkV mA) n)) wr:=by
    have h:=hr.out
    rw [fillV_all (by rw [hlen.out]; rfl)] at h
    exact h
   replace hfin:=Lib.hid hfin
   clear hr
   go_wp2
   refine hQ.out _ _ (by simp) (fun j hj hne=>?_) hfin.out
   match j,hj,hne with
   | 9,_,h=>exact absurd rfl h
   | 0,_,_ | 1,_,_ | 2,_,_ | 3,_,_ | 4,_,_ | 5,_,_ | 6,_,_ | 7,_,_ | 8,_,_ | 10,_,_ | 11,_,_ | 12,_,_ | 13,_,_ | 14,_,_ | 15,_,_ | 16,_,_ | 17,_,_ | 18,_,_ | 19,_,_ | 20,_,_ | 21,_,_ | 22,_,_=>simp [h1]
   | q+23,hq,_=>exact absurd hq (by omega)
theorem gq1_T {c:Code} (hcode:c=gqL1) {T:Array Value} {x wr0:World} {V:Nat→Value} {N:Nat→Nat} {L:Nat→List Value} {A:Option Addr} {n cap:Nat} {Q:Exit→Act→World→Prop} (hs:T.size=196) (h1:T[0]?=some (.slice A n cap)) (h2:T[9]?=some (.int .i64 0)) (hv:V 0=.slice A n cap) (hN:N 0=n) (hn:n≤100000000000) (hA:0 < n→∃ g,A=some ⟨g,0,none⟩) (hF:Fil x V N L wr0)
  (hQ:∀ T' x',T'.size=196→(∀ j,j < 23→j≠9→T'[j]?=T[j]?)→Fil x V N (upd L 0 (repV (mkV mA) n)) x'→Q (.exit 0) ⟨T',[]⟩ x'):c.wp Try.prog Q ⟨T,[]⟩ wr0:=by
 subst hcode
 obtain ⟨f,hf,fz⟩:=arrfv T hs
 have e1:=fz 0 _ h1
 have e2:=fz 9 _ h2
 subst hf
 exact gq1_wp e1 e2 hv hN hn hA hF (fun T' x' a1 a2 a3=>hQ T' x' a1 (fun q h1 h2=>by rw [a2 q h1 h2,arrf_get f (by omega)]) a3)
theorem gq5_wp {f:Nat→Value} {x wr0:World} {V:Nat→Value} {N:Nat→Nat} {L:Nat→List Value} {A:Option Addr} {n cap:Nat} {Q:Exit→Act→World→Prop} (h1:f 1=.slice A n cap) (h2:f 10=.int .i64 0) (hv:V 1=.slice A n cap) (hN:N 1=n) (hn:n≤100000000000) (hA:0 < n→∃ g,A=some ⟨g,0,none⟩) (hF:Fil x V N L wr0)
  (hQ:∀ T' x',T'.size=196→(∀ j,j < 23→j≠10→T'[j]?=some (f j))→Fil x V N (upd L 1 (repV (mkV mB) n)) x'→Q (.exit 2) ⟨T',[]⟩ x'):gqL5.wp Try.prog Q ⟨(List.map f (List.range 196)).toArray,[]⟩ wr0:=by
 replace hQ:=Lib.hid hQ
 replace hv:=Lib.hid hv
 replace hN:=Lib.hid hN
 have hlen:(L 1).length=n * 4:=by have:=(hF.row 1 (by decide)).1; rw [hN.out] at this; exact this
 replace hlen:=Lib.hid hlen
 replace hF:=Lib.hid hF
 simp only [List.range,List.range.loop,List.map_cons,List.map_nil,h1,h2]
 simp only [gqL5,gqT5,gqT1,gqB,Try.f48,Option.getD_some]
 go_loopw [10] (fun v wr=>∃ i:Nat,v=.int .i64 (i:Int)∧i≤n∧Hid (Fil x V N (upd L 1 (fillV (mkV mB) (L 1) i)) wr)) (fun v _=>n+1 - natOfV v)
 case atStart =>
  refine ⟨0,rfl,Nat.zero_le _,Lib.hid ?_⟩
  have e:upd L 1 (fillV (mkV mB) (L 1) 0)=L:=by
   rw [fillV_0]
   funext z
   by_cases e:z=1
   ·rw [e,upd_same]
   ·rw [upd_ne _ _ e]
  rw [e]
  exact hF.out
 case round =>
  clear hF
  obtain ⟨i,rfl,hi,hr⟩:=hrel
  by_cases hlt:i < n
  ·obtain ⟨g,rfl⟩:=hA (by omega)
   have g1:(i:Int) < (n:Int):=by omega
   have g2:(0:Int)≤(i:Int):=by omega
   have hrow:wr.ownsRow 0 37 4 (.slice (some ⟨g,0,none⟩) n cap) n (fillV (mkV mB) (L 1) i):=by
    have h:=hr.out.row 1 (by decide)
    rw [upd_same,hN.out,hv.out] at h
    exact h
   obtain ⟨cur,hg0,hfit0,hnew⟩:=own_store (o:=i * 4) (mkV mB) hrow (by show i * 4+4≤n * 4; omega)
   have hks:(mkV mB).length=4:=rfl
   rw [hks] at hfit0 hnew
   have hks2:=hks
   have hfn:=fillV_next (mkV mB) (L 1) i
   rw [hks] at hfn
   rw [hfn] at hnew
   obtain ⟨i0,hi0,_,hs0,_⟩:=info37
   have hst:=store_run4 (P:=Try.prog) (o:=i * 4) (.int .i64 mB.1) (.int .i64 mB.2.1) (.int .i64 mB.2.2.1) (.int .i64 mB.2.2.2) hi0 hs0 hg0 hfit0 rfl rfl rfl rfl
   obtain ⟨w2,hw2⟩:∃ w,w=wr.setRow g (cur.take (i * 4) ++ (mkV mB) ++ cur.drop (i * 4+4)).toArray:=⟨_,rfl⟩
   have hst':(Instr.storeAt 37 (.pointer (some ⟨g,i * 4,none⟩)) (.agg #[.int .i64 mB.1,.int .i64 mB.2.1,.int .i64 mB.2.2.1,.int .i64 mB.2.2.2])).run Try.prog wr=.ok () w2:=by rw [hw2]; exact hst
   have hF3:Fil x V N (upd L 1 (fillV (mkV mB) (L 1) (i+1))) w2:=by
    have hp:=hr.out.put (r:=1) (g:=g) (w':=w2) (l:=fillV (mkV mB) (L 1) (i+1)) (by decide) (by rw [hv.out]; rfl) (fun b hb=>by rw [hw2]; exact setRow_other _ _ _ _ hb) (by rw [hw2]; simp [World.setRow]) (by rw [hN.out,hv.out,hw2]; exact hnew)
    have e:∀ l,upd (upd L 1 (fillV (mkV mB) (L 1) i)) 1 l=upd L 1 l:=fun l=>by
     funext z
     by_cases e:z=1
     ·rw [e,upd_same,upd_same]
     ·rw [upd_ne _ _ e,upd_ne _ _ e,upd_ne _ _ e]
    rw [e] at hp
    exact hp
   have e9:natOfV (.int .i64 ((i:Int)+1))=i+1:=by simp [natOfV]
   have hiw:IntKind.i64.wrap ((i:Int)+1)=((i+1:Nat):Int):=by rw [IntKind.wrap_i64]; omega
   replace hF3:=Lib.hid hF3
   clear hst hnew hfit0 hg0 hrow hr
   replace hw2:=Lib.hid hw2
   go_wp2_with (refine wpList_store rfl rfl (.tmp 42) (.tmp 41) 37 rfl rfl rfl hst' ?_)
   exact ⟨⟨i+1,by rw [Int.natCast_add]; rfl,by omega,hF3⟩,by rw [e9]; simp [natOfV]; omega⟩
  ·obtain rfl:n=i:=by omega
   have g1:¬ (n:Int) < (n:Int):=by omega
   have hfin:Fil x V N (upd L 1 (repV (mkV mB) n)) wr:=by
    have h:=hr.out
    rw [fillV_all (by rw [hlen.out]; rfl)] at h
    exact h
   replace hfin:=Lib.hid hfin
   clear hr
   go_wp2
   refine hQ.out _ _ (by simp) (fun j hj hne=>?_) hfin.out
   match j,hj,hne with
   | 10,_,h=>exact absurd rfl h
   | 0,_,_ | 1,_,_ | 2,_,_ | 3,_,_ | 4,_,_ | 5,_,_ | 6,_,_ | 7,_,_ | 8,_,_ | 9,_,_ | 11,_,_ | 12,_,_ | 13,_,_ | 14,_,_ | 15,_,_ | 16,_,_ | 17,_,_ | 18,_,_ | 19,_,_ | 20,_,_ | 21,_,_ | 22,_,_=>simp [h1]
   | q+23,hq,_=>exact absurd hq (by omega)
theorem gq5_T {c:Code} (hcode:c=gqL5) {T:Array Value} {x wr0:World} {V:Nat→Value} {N:Nat→Nat} {L:Nat→List Value} {A:Option Addr} {n cap:Nat} {Q:Exit→Act→World→Prop} (hs:T.size=196) (h1:T[1]?=some (.slice A n cap)) (h2:T[10]?=some (.int .i64 0)) (hv:V 1=.slice A n cap) (hN:N 1=n) (hn:n≤100000000000) (hA:0 < n→∃ g,A=some ⟨g,0,none⟩) (hF:Fil x V N L wr0)
  (hQ:∀ T' x',T'.size=196→(∀ j,j < 23→j≠10→T'[j]?=T[j]?)→Fil x V N (upd L 1 (repV (mkV mB) n)) x'→Q (.exit 2) ⟨T',[]⟩ x'):c.wp Try.prog Q ⟨T,[]⟩ wr0:=by
 subst hcode
 obtain ⟨f,hf,fz⟩:=arrfv T hs
 have e1:=fz 1 _ h1
 have e2:=fz 10 _ h2
 subst hf
 exact gq5_wp e1 e2 hv hN hn hA hF (fun T' x' a1 a2 a3=>hQ T' x' a1 (fun q h1 h2=>by rw [a2 q h1 h2,arrf_get f (by omega)]) a3)
theorem gq9_wp {f:Nat→Value} {x wr0:World} {V:Nat→Value} {N:Nat→Nat} {L:Nat→List Value} {A:Option Addr} {n cap:Nat} {Q:Exit→Act→World→Prop} (h1:f 2=.slice A n cap) (h2:f 11=.int .i64 0) (hv:V 2=.slice A n cap) (hN:N 2=n) (hn:n≤100000000000) (hA:0 < n→∃ g,A=some ⟨g,0,none⟩) (hF:Fil x V N L wr0)
  (hQ:∀ T' x',T'.size=196→(∀ j,j < 23→j≠11→T'[j]?=some (f j))→Fil x V N (upd L 2 (repV [Value.int .i64 (-3)] n)) x'→Q (.exit 4) ⟨T',[]⟩ x'):gqL9.wp Try.prog Q ⟨(List.map f (List.range 196)).toArray,[]⟩ wr0:=by
 replace hQ:=Lib.hid hQ
 replace hv:=Lib.hid hv
 replace hN:=Lib.hid hN
 have hlen:(L 2).length=n * 1:=by have:=(hF.row 2 (by decide)).1; rw [hN.out] at this; exact this
 replace hlen:=Lib.hid hlen
 replace hF:=Lib.hid hF
 simp only [List.range,List.range.loop,List.map_cons,List.map_nil,h1,h2]
 simp only [gqL9,gqT9,gqT5,gqT1,gqB,Try.f48,Option.getD_some]
 go_loopw [11] (fun v wr=>∃ i:Nat,v=.int .i64 (i:Int)∧i≤n∧Hid (Fil x V N (upd L 2 (fillV [Value.int .i64 (-3)] (L 2) i)) wr)) (fun v _=>n+1 - natOfV v)
 case atStart =>
  refine ⟨0,rfl,Nat.zero_le _,Lib.hid ?_⟩
  have e:upd L 2 (fillV [Value.int .i64 (-3)] (L 2) 0)=L:=by
   rw [fillV_0]
   funext z
   by_cases e:z=2
   ·rw [e,upd_same]
   ·rw [upd_ne _ _ e]
  rw [e]
  exact hF.out
 case round =>
  clear hF
  obtain ⟨i,rfl,hi,hr⟩:=hrel
  by_cases hlt:i < n
  ·obtain ⟨g,rfl⟩:=hA (by omega)
   have g1:(i:Int) < (n:Int):=by omega
   have g2:(0:Int)≤(i:Int):=by omega
   have hrow:wr.ownsRow 0 2 1 (.slice (some ⟨g,0,none⟩) n cap) n (fillV [Value.int .i64 (-3)] (L 2) i):=by
    have h:=hr.out.row 2 (by decide)
    rw [upd_same,hN.out,hv.out] at h
    exact h
   obtain ⟨cur,hg0,hfit0,hnew⟩:=own_store (o:=i * 1) [Value.int .i64 (-3)] hrow (by show i * 1+1≤n * 1; omega)
   rw [Nat.mul_one] at hfit0 hnew
   have hks:([.int .i64 (-3)]:List Value).length=1:=rfl
   rw [hks] at hfit0 hnew
   have hks2:=hks
   have hfn:=fillV_next [Value.int .i64 (-3)] (L 2) i
   rw [hks,Nat.mul_one] at hfn
   rw [hfn] at hnew
   obtain ⟨i0,hi0,_,hs0,_⟩:=info2
   have hst:=store_run1 (P:=Try.prog) (o:=i) (.int .i64 (-3)) rfl hi0 hs0 hg0 hfit0 rfl
   obtain ⟨w2,hw2⟩:∃ w,w=wr.setRow g (cur.take (i) ++ [Value.int .i64 (-3)] ++ cur.drop (i+1)).toArray:=⟨_,rfl⟩
   have hst':(Instr.storeAt 2 (.pointer (some ⟨g,i,none⟩)) (.int .i64 (-3))).run Try.prog wr=.ok () w2:=by rw [hw2]; exact hst
   have hF3:Fil x V N (upd L 2 (fillV [Value.int .i64 (-3)] (L 2) (i+1))) w2:=by
    have hp:=hr.out.put (r:=2) (g:=g) (w':=w2) (l:=fillV [Value.int .i64 (-3)] (L 2) (i+1)) (by decide) (by rw [hv.out]; rfl) (fun b hb=>by rw [hw2]; exact setRow_other _ _ _ _ hb) (by rw [hw2]; simp [World.setRow]) (by rw [hN.out,hv.out,hw2]; exact hnew)
    have e:∀ l,upd (upd L 2 (fillV [Value.int .i64 (-3)] (L 2) i)) 2 l=upd L 2 l:=fun l=>by
     funext z
     by_cases e:z=2
     ·rw [e,upd_same,upd_same]
     ·rw [upd_ne _ _ e,upd_ne _ _ e,upd_ne _ _ e]
    rw [e] at hp
    exact hp
   have e9:natOfV (.int .i64 ((i:Int)+1))=i+1:=by simp [natOfV]
   have hiw:IntKind.i64.wrap ((i:Int)+1)=((i+1:Nat):Int):=by rw [IntKind.wrap_i64]; omega
   replace hF3:=Lib.hid hF3
   clear hst hnew hfit0 hg0 hrow hr
   replace hw2:=Lib.hid hw2
   go_wp2_with (refine wpList_store rfl rfl (.tmp 51) (.const (.int .i64 (-3))) 2 rfl rfl rfl hst' ?_)
   exact ⟨⟨i+1,by rw [Int.natCast_add]; rfl,by omega,hF3⟩,by rw [e9]; simp [natOfV]; omega⟩
  ·obtain rfl:n=i:=by omega
   have g1:¬ (n:Int) < (n:Int):=by omega
   have hfin:Fil x V N (upd L 2 (repV [Value.int .i64 (-3)] n)) wr:=by
    have h:=hr.out
    rw [fillV_all (by rw [hlen.out]; rfl)] at h
    exact h
   replace hfin:=Lib.hid hfin
   clear hr
   go_wp2
   refine hQ.out _ _ (by simp) (fun j hj hne=>?_) hfin.out
   match j,hj,hne with
   | 11,_,h=>exact absurd rfl h
   | 0,_,_ | 1,_,_ | 2,_,_ | 3,_,_ | 4,_,_ | 5,_,_ | 6,_,_ | 7,_,_ | 8,_,_ | 9,_,_ | 10,_,_ | 12,_,_ | 13,_,_ | 14,_,_ | 15,_,_ | 16,_,_ | 17,_,_ | 18,_,_ | 19,_,_ | 20,_,_ | 21,_,_ | 22,_,_=>simp [h1]
   | q+23,hq,_=>exact absurd hq (by omega)
theorem gq9_T {c:Code} (hcode:c=gqL9) {T:Array Value} {x wr0:World} {V:Nat→Value} {N:Nat→Nat} {L:Nat→List Value} {A:Option Addr} {n cap:Nat} {Q:Exit→Act→World→Prop} (hs:T.size=196) (h1:T[2]?=some (.slice A n cap)) (h2:T[11]?=some (.int .i64 0)) (hv:V 2=.slice A n cap) (hN:N 2=n) (hn:n≤100000000000) (hA:0 < n→∃ g,A=some ⟨g,0,none⟩) (hF:Fil x V N L wr0)
  (hQ:∀ T' x',T'.size=196→(∀ j,j < 23→j≠11→T'[j]?=T[j]?)→Fil x V N (upd L 2 (repV [Value.int .i64 (-3)] n)) x'→Q (.exit 4) ⟨T',[]⟩ x'):c.wp Try.prog Q ⟨T,[]⟩ wr0:=by
 subst hcode
 obtain ⟨f,hf,fz⟩:=arrfv T hs
 have e1:=fz 2 _ h1
 have e2:=fz 11 _ h2
 subst hf
 exact gq9_wp e1 e2 hv hN hn hA hF (fun T' x' a1 a2 a3=>hQ T' x' a1 (fun q h1 h2=>by rw [a2 q h1 h2,arrf_get f (by omega)]) a3)
theorem gq13_wp {f:Nat→Value} {x wr0:World} {V:Nat→Value} {N:Nat→Nat} {L:Nat→List Value} {A:Option Addr} {n cap:Nat} {Q:Exit→Act→World→Prop} (h1:f 3=.slice A n cap) (h2:f 12=.int .i64 0) (hv:V 3=.slice A n cap) (hN:N 3=n) (hn:n≤100000000000) (hA:0 < n→∃ g,A=some ⟨g,0,none⟩) (hF:Fil x V N L wr0)
  (hQ:∀ T' x',T'.size=196→(∀ j,j < 23→j≠12→T'[j]?=some (f j))→Fil x V N (upd L 3 (repV [Value.int .i64 (-4)] n)) x'→Q (.exit 6) ⟨T',[]⟩ x'):gqL13.wp Try.prog Q ⟨(List.map f (List.range 196)).toArray,[]⟩ wr0:=by
 replace hQ:=Lib.hid hQ
 replace hv:=Lib.hid hv
 replace hN:=Lib.hid hN
 have hlen:(L 3).length=n * 1:=by have:=(hF.row 3 (by decide)).1; rw [hN.out] at this; exact this
 replace hlen:=Lib.hid hlen
 replace hF:=Lib.hid hF
 simp only [List.range,List.range.loop,List.map_cons,List.map_nil,h1,h2]
 simp only [gqL13,gqT13,gqT9,gqT5,gqT1,gqB,Try.f48,Option.getD_some]
 go_loopw [12] (fun v wr=>∃ i:Nat,v=.int .i64 (i:Int)∧i≤n∧Hid (Fil x V N (upd L 3 (fillV [Value.int .i64 (-4)] (L 3) i)) wr)) (fun v _=>n+1 - natOfV v)
 case atStart =>
  refine ⟨0,rfl,Nat.zero_le _,Lib.hid ?_⟩
  have e:upd L 3 (fillV [Value.int .i64 (-4)] (L 3) 0)=L:=by
   rw [fillV_0]
   funext z
   by_cases e:z=3
   ·rw [e,upd_same]
   ·rw [upd_ne _ _ e]
  rw [e]
  exact hF.out
 case round =>
  clear hF
  obtain ⟨i,rfl,hi,hr⟩:=hrel
  by_cases hlt:i < n
  ·obtain ⟨g,rfl⟩:=hA (by omega)
   have g1:(i:Int) < (n:Int):=by omega
   have g2:(0:Int)≤(i:Int):=by omega
   have hrow:wr.ownsRow 0 2 1 (.slice (some ⟨g,0,none⟩) n cap) n (fillV [Value.int .i64 (-4)] (L 3) i):=by
    have h:=hr.out.row 3 (by decide)
    rw [upd_same,hN.out,hv.out] at h
    exact h
   obtain ⟨cur,hg0,hfit0,hnew⟩:=own_store (o:=i * 1) [Value.int .i64 (-4)] hrow (by show i * 1+1≤n * 1; omega)
   rw [Nat.mul_one] at hfit0 hnew
   have hks:([.int .i64 (-4)]:List Value).length=1:=rfl
   rw [hks] at hfit0 hnew
   have hks2:=hks
   have hfn:=fillV_next [Value.int .i64 (-4)] (L 3) i
   rw [hks,Nat.mul_one] at hfn
   rw [hfn] at hnew
   obtain ⟨i0,hi0,_,hs0,_⟩:=info2
   have hst:=store_run1 (P:=Try.prog) (o:=i) (.int .i64 (-4)) rfl hi0 hs0 hg0 hfit0 rfl
   obtain ⟨w2,hw2⟩:∃ w,w=wr.setRow g (cur.take (i) ++ [Value.int .i64 (-4)] ++ cur.drop (i+1)).toArray:=⟨_,rfl⟩
   have hst':(Instr.storeAt 2 (.pointer (some ⟨g,i,none⟩)) (.int .i64 (-4))).run Try.prog wr=.ok () w2:=by rw [hw2]; exact hst
   have hF3:Fil x V N (upd L 3 (fillV [Value.int .i64 (-4)] (L 3) (i+1))) w2:=by
    have hp:=hr.out.put (r:=3) (g:=g) (w':=w2) (l:=fillV [Value.int .i64 (-4)] (L 3) (i+1)) (by decide) (by rw [hv.out]; rfl) (fun b hb=>by rw [hw2]; exact setRow_other _ _ _ _ hb) (by rw [hw2]; simp [World.setRow]) (by rw [hN.out,hv.out,hw2]; exact hnew)
    have e:∀ l,upd (upd L 3 (fillV [Value.int .i64 (-4)] (L 3) i)) 3 l=upd L 3 l:=fun l=>by
     funext z
     by_cases e:z=3
     ·rw [e,upd_same,upd_same]
     ·rw [upd_ne _ _ e,upd_ne _ _ e,upd_ne _ _ e]
    rw [e] at hp
    exact hp
   have e9:natOfV (.int .i64 ((i:Int)+1))=i+1:=by simp [natOfV]
   have hiw:IntKind.i64.wrap ((i:Int)+1)=((i+1:Nat):Int):=by rw [IntKind.wrap_i64]; omega
   replace hF3:=Lib.hid hF3
   clear hst hnew hfit0 hg0 hrow hr
   replace hw2:=Lib.hid hw2
   go_wp2_with (refine wpList_store rfl rfl (.tmp 60) (.const (.int .i64 (-4))) 2 rfl rfl rfl hst' ?_)
   exact ⟨⟨i+1,by rw [Int.natCast_add]; rfl,by omega,hF3⟩,by rw [e9]; simp [natOfV]; omega⟩
  ·obtain rfl:n=i:=by omega
   have g1:¬ (n:Int) < (n:Int):=by omega
   have hfin:Fil x V N (upd L 3 (repV [Value.int .i64 (-4)] n)) wr:=by
    have h:=hr.out
    rw [fillV_all (by rw [hlen.out]; rfl)] at h
    exact h
   replace hfin:=Lib.hid hfin
   clear hr
   go_wp2
   refine hQ.out _ _ (by simp) (fun j hj hne=>?_) hfin.out
   match j,hj,hne with
   | 12,_,h=>exact absurd rfl h
   | 0,_,_ | 1,_,_ | 2,_,_ | 3,_,_ | 4,_,_ | 5,_,_ | 6,_,_ | 7,_,_ | 8,_,_ | 9,_,_ | 10,_,_ | 11,_,_ | 13,_,_ | 14,_,_ | 15,_,_ | 16,_,_ | 17,_,_ | 18,_,_ | 19,_,_ | 20,_,_ | 21,_,_ | 22,_,_=>simp [h1]
   | q+23,hq,_=>exact absurd hq (by omega)
theorem gq13_T {c:Code} (hcode:c=gqL13) {T:Array Value} {x wr0:World} {V:Nat→Value} {N:Nat→Nat} {L:Nat→List Value} {A:Option Addr} {n cap:Nat} {Q:Exit→Act→World→Prop} (hs:T.size=196) (h1:T[3]?=some (.slice A n cap)) (h2:T[12]?=some (.int .i64 0)) (hv:V 3=.slice A n cap) (hN:N 3=n) (hn:n≤100000000000) (hA:0 < n→∃ g,A=some ⟨g,0,none⟩) (hF:Fil x V N L wr0)
  (hQ:∀ T' x',T'.size=196→(∀ j,j < 23→j≠12→T'[j]?=T[j]?)→Fil x V N (upd L 3 (repV [Value.int .i64 (-4)] n)) x'→Q (.exit 6) ⟨T',[]⟩ x'):c.wp Try.prog Q ⟨T,[]⟩ wr0:=by
 subst hcode
 obtain ⟨f,hf,fz⟩:=arrfv T hs
 have e1:=fz 3 _ h1
 have e2:=fz 12 _ h2
 subst hf
 exact gq13_wp e1 e2 hv hN hn hA hF (fun T' x' a1 a2 a3=>hQ T' x' a1 (fun q h1 h2=>by rw [a2 q h1 h2,arrf_get f (by omega)]) a3)
theorem inBlock_out {id:Nat} {Q:Exit→Act→World→Prop} {a:Act} {w:World} (h:Q .normal a w):Exit.inBlock id Q (.exit id) a w:=by
 unfold Exit.inBlock
 dsimp only
 rw [if_pos rfl]
 exact h
def c4 (a b c d:Value):Nat→Value
 | 0=>a
 | 1=>b
 | 2=>c
 | _=>d
def i4 (a b c d:Nat):Nat→Nat
 | 0=>a
 | 1=>b
 | 2=>c
 | _=>d
section
variable {x w w':World} {V C C':Nat→Value} {N I I':Nat→Nat} {a b c d v':Value} {i j k l:Nat}
theorem Gr4.congr (h:Gr4 x V N w C I) (h1:∀ r,r < 4→C' r=C r) (h2:∀ r,r < 4→I' r=I r):Gr4 x V N w C' I' :=
 ⟨h.size,h.old,fun r hr=>by rw [h1 r hr,h2 r hr]; exact h.row r hr,h.ca,fun r s hr hs hn g=>by rw [h1 r hr,h1 s hs]; exact h.cc r s hr hs hn g,fun r s hr hs hn g=>by rw [h1 r hr]; exact h.cv r s hr hs hn g,fun r hr g=>by rw [h1 r hr]; exact h.fx r hr g⟩
theorem Gr4.row0 (h:Gr4 x V N w (c4 a b c d) (i4 i j k l)):w.ownsRow 0 37 4 a (N 0+i) (repV (mkV mA) (N 0+i)):=h.row 0 (by decide)
theorem Gr4.app0 (h:Gr4 x V N w (c4 a b c d) (i4 i j k l)) (hw:w'.ownsRow 0 37 4 v' (N 0+i+1) (repV (mkV mA) (N 0+i) ++ (mkV mA))) (hc:(v'.ownBlock=a.ownBlock∧w.grownBy w' a.ownBlock)∨((∀ g,v'.ownBlock=some g→w.heap.size≤g)∧w.grownBy w' none)):Gr4 x V N w' (c4 v' b c d) (i4 (i+1) j k l):=by
 refine (h.app (r:=0) (by decide) hw hc).congr (fun r hr=>?_) (fun r hr=>?_) <;> match r,hr with
 | 0,_ | 1,_ | 2,_ | 3,_=>rfl
theorem Gr4.row1 (h:Gr4 x V N w (c4 a b c d) (i4 i j k l)):w.ownsRow 0 37 4 b (N 1+j) (repV (mkV mB) (N 1+j)):=h.row 1 (by decide)
theorem Gr4.app1 (h:Gr4 x V N w (c4 a b c d) (i4 i j k l)) (hw:w'.ownsRow 0 37 4 v' (N 1+j+1) (repV (mkV mB) (N 1+j) ++ (mkV mB))) (hc:(v'.ownBlock=b.ownBlock∧w.grownBy w' b.ownBlock)∨((∀ g,v'.ownBlock=some g→w.heap.size≤g)∧w.grownBy w' none)):Gr4 x V N w' (c4 a v' c d) (i4 i (j+1) k l):=by
 refine (h.app (r:=1) (by decide) hw hc).congr (fun r hr=>?_) (fun r hr=>?_) <;> match r,hr with
 | 0,_ | 1,_ | 2,_ | 3,_=>rfl
theorem Gr4.row2 (h:Gr4 x V N w (c4 a b c d) (i4 i j k l)):w.ownsRow 0 2 1 c (N 2+k) (repV [Value.int .i64 (-3)] (N 2+k)):=h.row 2 (by decide)
theorem Gr4.app2 (h:Gr4 x V N w (c4 a b c d) (i4 i j k l)) (hw:w'.ownsRow 0 2 1 v' (N 2+k+1) (repV [Value.int .i64 (-3)] (N 2+k) ++ [Value.int .i64 (-3)])) (hc:(v'.ownBlock=c.ownBlock∧w.grownBy w' c.ownBlock)∨((∀ g,v'.ownBlock=some g→w.heap.size≤g)∧w.grownBy w' none)):Gr4 x V N w' (c4 a b v' d) (i4 i j (k+1) l):=by
 refine (h.app (r:=2) (by decide) hw hc).congr (fun r hr=>?_) (fun r hr=>?_) <;> match r,hr with
 | 0,_ | 1,_ | 2,_ | 3,_=>rfl
theorem Gr4.row3 (h:Gr4 x V N w (c4 a b c d) (i4 i j k l)):w.ownsRow 0 2 1 d (N 3+l) (repV [Value.int .i64 (-4)] (N 3+l)):=h.row 3 (by decide)
theorem Gr4.app3 (h:Gr4 x V N w (c4 a b c d) (i4 i j k l)) (hw:w'.ownsRow 0 2 1 v' (N 3+l+1) (repV [Value.int .i64 (-4)] (N 3+l) ++ [Value.int .i64 (-4)])) (hc:(v'.ownBlock=d.ownBlock∧w.grownBy w' d.ownBlock)∨((∀ g,v'.ownBlock=some g→w.heap.size≤g)∧w.grownBy w' none)):Gr4 x V N w' (c4 a b c v') (i4 i j k (l+1)):=by
 refine (h.app (r:=3) (by decide) hw hc).congr (fun r hr=>?_) (fun r hr=>?_) <;> match r,hr with
 | 0,_ | 1,_ | 2,_ | 3,_=>rfl
end
theorem gq21_wp {f:Nat→Value} {x wr0:World} {V:Nat→Value} {N:Nat→Nat} {Q:Exit→Act→World→Prop} (h1:f 13=V 0) (h2:f 14=V 1) (h3:f 15=V 2) (h4:f 16=V 3) (h5:f 17=.int .i64 0) (n0:N 0≤100000000000) (n1:N 1≤100000000000) (n2:N 2≤100000000000) (n3:N 3≤100000000000) (hG:Gr4 x V N wr0 V (fun _=>0))
  (hQ:∀ T' x' a b c d,T'.size=196→(∀ j,j < 13→T'[j]?=some (f j))→T'[13]?=some a→T'[14]?=some b→T'[15]?=some c→T'[16]?=some d→Gr4 x V N x' (c4 a b c d) (i4 20 20 20 20)→Q (.exit 8) ⟨T',[]⟩ x'):gqL21.wp Try.prog Q ⟨(List.map f (List.range 196)).toArray,[]⟩ wr0:=by
 replace hQ:=Lib.hid hQ
 have hG0:Gr4 x V N wr0 (c4 (V 0) (V 1) (V 2) (V 3)) (i4 0 0 0 0):=by
  refine hG.congr (fun r hr=>?_) (fun r hr=>?_) <;> match r,hr with
  | 0,_ | 1,_ | 2,_ | 3,_=>rfl
 replace hG0:=Lib.hid hG0
 clear hG
 obtain ⟨V0,hV0⟩:∃ v,v=V 0:=⟨_,rfl⟩
 obtain ⟨V1,hV1⟩:∃ v,v=V 1:=⟨_,rfl⟩
 obtain ⟨V2,hV2⟩:∃ v,v=V 2:=⟨_,rfl⟩
 obtain ⟨V3,hV3⟩:∃ v,v=V 3:=⟨_,rfl⟩
 rw [← hV0,← hV1,← hV2,← hV3] at hG0
 rw [← hV0] at h1
 rw [← hV1] at h2
 rw [← hV2] at h3
 rw [← hV3] at h4
 replace hV0:=Lib.hid hV0
 replace hV1:=Lib.hid hV1
 replace hV2:=Lib.hid hV2
 replace hV3:=Lib.hid hV3
 simp only [List.range,List.range.loop,List.map_cons,List.map_nil,h1,h2,h3,h4,h5]
 simp only [gqL21,gqT21,gqT20,gqT19,gqT18,gqT17,gqT13,gqT9,gqT5,gqT1,gqB,Try.f48,Option.getD_some]
 go_loopw [13,14,15,16,17] (fun a b c d v wr=>∃ i:Nat,v=.int .i64 (i:Int)∧i≤20∧Hid (Gr4 x V N wr (c4 a b c d) (i4 i i i i))) (fun _ _ _ _ v _=>20+1 - natOfV v)
 case atStart=>exact ⟨0,rfl,Nat.zero_le _,hG0⟩
 case round =>
  clear hG0
  obtain ⟨i,rfl,hi,hG⟩:=hrel
  by_cases hlt:i < 20
  ·have g1:(i:Int) < 20:=by omega
   have hiw:IntKind.i64.wrap ((i:Int)+1)=((i+1:Nat):Int):=by rw [IntKind.wrap_i64]; omega
   have e9:natOfV (.int .i64 ((i:Int)+1))=i+1:=by simp [natOfV]
   obtain ⟨j0,hj0,hz0,hs0,hb0⟩:=info37
   obtain ⟨k0,hk0,kz0,ks0,kb0⟩:=info2
   have oA:∀ u ∈ mkV mA,u.oneCell'=true:=by intro u hu; simp [mkV] at hu; rcases hu with rfl | rfl | rfl | rfl <;> rfl
   have oB:∀ u ∈ mkV mB,u.oneCell'=true:=by intro u hu; simp [mkV] at hu; rcases hu with rfl | rfl | rfl | rfl <;> rfl
   have oC:∀ u ∈ [Value.int .i64 (-3)],u.oneCell'=true:=by intro u hu; simp at hu; subst hu; rfl
   have oD:∀ u ∈ [Value.int .i64 (-4)],u.oneCell'=true:=by intro u hu; simp at hu; subst hu; rfl
   have hnA:∀ W:World,∀ j u,(mkV mA)[j]?=some u→(W.alloc (.cells #[.int .i64 (-1),.int .i64 0,.int .i64 0,.int .i64 0] 37)).cell? ((⟨W.heap.size,0,none⟩:Addr).add j)=some u:=fun W=>World.news_of_block (cs:=#[.int .i64 (-1),.int .i64 0,.int .i64 0,.int .i64 0]) (t:=37) (fr:=(0,0)) (heap_alloc_new _ _)
   have hnB:∀ W:World,∀ j u,(mkV mB)[j]?=some u→(W.alloc (.cells #[.int .i64 (-2),.int .i64 0,.int .i64 0,.int .i64 0] 37)).cell? ((⟨W.heap.size,0,none⟩:Addr).add j)=some u:=fun W=>World.news_of_block (cs:=#[.int .i64 (-2),.int .i64 0,.int .i64 0,.int .i64 0]) (t:=37) (fr:=(0,0)) (heap_alloc_new _ _)
   have hnC:∀ W:World,∀ j u,[Value.int .i64 (-3)][j]?=some u→(W.alloc (.cells #[.int .i64 (-3)] 2)).cell? ((⟨W.heap.size,0,none⟩:Addr).add j)=some u:=fun W=>World.news_of_block (cs:=#[.int .i64 (-3)]) (t:=2) (fr:=(0,0)) (heap_alloc_new _ _)
   have hnD:∀ W:World,∀ j u,[Value.int .i64 (-4)][j]?=some u→(W.alloc (.cells #[.int .i64 (-4)] 2)).cell? ((⟨W.heap.size,0,none⟩:Addr).add j)=some u:=fun W=>World.news_of_block (cs:=#[.int .i64 (-4)]) (t:=2) (fr:=(0,0)) (heap_alloc_new _ _)
   replace hnA:=Lib.hid hnA
   replace hnB:=Lib.hid hnB
   replace hnC:=Lib.hid hnC
   replace hnD:=Lib.hid hnD
   replace oA:=Lib.hid oA
   replace oB:=Lib.hid oB
   replace oC:=Lib.hid oC
   replace oD:=Lib.hid oD
   go_wp2_with (first
    | (at_builtin; refine wpList_append_any rfl (.tmp 69) (.tmp 71) rfl Try.underlying27 hj0 hz0 hs0 hb0 rfl (by decide) (by decide) u13 (N 0+i) (repV (mkV mA) (N 0+i)) (mkV mA) rfl oA.out (by rfl) (hG.out.alloc _).row0 ⟨wr.heap.size,0,none⟩ (by rfl) (hnA.out wr) (by omega) ?_; intro v1 w1 hr1 hc1; have hA3:=Lib.hid ((hG.out.alloc _).app0 hr1 hc1); clear hr1 hc1)
    | (at_builtin; refine wpList_append_any rfl (.tmp 73) (.tmp 75) rfl Try.underlying27 hj0 hz0 hs0 hb0 rfl (by decide) (by decide) u14 (N 1+i) (repV (mkV mB) (N 1+i)) (mkV mB) rfl oB.out (by rfl) (hA3.out.alloc _).row1 ⟨w1.heap.size,0,none⟩ (by rfl) (hnB.out w1) (by omega) ?_; intro v2 w2 hr2 hc2; have hB3:=Lib.hid ((hA3.out.alloc _).app1 hr2 hc2); clear hr2 hc2)
    | (at_builtin; refine wpList_append_any rfl (.tmp 77) (.tmp 78) rfl Try.underlying69 hk0 kz0 ks0 kb0 rfl (by decide) (by decide) u15 (N 2+i) (repV [Value.int .i64 (-3)] (N 2+i)) [Value.int .i64 (-3)] rfl oC.out (by rfl) (hB3.out.alloc _).row2 ⟨w2.heap.size,0,none⟩ (by rfl) (hnC.out w2) (by omega) ?_; intro v3 w3 hr3 hc3; have hC3:=Lib.hid ((hB3.out.alloc _).app2 hr3 hc3); clear hr3 hc3)
    | (at_builtin; refine wpList_append_any rfl (.tmp 80) (.tmp 81) rfl Try.underlying69 hk0 kz0 ks0 kb0 rfl (by decide) (by decide) u16 (N 3+i) (repV [Value.int .i64 (-4)] (N 3+i)) [Value.int .i64 (-4)] rfl oD.out (by rfl) (hC3.out.alloc _).row3 ⟨w3.heap.size,0,none⟩ (by rfl) (hnD.out w3) (by omega) ?_; intro v4 w4 hr4 hc4; have hD3:=Lib.hid ((hC3.out.alloc _).app3 hr4 hc4); clear hr4 hc4))
   exact ⟨⟨i+1,by rw [Int.natCast_add]; rfl,by omega,hD3⟩,by rw [e9]; simp [natOfV]; omega⟩
  ·obtain rfl:i=20:=by omega
   have g1:¬ ((20:Nat):Int) < 20:=by omega
   go_wp2
   refine hQ.out _ _ u13 u14 u15 u16 (by simp) (fun j hj=>?_) (by simp) (by simp) (by simp) (by simp) hG.out
   match j,hj with
   | 0,_ | 1,_ | 2,_ | 3,_ | 4,_ | 5,_ | 6,_ | 7,_ | 8,_ | 9,_ | 10,_ | 11,_ | 12,_=>simp
   | q+13,hq=>exact absurd hq (by omega)
theorem gq21_T {c:Code} (hcode:c=gqL21) {T:Array Value} {x wr0:World} {V:Nat→Value} {N:Nat→Nat} {Q:Exit→Act→World→Prop} (hs:T.size=196) (h1:T[13]?=some (V 0)) (h2:T[14]?=some (V 1)) (h3:T[15]?=some (V 2)) (h4:T[16]?=some (V 3)) (h5:T[17]?=some (.int .i64 0)) (n0:N 0≤100000000000) (n1:N 1≤100000000000) (n2:N 2≤100000000000) (n3:N 3≤100000000000) (hG:Gr4 x V N wr0 V (fun _=>0))
  (hQ:∀ T' x' a b c d,T'.size=196→(∀ j,j < 13→T'[j]?=T[j]?)→T'[13]?=some a→T'[14]?=some b→T'[15]?=some c→T'[16]?=some d→Gr4 x V N x' (c4 a b c d) (i4 20 20 20 20)→Q (.exit 8) ⟨T',[]⟩ x'):c.wp Try.prog Q ⟨T,[]⟩ wr0:=by
 subst hcode
 obtain ⟨f,hf,fz⟩:=arrfv T hs
 have e1:=fz 13 _ h1
 have e2:=fz 14 _ h2
 have e3:=fz 15 _ h3
 have e4:=fz 16 _ h4
 have e5:=fz 17 _ h5
 subst hf
 exact gq21_wp e1 e2 e3 e4 e5 n0 n1 n2 n3 hG (fun T' x' a b c d a1 a2=>hQ T' x' a b c d a1 (fun q h1=>by rw [a2 q h1,arrf_get f (by omega)]))
theorem gq29_wp {f:Nat→Value} {x:World} {A:Option Addr} {n cap gx cx:Nat} {Q:Exit→Act→World→Prop} (h1:f 0=.slice A n cap) (h2:f 19=.int .i64 0) (h3:f 13=.slice (some ⟨gx,0,none⟩) (n+20) cx) (h4:f 18=.bool true) (hn:n≤100000000000) (hA:0 < n→∃ g,A=some ⟨g,0,none⟩∧∀ j,j < n→x.cell? ⟨g,j * 4,none⟩=some (.int .i64 (-1))) (hx:∀ j,j < n+20→x.cell? ⟨gx,j * 4,none⟩=some (.int .i64 (-1)))
  (hQ:∀ T',T'.size=196→(∀ j,j < 23→j≠19→T'[j]?=some (f j))→Q (.exit 10) ⟨T',[]⟩ x):gqL29.wp Try.prog Q ⟨(List.map f (List.range 196)).toArray,[]⟩ x:=by
 replace hQ:=Lib.hid hQ
 replace hx:=Lib.hid hx
 simp only [List.range,List.range.loop,List.map_cons,List.map_nil,h1,h2,h3,h4]
 simp only [gqL29,gqT29,gqT28,gqT21,gqT20,gqT19,gqT18,gqT17,gqT13,gqT9,gqT5,gqT1,gqB,Try.f48,Option.getD_some]
 go_loopw [18,19] (fun ok v w2=>ok=.bool true∧∃ i:Nat,v=.int .i64 (i:Int)∧i≤n+20∧w2=x) (fun _ v _=>n+20+1 - natOfV v)
 case atStart=>exact ⟨rfl,0,rfl,Nat.zero_le _,rfl⟩
 case round =>
  obtain ⟨rfl,i,rfl,hi,rfl⟩:=hrel
  by_cases hlt:i < n+20
  ·have c1:=hx.out i hlt
   have g1:(i:Int) < (n:Int)+20:=by omega
   have g2:(0:Int)≤(i:Int):=by omega
   have e9:natOfV (.int .i64 ((i:Int)+1))=i+1:=by simp [natOfV]
   have hiw:IntKind.i64.wrap ((i:Int)+1)=((i+1:Nat):Int):=by rw [IntKind.wrap_i64]; omega
   by_cases hln:i < n
   ·obtain ⟨ga,rfl,hc⟩:=hA (by omega)
    have c2:=hc i hln
    have g3:(i:Int) < (n:Int):=by omega
    clear hc hA
    go_wp2
    exact ⟨⟨rfl,i+1,by rw [Int.natCast_add]; rfl,by omega,trivial⟩,by rw [e9]; simp [natOfV]; omega⟩
   ·have g3:¬ (i:Int) < (n:Int):=by omega
    clear hA
    go_wp2
    exact ⟨⟨rfl,i+1,by rw [Int.natCast_add]; rfl,by omega,trivial⟩,by rw [e9]; simp [natOfV]; omega⟩
  ·obtain rfl:i=n+20:=by omega
   have g1:¬ ((n+20:Nat):Int) < (n:Int)+20:=by omega
   have g1':¬ (n:Int)+20 < (n:Int)+20:=by omega
   clear hA
   go_wp2
   refine hQ.out _ (by simp) (fun j hj hne=>?_)
   match j,hj,hne with
   | 19,_,h=>exact absurd rfl h
   | 0,_,_ | 1,_,_ | 2,_,_ | 3,_,_ | 4,_,_ | 5,_,_ | 6,_,_ | 7,_,_ | 8,_,_ | 9,_,_ | 10,_,_ | 11,_,_ | 12,_,_ | 13,_,_ | 14,_,_ | 15,_,_ | 16,_,_ | 17,_,_ | 18,_,_ | 20,_,_ | 21,_,_ | 22,_,_=>simp [h1,h3,h4]
   | q+23,hq,_=>exact absurd hq (by omega)
theorem gq29_T {c:Code} (hcode:c=gqL29) {T:Array Value} {x:World} {A:Option Addr} {n cap gx cx:Nat} {Q:Exit→Act→World→Prop} (hs:T.size=196) (h1:T[0]?=some (.slice A n cap)) (h2:T[19]?=some (.int .i64 0)) (h3:T[13]?=some (.slice (some ⟨gx,0,none⟩) (n+20) cx)) (h4:T[18]?=some (.bool true)) (hn:n≤100000000000) (hA:0 < n→∃ g,A=some ⟨g,0,none⟩∧∀ j,j < n→x.cell? ⟨g,j * 4,none⟩=some (.int .i64 (-1))) (hx:∀ j,j < n+20→x.cell? ⟨gx,j * 4,none⟩=some (.int .i64 (-1)))
  (hQ:∀ T',T'.size=196→(∀ j,j < 23→j≠19→T'[j]?=T[j]?)→Q (.exit 10) ⟨T',[]⟩ x):c.wp Try.prog Q ⟨T,[]⟩ x:=by
 subst hcode
 obtain ⟨f,hf,fz⟩:=arrfv T hs
 have e1:=fz 0 _ h1
 have e2:=fz 19 _ h2
 have e3:=fz 13 _ h3
 have e4:=fz 18 _ h4
 subst hf
 exact gq29_wp e1 e2 e3 e4 hn hA hx (fun T' a1 a2=>hQ T' a1 (fun q h1 h2=>by rw [a2 q h1 h2,arrf_get f (by omega)]))
theorem gq33_wp {f:Nat→Value} {x:World} {A:Option Addr} {n cap gx cx:Nat} {Q:Exit→Act→World→Prop} (h1:f 1=.slice A n cap) (h2:f 20=.int .i64 0) (h3:f 14=.slice (some ⟨gx,0,none⟩) (n+20) cx) (h4:f 18=.bool true) (hn:n≤100000000000) (hA:0 < n→∃ g,A=some ⟨g,0,none⟩∧∀ j,j < n→x.cell? ⟨g,j * 4,none⟩=some (.int .i64 (-2))) (hx:∀ j,j < n+20→x.cell? ⟨gx,j * 4,none⟩=some (.int .i64 (-2)))
  (hQ:∀ T',T'.size=196→(∀ j,j < 23→j≠20→T'[j]?=some (f j))→Q (.exit 12) ⟨T',[]⟩ x):gqL33.wp Try.prog Q ⟨(List.map f (List.range 196)).toArray,[]⟩ x:=by
 replace hQ:=Lib.hid hQ
 replace hx:=Lib.hid hx
 simp only [List.range,List.range.loop,List.map_cons,List.map_nil,h1,h2,h3,h4]
 simp only [gqL33,gqT33,gqT29,gqT28,gqT21,gqT20,gqT19,gqT18,gqT17,gqT13,gqT9,gqT5,gqT1,gqB,Try.f48,Option.getD_some]
 go_loopw [18,20] (fun ok v w2=>ok=.bool true∧∃ i:Nat,v=.int .i64 (i:Int)∧i≤n+20∧w2=x) (fun _ v _=>n+20+1 - natOfV v)
 case atStart=>exact ⟨rfl,0,rfl,Nat.zero_le _,rfl⟩
 case round =>
  obtain ⟨rfl,i,rfl,hi,rfl⟩:=hrel
  by_cases hlt:i < n+20
  ·have c1:=hx.out i hlt
   have g1:(i:Int) < (n:Int)+20:=by omega
   have g2:(0:Int)≤(i:Int):=by omega
   have e9:natOfV (.int .i64 ((i:Int)+1))=i+1:=by simp [natOfV]
   have hiw:IntKind.i64.wrap ((i:Int)+1)=((i+1:Nat):Int):=by rw [IntKind.wrap_i64]; omega
   by_cases hln:i < n
   ·obtain ⟨ga,rfl,hc⟩:=hA (by omega)
    have c2:=hc i hln
    have g3:(i:Int) < (n:Int):=by omega
    clear hc hA
    go_wp2
    exact ⟨⟨rfl,i+1,by rw [Int.natCast_add]; rfl,by omega,trivial⟩,by rw [e9]; simp [natOfV]; omega⟩
   ·have g3:¬ (i:Int) < (n:Int):=by omega
    clear hA
    go_wp2
    exact ⟨⟨rfl,i+1,by rw [Int.natCast_add]; rfl,by omega,trivial⟩,by rw [e9]; simp [natOfV]; omega⟩
  ·obtain rfl:i=n+20:=by omega
   have g1:¬ ((n+20:Nat):Int) < (n:Int)+20:=by omega
   have g1':¬ (n:Int)+20 < (n:Int)+20:=by omega
   clear hA
   go_wp2
   refine hQ.out _ (by simp) (fun j hj hne=>?_)
   match j,hj,hne with
   | 20,_,h=>exact absurd rfl h
   | 0,_,_ | 1,_,_ | 2,_,_ | 3,_,_ | 4,_,_ | 5,_,_ | 6,_,_ | 7,_,_ | 8,_,_ | 9,_,_ | 10,_,_ | 11,_,_ | 12,_,_ | 13,_,_ | 14,_,_ | 15,_,_ | 16,_,_ | 17,_,_ | 18,_,_ | 19,_,_ | 21,_,_ | 22,_,_=>simp [h1,h3,h4]
   | q+23,hq,_=>exact absurd hq (by omega)
theorem gq33_T {c:Code} (hcode:c=gqL33) {T:Array Value} {x:World} {A:Option Addr} {n cap gx cx:Nat} {Q:Exit→Act→World→Prop} (hs:T.size=196) (h1:T[1]?=some (.slice A n cap)) (h2:T[20]?=some (.int .i64 0)) (h3:T[14]?=some (.slice (some ⟨gx,0,none⟩) (n+20) cx)) (h4:T[18]?=some (.bool true)) (hn:n≤100000000000) (hA:0 < n→∃ g,A=some ⟨g,0,none⟩∧∀ j,j < n→x.cell? ⟨g,j * 4,none⟩=some (.int .i64 (-2))) (hx:∀ j,j < n+20→x.cell? ⟨gx,j * 4,none⟩=some (.int .i64 (-2)))
  (hQ:∀ T',T'.size=196→(∀ j,j < 23→j≠20→T'[j]?=T[j]?)→Q (.exit 12) ⟨T',[]⟩ x):c.wp Try.prog Q ⟨T,[]⟩ x:=by
 subst hcode
 obtain ⟨f,hf,fz⟩:=arrfv T hs
 have e1:=fz 1 _ h1
 have e2:=fz 20 _ h2
 have e3:=fz 14 _ h3
 have e4:=fz 18 _ h4
 subst hf
 exact gq33_wp e1 e2 e3 e4 hn hA hx (fun T' a1 a2=>hQ T' a1 (fun q h1 h2=>by rw [a2 q h1 h2,arrf_get f (by omega)]))
theorem gq37_wp {f:Nat→Value} {x:World} {A:Option Addr} {n cap gx cx:Nat} {Q:Exit→Act→World→Prop} (h1:f 2=.slice A n cap) (h2:f 21=.int .i64 0) (h3:f 15=.slice (some ⟨gx,0,none⟩) (n+20) cx) (h4:f 18=.bool true) (hn:n≤100000000000) (hA:0 < n→∃ g,A=some ⟨g,0,none⟩∧∀ j,j < n→x.cell? ⟨g,j,none⟩=some (.int .i64 (-3))) (hx:∀ j,j < n+20→x.cell? ⟨gx,j,none⟩=some (.int .i64 (-3)))
  (hQ:∀ T',T'.size=196→(∀ j,j < 23→j≠21→T'[j]?=some (f j))→Q (.exit 14) ⟨T',[]⟩ x):gqL37.wp Try.prog Q ⟨(List.map f (List.range 196)).toArray,[]⟩ x:=by
 replace hQ:=Lib.hid hQ
 replace hx:=Lib.hid hx
 simp only [List.range,List.range.loop,List.map_cons,List.map_nil,h1,h2,h3,h4]
 simp only [gqL37,gqT37,gqT33,gqT29,gqT28,gqT21,gqT20,gqT19,gqT18,gqT17,gqT13,gqT9,gqT5,gqT1,gqB,Try.f48,Option.getD_some]
 go_loopw [18,21] (fun ok v w2=>ok=.bool true∧∃ i:Nat,v=.int .i64 (i:Int)∧i≤n+20∧w2=x) (fun _ v _=>n+20+1 - natOfV v)
 case atStart=>exact ⟨rfl,0,rfl,Nat.zero_le _,rfl⟩
 case round =>
  obtain ⟨rfl,i,rfl,hi,rfl⟩:=hrel
  by_cases hlt:i < n+20
  ·have c1:=hx.out i hlt
   have g1:(i:Int) < (n:Int)+20:=by omega
   have g2:(0:Int)≤(i:Int):=by omega
   have e9:natOfV (.int .i64 ((i:Int)+1))=i+1:=by simp [natOfV]
   have hiw:IntKind.i64.wrap ((i:Int)+1)=((i+1:Nat):Int):=by rw [IntKind.wrap_i64]; omega
   by_cases hln:i < n
   ·obtain ⟨ga,rfl,hc⟩:=hA (by omega)
    have c2:=hc i hln
    have g3:(i:Int) < (n:Int):=by omega
    clear hc hA
    go_wp2
    exact ⟨⟨rfl,i+1,by rw [Int.natCast_add]; rfl,by omega,trivial⟩,by rw [e9]; simp [natOfV]; omega⟩
   ·have g3:¬ (i:Int) < (n:Int):=by omega
    clear hA
    go_wp2
    exact ⟨⟨rfl,i+1,by rw [Int.natCast_add]; rfl,by omega,trivial⟩,by rw [e9]; simp [natOfV]; omega⟩
  ·obtain rfl:i=n+20:=by omega
   have g1:¬ ((n+20:Nat):Int) < (n:Int)+20:=by omega
   have g1':¬ (n:Int)+20 < (n:Int)+20:=by omega
   clear hA
   go_wp2
   refine hQ.out _ (by simp) (fun j hj hne=>?_)
   match j,hj,hne with
   | 21,_,h=>exact absurd rfl h
   | 0,_,_ | 1,_,_ | 2,_,_ | 3,_,_ | 4,_,_ | 5,_,_ | 6,_,_ | 7,_,_ | 8,_,_ | 9,_,_ | 10,_,_ | 11,_,_ | 12,_,_ | 13,_,_ | 14,_,_ | 15,_,_ | 16,_,_ | 17,_,_ | 18,_,_ | 19,_,_ | 20,_,_ | 22,_,_=>simp [h1,h3,h4]
   | q+23,hq,_=>exact absurd hq (by omega)
theorem gq37_T {c:Code} (hcode:c=gqL37) {T:Array Value} {x:World} {A:Option Addr} {n cap gx cx:Nat} {Q:Exit→Act→World→Prop} (hs:T.size=196) (h1:T[2]?=some (.slice A n cap)) (h2:T[21]?=some (.int .i64 0)) (h3:T[15]?=some (.slice (some ⟨gx,0,none⟩) (n+20) cx)) (h4:T[18]?=some (.bool true)) (hn:n≤100000000000) (hA:0 < n→∃ g,A=some ⟨g,0,none⟩∧∀ j,j < n→x.cell? ⟨g,j,none⟩=some (.int .i64 (-3))) (hx:∀ j,j < n+20→x.cell? ⟨gx,j,none⟩=some (.int .i64 (-3)))
  (hQ:∀ T',T'.size=196→(∀ j,j < 23→j≠21→T'[j]?=T[j]?)→Q (.exit 14) ⟨T',[]⟩ x):c.wp Try.prog Q ⟨T,[]⟩ x:=by
 subst hcode
 obtain ⟨f,hf,fz⟩:=arrfv T hs
 have e1:=fz 2 _ h1
 have e2:=fz 21 _ h2
 have e3:=fz 15 _ h3
 have e4:=fz 18 _ h4
 subst hf
 exact gq37_wp e1 e2 e3 e4 hn hA hx (fun T' a1 a2=>hQ T' a1 (fun q h1 h2=>by rw [a2 q h1 h2,arrf_get f (by omega)]))
theorem gq41_wp {f:Nat→Value} {x:World} {A:Option Addr} {n cap gx cx:Nat} {Q:Exit→Act→World→Prop} (h1:f 3=.slice A n cap) (h2:f 22=.int .i64 0) (h3:f 16=.slice (some ⟨gx,0,none⟩) (n+20) cx) (h4:f 18=.bool true) (hn:n≤100000000000) (hA:0 < n→∃ g,A=some ⟨g,0,none⟩∧∀ j,j < n→x.cell? ⟨g,j,none⟩=some (.int .i64 (-4))) (hx:∀ j,j < n+20→x.cell? ⟨gx,j,none⟩=some (.int .i64 (-4)))
  (hQ:∀ T',T'.size=196→(∀ j,j < 23→j≠22→T'[j]?=some (f j))→Q (.exit 16) ⟨T',[]⟩ x):gqL41.wp Try.prog Q ⟨(List.map f (List.range 196)).toArray,[]⟩ x:=by
 replace hQ:=Lib.hid hQ
 replace hx:=Lib.hid hx
 simp only [List.range,List.range.loop,List.map_cons,List.map_nil,h1,h2,h3,h4]
 simp only [gqL41,gqT41,gqT37,gqT33,gqT29,gqT28,gqT21,gqT20,gqT19,gqT18,gqT17,gqT13,gqT9,gqT5,gqT1,gqB,Try.f48,Option.getD_some]
 go_loopw [18,22] (fun ok v w2=>ok=.bool true∧∃ i:Nat,v=.int .i64 (i:Int)∧i≤n+20∧w2=x) (fun _ v _=>n+20+1 - natOfV v)
 case atStart=>exact ⟨rfl,0,rfl,Nat.zero_le _,rfl⟩
 case round =>
  obtain ⟨rfl,i,rfl,hi,rfl⟩:=hrel
  by_cases hlt:i < n+20
  ·have c1:=hx.out i hlt
   have g1:(i:Int) < (n:Int)+20:=by omega
   have g2:(0:Int)≤(i:Int):=by omega
   have e9:natOfV (.int .i64 ((i:Int)+1))=i+1:=by simp [natOfV]
   have hiw:IntKind.i64.wrap ((i:Int)+1)=((i+1:Nat):Int):=by rw [IntKind.wrap_i64]; omega
   by_cases hln:i < n
   ·obtain ⟨ga,rfl,hc⟩:=hA (by omega)
    have c2:=hc i hln
    have g3:(i:Int) < (n:Int):=by omega
    clear hc hA
    go_wp2
    exact ⟨⟨rfl,i+1,by rw [Int.natCast_add]; rfl,by omega,trivial⟩,by rw [e9]; simp [natOfV]; omega⟩
   ·have g3:¬ (i:Int) < (n:Int):=by omega
    clear hA
    go_wp2
    exact ⟨⟨rfl,i+1,by rw [Int.natCast_add]; rfl,by omega,trivial⟩,by rw [e9]; simp [natOfV]; omega⟩
  ·obtain rfl:i=n+20:=by omega
   have g1:¬ ((n+20:Nat):Int) < (n:Int)+20:=by omega
   have g1':¬ (n:Int)+20 < (n:Int)+20:=by omega
   clear hA
   go_wp2
   refine hQ.out _ (by simp) (fun j hj hne=>?_)
   match j,hj,hne with
   | 22,_,h=>exact absurd rfl h
   | 0,_,_ | 1,_,_ | 2,_,_ | 3,_,_ | 4,_,_ | 5,_,_ | 6,_,_ | 7,_,_ | 8,_,_ | 9,_,_ | 10,_,_ | 11,_,_ | 12,_,_ | 13,_,_ | 14,_,_ | 15,_,_ | 16,_,_ | 17,_,_ | 18,_,_ | 19,_,_ | 20,_,_ | 21,_,_=>simp [h1,h3,h4]
   | q+23,hq,_=>exact absurd hq (by omega)
theorem gq41_T {c:Code} (hcode:c=gqL41) {T:Array Value} {x:World} {A:Option Addr} {n cap gx cx:Nat} {Q:Exit→Act→World→Prop} (hs:T.size=196) (h1:T[3]?=some (.slice A n cap)) (h2:T[22]?=some (.int .i64 0)) (h3:T[16]?=some (.slice (some ⟨gx,0,none⟩) (n+20) cx)) (h4:T[18]?=some (.bool true)) (hn:n≤100000000000) (hA:0 < n→∃ g,A=some ⟨g,0,none⟩∧∀ j,j < n→x.cell? ⟨g,j,none⟩=some (.int .i64 (-4))) (hx:∀ j,j < n+20→x.cell? ⟨gx,j,none⟩=some (.int .i64 (-4)))
  (hQ:∀ T',T'.size=196→(∀ j,j < 23→j≠22→T'[j]?=T[j]?)→Q (.exit 16) ⟨T',[]⟩ x):c.wp Try.prog Q ⟨T,[]⟩ x:=by
 subst hcode
 obtain ⟨f,hf,fz⟩:=arrfv T hs
 have e1:=fz 3 _ h1
 have e2:=fz 22 _ h2
 have e3:=fz 16 _ h3
 have e4:=fz 18 _ h4
 subst hf
 exact gq41_wp e1 e2 e3 e4 hn hA hx (fun T' a1 a2=>hQ T' a1 (fun q h1 h2=>by rw [a2 q h1 h2,arrf_get f (by omega)]))
def l4 (a b c d:List Value):Nat→List Value
 | 0=>a
 | 1=>b
 | 2=>c
 | _=>d
theorem own_sl {w:World} {B e s n:Nat} {v:Value} {xs:List Value} (h:w.ownsRow B e s v n xs):∃ A cap,v=.slice A n cap∧(0 < n→∃ g,A=some ⟨g,0,none⟩):=by
 rcases h.2 with ⟨rfl,h0⟩ | ⟨g,cap,cur,rfl,_⟩
 ·exact ⟨none,0,by rw [h0],fun h=>by omega⟩
 ·exact ⟨_,cap,rfl,fun _=>⟨g,rfl⟩⟩
theorem own_sl20 {w:World} {B e s n:Nat} {v:Value} {xs:List Value} (h:w.ownsRow B e s v (n+20) xs):∃ g cap,v=.slice (some ⟨g,0,none⟩) (n+20) cap:=by
 rcases h.2 with ⟨rfl,h0⟩ | ⟨g,cap,cur,rfl,_⟩
 ·omega
 ·exact ⟨g,cap,rfl⟩
set_option maxHeartbeats 8000000 in
theorem grownW_wp {x:World} {V:Nat→Value} {N:Nat→Nat} {L:Nat→List Value} (hF:Fil x V N L x) (hN:∀ r,r < 4→N r≤100000000000) :
  Calls Try.prog 48 #[V 0,V 1,V 2,V 3] x fun e x'=>e=.returned (.bool true)∧∀ b,b < x.heap.size→(∀ r,r < 4→(V r).ownBlock≠some b)→x'.heap[b]?=x.heap[b]?:=by
 obtain ⟨A0,c0,hv0,hA0⟩:=own_sl (hF.row 0 (by decide))
 obtain ⟨A1,c1,hv1,hA1⟩:=own_sl (hF.row 1 (by decide))
 obtain ⟨A2,c2,hv2,hA2⟩:=own_sl (hF.row 2 (by decide))
 obtain ⟨A3,c3,hv3,hA3⟩:=own_sl (hF.row 3 (by decide))
 have hn0:=hN 0 (by decide)
 have hn1:=hN 1 (by decide)
 have hn2:=hN 2 (by decide)
 have hn3:=hN 3 (by decide)
 obtain ⟨n0,hm0⟩:∃ n,n=N 0:=⟨_,rfl⟩
 obtain ⟨n1,hm1⟩:∃ n,n=N 1:=⟨_,rfl⟩
 obtain ⟨n2,hm2⟩:∃ n,n=N 2:=⟨_,rfl⟩
 obtain ⟨n3,hm3⟩:∃ n,n=N 3:=⟨_,rfl⟩
 rw [← hm0] at hv0 hA0 hn0
 rw [← hm1] at hv1 hA1 hn1
 rw [← hm2] at hv2 hA2 hn2
 rw [← hm3] at hv3 hA3 hn3
 suffices hs:Calls Try.prog 48 #[.slice A0 n0 c0,.slice A1 n1 c1,.slice A2 n2 c2,.slice A3 n3 c3] x fun e x'=>e=.returned (.bool true)∧Hid (∀ b,b < x.heap.size→(∀ r,r < 4→(V r).ownBlock≠some b)→x'.heap[b]?=x.heap[b]?) by
  rw [hv0,hv1,hv2,hv3]
  exact hs.mono fun e x' h=>⟨h.1,h.2.out⟩
 clear hN
 replace hv0:=Lib.hid hv0
 replace hv1:=Lib.hid hv1
 replace hv2:=Lib.hid hv2
 replace hv3:=Lib.hid hv3
 replace hm0:=Lib.hid hm0
 replace hm1:=Lib.hid hm1
 replace hm2:=Lib.hid hm2
 replace hm3:=Lib.hid hm3
 replace hF:=Lib.hid hF
 go_enter Try.func48,Try.ntmps48
 go_wp2_with fail
 refine gq1_T (V:=V) (N:=N) (x:=x) (by kernel_rfl) (by simp) (by simp <;> rfl) (by simp <;> rfl) hv0.out hm0.out.symm hn0 hA0 hF.out (fun T0 w0 s0 j0 F0=>?_)
 replace F0:=Lib.hid F0
 clear hF
 refine inBlock_out ?_
 obtain ⟨f,hf,fz⟩:=arrfv T0 s0
 have k0:=fz 0 _ ((j0 0 (by decide) (by decide)).trans (by simp; rfl))
 have k1:=fz 1 _ ((j0 1 (by decide) (by decide)).trans (by simp; rfl))
 have k2:=fz 2 _ ((j0 2 (by decide) (by decide)).trans (by simp; rfl))
 have k3:=fz 3 _ ((j0 3 (by decide) (by decide)).trans (by simp; rfl))
 clear fz j0 s0
 subst hf
 simp only [List.range,List.range.loop,List.map_cons,List.map_nil,k0,k1,k2,k3]
 clear k0 k1 k2 k3
 go_wp2_with fail
 refine gq5_T (V:=V) (N:=N) (x:=x) (by kernel_rfl) (by simp) (by simp <;> rfl) (by simp <;> rfl) hv1.out hm1.out.symm hn1 hA1 F0.out (fun T1 w1 s1 j1 F1=>?_)
 replace F1:=Lib.hid F1
 clear F0
 refine inBlock_out ?_
 obtain ⟨f,hf,fz⟩:=arrfv T1 s1
 have k0:=fz 0 _ ((j1 0 (by decide) (by decide)).trans (by simp; rfl))
 have k1:=fz 1 _ ((j1 1 (by decide) (by decide)).trans (by simp; rfl))
 have k2:=fz 2 _ ((j1 2 (by decide) (by decide)).trans (by simp; rfl))
 have k3:=fz 3 _ ((j1 3 (by decide) (by decide)).trans (by simp; rfl))
 clear fz j1 s1
 subst hf
 simp only [List.range,List.range.loop,List.map_cons,List.map_nil,k0,k1,k2,k3]
 clear k0 k1 k2 k3
 go_wp2_with fail
 refine gq9_T (V:=V) (N:=N) (x:=x) (by kernel_rfl) (by simp) (by simp <;> rfl) (by simp <;> rfl) hv2.out hm2.out.symm hn2 hA2 F1.out (fun T2 w2 s2 j2 F2=>?_)
 replace F2:=Lib.hid F2
 clear F1
 refine inBlock_out ?_
 obtain ⟨f,hf,fz⟩:=arrfv T2 s2
 have k0:=fz 0 _ ((j2 0 (by decide) (by decide)).trans (by simp; rfl))
 have k1:=fz 1 _ ((j2 1 (by decide) (by decide)).trans (by simp; rfl))
 have k2:=fz 2 _ ((j2 2 (by decide) (by decide)).trans (by simp; rfl))
 have k3:=fz 3 _ ((j2 3 (by decide) (by decide)).trans (by simp; rfl))
 clear fz j2 s2
 subst hf
 simp only [List.range,List.range.loop,List.map_cons,List.map_nil,k0,k1,k2,k3]
 clear k0 k1 k2 k3
 go_wp2_with fail
 refine gq13_T (V:=V) (N:=N) (x:=x) (by kernel_rfl) (by simp) (by simp <;> rfl) (by simp <;> rfl) hv3.out hm3.out.symm hn3 hA3 F2.out (fun T3 w3 s3 j3 F3=>?_)
 replace F3:=Lib.hid F3
 clear F2
 refine inBlock_out ?_
 obtain ⟨f,hf,fz⟩:=arrfv T3 s3
 have k0:=fz 0 _ ((j3 0 (by decide) (by decide)).trans (by simp; rfl))
 have k1:=fz 1 _ ((j3 1 (by decide) (by decide)).trans (by simp; rfl))
 have k2:=fz 2 _ ((j3 2 (by decide) (by decide)).trans (by simp; rfl))
 have k3:=fz 3 _ ((j3 3 (by decide) (by decide)).trans (by simp; rfl))
 clear fz j3 s3
 subst hf
 simp only [List.range,List.range.loop,List.map_cons,List.map_nil,k0,k1,k2,k3]
 clear k0 k1 k2 k3
 have hG:Gr4 x V N w3 V (fun _=>0):=F3.out.gr (fun r hr=>by
  match r,hr with
  | 0,_=>rw [upd_ne _ _ (by decide),upd_ne _ _ (by decide),upd_ne _ _ (by decide),upd_same,hm0.out]; rfl
  | 1,_=>rw [upd_ne _ _ (by decide),upd_ne _ _ (by decide),upd_same,hm1.out]; rfl
  | 2,_=>rw [upd_ne _ _ (by decide),upd_same,hm2.out]; rfl
  | 3,_=>rw [upd_same,hm3.out]; rfl)
 replace hG:=Lib.hid hG
 clear F3
 go_wp2_with fail
 refine gq21_T (V:=V) (N:=N) (x:=x) (by kernel_rfl) (by simp) (by simp; rw [hv0.out]) (by simp; rw [hv1.out]) (by simp; rw [hv2.out]) (by simp; rw [hv3.out]) (by simp <;> rfl) (by rw [← hm0.out]; exact hn0) (by rw [← hm1.out]; exact hn1) (by rw [← hm2.out]; exact hn2) (by rw [← hm3.out]; exact hn3) hG.out (fun T w a b c d s j t13 t14 t15 t16 G=>?_)
 clear hG
 refine inBlock_out ?_
 have hrow0:=G.row0
 have hrow1:=G.row1
 have hrow2:=G.row2
 have hrow3:=G.row3
 rw [← hm0.out] at hrow0
 rw [← hm1.out] at hrow1
 rw [← hm2.out] at hrow2
 rw [← hm3.out] at hrow3
 obtain ⟨g0,d0,rfl⟩:=own_sl20 hrow0
 have hx0:∀ j,j < n0+20→w.cell? ⟨g0,j * 4,none⟩=some (.int .i64 (-1)):=fun j hj=>own_rep (r:=0) (by decide) hrow0 hj
 have hc0:0 < n0→∃ g,A0=some ⟨g,0,none⟩∧∀ j,j < n0→w.cell? ⟨g,j * 4,none⟩=some (.int .i64 (-1)):=fun h=>by
  obtain ⟨g,e⟩:=hA0 h
  refine ⟨g,e,fun j hj=>?_⟩
  have h1:=(G.ca 0 (by decide) g (by rw [hv0.out,e]; rfl)).2 j (by rw [← hm0.out]; exact hj)
  exact h1
 obtain ⟨g1,d1,rfl⟩:=own_sl20 hrow1
 have hx1:∀ j,j < n1+20→w.cell? ⟨g1,j * 4,none⟩=some (.int .i64 (-2)):=fun j hj=>own_rep (r:=1) (by decide) hrow1 hj
 have hc1:0 < n1→∃ g,A1=some ⟨g,0,none⟩∧∀ j,j < n1→w.cell? ⟨g,j * 4,none⟩=some (.int .i64 (-2)):=fun h=>by
  obtain ⟨g,e⟩:=hA1 h
  refine ⟨g,e,fun j hj=>?_⟩
  have h1:=(G.ca 1 (by decide) g (by rw [hv1.out,e]; rfl)).2 j (by rw [← hm1.out]; exact hj)
  exact h1
 obtain ⟨g2,d2,rfl⟩:=own_sl20 hrow2
 have hx2:∀ j,j < n2+20→w.cell? ⟨g2,j,none⟩=some (.int .i64 (-3)):=fun j hj=>by have h:=own_rep (r:=2) (by decide) hrow2 hj; rw [show gwS 2=1 from rfl,Nat.mul_one] at h; exact h
 have hc2:0 < n2→∃ g,A2=some ⟨g,0,none⟩∧∀ j,j < n2→w.cell? ⟨g,j,none⟩=some (.int .i64 (-3)):=fun h=>by
  obtain ⟨g,e⟩:=hA2 h
  refine ⟨g,e,fun j hj=>?_⟩
  have h1:=(G.ca 2 (by decide) g (by rw [hv2.out,e]; rfl)).2 j (by rw [← hm2.out]; exact hj)
  rw [show gwS 2=1 from rfl,Nat.mul_one] at h1
  exact h1
 obtain ⟨g3,d3,rfl⟩:=own_sl20 hrow3
 have hx3:∀ j,j < n3+20→w.cell? ⟨g3,j,none⟩=some (.int .i64 (-4)):=fun j hj=>by have h:=own_rep (r:=3) (by decide) hrow3 hj; rw [show gwS 3=1 from rfl,Nat.mul_one] at h; exact h
 have hc3:0 < n3→∃ g,A3=some ⟨g,0,none⟩∧∀ j,j < n3→w.cell? ⟨g,j,none⟩=some (.int .i64 (-4)):=fun h=>by
  obtain ⟨g,e⟩:=hA3 h
  refine ⟨g,e,fun j hj=>?_⟩
  have h1:=(G.ca 3 (by decide) g (by rw [hv3.out,e]; rfl)).2 j (by rw [← hm3.out]; exact hj)
  rw [show gwS 3=1 from rfl,Nat.mul_one] at h1
  exact h1
 have hfin:=Lib.hid G.old
 clear G hrow0 hrow1 hrow2 hrow3 hA0 hA1 hA2 hA3
 replace hx0:=Lib.hid hx0
 replace hx1:=Lib.hid hx1
 replace hx2:=Lib.hid hx2
 replace hx3:=Lib.hid hx3
 replace hc0:=Lib.hid hc0
 replace hc1:=Lib.hid hc1
 replace hc2:=Lib.hid hc2
 replace hc3:=Lib.hid hc3
 obtain ⟨f,hf,fz⟩:=arrfv T s
 have k0:=fz 0 _ ((j 0 (by decide)).trans (by simp; rfl))
 have k1:=fz 1 _ ((j 1 (by decide)).trans (by simp; rfl))
 have k2:=fz 2 _ ((j 2 (by decide)).trans (by simp; rfl))
 have k3:=fz 3 _ ((j 3 (by decide)).trans (by simp; rfl))
 have k13:=fz 13 _ t13
 have k14:=fz 14 _ t14
 have k15:=fz 15 _ t15
 have k16:=fz 16 _ t16
 clear fz j s t13 t14 t15 t16
 subst hf
 simp only [List.range,List.range.loop,List.map_cons,List.map_nil,k0,k1,k2,k3,k13,k14,k15,k16]
 clear k0 k1 k2 k3 k13 k14 k15 k16
 go_wp2_with fail
 refine gq29_T (by kernel_rfl) (by simp) (by simp <;> rfl) (by simp <;> rfl) (by simp <;> rfl) (by simp <;> rfl) hn0 hc0.out hx0.out (fun T s j=>?_)
 clear hc0 hx0
 refine inBlock_out ?_
 obtain ⟨f,hf,fz⟩:=arrfv T s
 have k0:=fz 0 _ ((j 0 (by decide) (by decide)).trans (by simp; rfl))
 have k1:=fz 1 _ ((j 1 (by decide) (by decide)).trans (by simp; rfl))
 have k2:=fz 2 _ ((j 2 (by decide) (by decide)).trans (by simp; rfl))
 have k3:=fz 3 _ ((j 3 (by decide) (by decide)).trans (by simp; rfl))
 have k13:=fz 13 _ ((j 13 (by decide) (by decide)).trans (by simp; rfl))
 have k14:=fz 14 _ ((j 14 (by decide) (by decide)).trans (by simp; rfl))
 have k15:=fz 15 _ ((j 15 (by decide) (by decide)).trans (by simp; rfl))
 have k16:=fz 16 _ ((j 16 (by decide) (by decide)).trans (by simp; rfl))
 have k18:=fz 18 _ ((j 18 (by decide) (by decide)).trans (by simp; rfl))
 clear fz j s
 subst hf
 simp only [List.range,List.range.loop,List.map_cons,List.map_nil,k0,k1,k2,k3,k13,k14,k15,k16,k18]
 clear k0 k1 k2 k3 k13 k14 k15 k16 k18
 go_wp2_with fail
 refine gq33_T (by kernel_rfl) (by simp) (by simp <;> rfl) (by simp <;> rfl) (by simp <;> rfl) (by simp <;> rfl) hn1 hc1.out hx1.out (fun T s j=>?_)
 clear hc1 hx1
 refine inBlock_out ?_
 obtain ⟨f,hf,fz⟩:=arrfv T s
 have k0:=fz 0 _ ((j 0 (by decide) (by decide)).trans (by simp; rfl))
 have k1:=fz 1 _ ((j 1 (by decide) (by decide)).trans (by simp; rfl))
 have k2:=fz 2 _ ((j 2 (by decide) (by decide)).trans (by simp; rfl))
 have k3:=fz 3 _ ((j 3 (by decide) (by decide)).trans (by simp; rfl))
 have k13:=fz 13 _ ((j 13 (by decide) (by decide)).trans (by simp; rfl))
 have k14:=fz 14 _ ((j 14 (by decide) (by decide)).trans (by simp; rfl))
 have k15:=fz 15 _ ((j 15 (by decide) (by decide)).trans (by simp; rfl))
 have k16:=fz 16 _ ((j 16 (by decide) (by decide)).trans (by simp; rfl))
 have k18:=fz 18 _ ((j 18 (by decide) (by decide)).trans (by simp; rfl))
 clear fz j s
 subst hf
 simp only [List.range,List.range.loop,List.map_cons,List.map_nil,k0,k1,k2,k3,k13,k14,k15,k16,k18]
 clear k0 k1 k2 k3 k13 k14 k15 k16 k18
 go_wp2_with fail
 refine gq37_T (by kernel_rfl) (by simp) (by simp <;> rfl) (by simp <;> rfl) (by simp <;> rfl) (by simp <;> rfl) hn2 hc2.out hx2.out (fun T s j=>?_)
 clear hc2 hx2
 refine inBlock_out ?_
 obtain ⟨f,hf,fz⟩:=arrfv T s
 have k0:=fz 0 _ ((j 0 (by decide) (by decide)).trans (by simp; rfl))
 have k1:=fz 1 _ ((j 1 (by decide) (by decide)).trans (by simp; rfl))
 have k2:=fz 2 _ ((j 2 (by decide) (by decide)).trans (by simp; rfl))
 have k3:=fz 3 _ ((j 3 (by decide) (by decide)).trans (by simp; rfl))
 have k13:=fz 13 _ ((j 13 (by decide) (by decide)).trans (by simp; rfl))
 have k14:=fz 14 _ ((j 14 (by decide) (by decide)).trans (by simp; rfl))
 have k15:=fz 15 _ ((j 15 (by decide) (by decide)).trans (by simp; rfl))
 have k16:=fz 16 _ ((j 16 (by decide) (by decide)).trans (by simp; rfl))
 have k18:=fz 18 _ ((j 18 (by decide) (by decide)).trans (by simp; rfl))
 clear fz j s
 subst hf
 simp only [List.range,List.range.loop,List.map_cons,List.map_nil,k0,k1,k2,k3,k13,k14,k15,k16,k18]
 clear k0 k1 k2 k3 k13 k14 k15 k16 k18
 go_wp2_with fail
 refine gq41_T (by kernel_rfl) (by simp) (by simp <;> rfl) (by simp <;> rfl) (by simp <;> rfl) (by simp <;> rfl) hn3 hc3.out hx3.out (fun T s j=>?_)
 clear hc3 hx3
 refine inBlock_out ?_
 obtain ⟨f,hf,fz⟩:=arrfv T s
 have k0:=fz 0 _ ((j 0 (by decide) (by decide)).trans (by simp; rfl))
 have k1:=fz 1 _ ((j 1 (by decide) (by decide)).trans (by simp; rfl))
 have k2:=fz 2 _ ((j 2 (by decide) (by decide)).trans (by simp; rfl))
 have k3:=fz 3 _ ((j 3 (by decide) (by decide)).trans (by simp; rfl))
 have k13:=fz 13 _ ((j 13 (by decide) (by decide)).trans (by simp; rfl))
 have k14:=fz 14 _ ((j 14 (by decide) (by decide)).trans (by simp; rfl))
 have k15:=fz 15 _ ((j 15 (by decide) (by decide)).trans (by simp; rfl))
 have k16:=fz 16 _ ((j 16 (by decide) (by decide)).trans (by simp; rfl))
 have k18:=fz 18 _ ((j 18 (by decide) (by decide)).trans (by simp; rfl))
 clear fz j s
 subst hf
 simp only [List.range,List.range.loop,List.map_cons,List.map_nil,k0,k1,k2,k3,k13,k14,k15,k16,k18]
 clear k0 k1 k2 k3 k13 k14 k15 k16 k18
 go_wp2_with fail
 go_ret
 exact ⟨rfl,hfin⟩
end Go.Proofs.Ytimlbbleblijnaa.Co
