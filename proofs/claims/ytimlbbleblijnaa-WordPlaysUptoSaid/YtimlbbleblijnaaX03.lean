/- Lemmas for the laws of this seat, laid together of PGg, PGh, PGi, PGj. -/
import Derived.Test.YtimlbbleblijnaaX02
import Derived.Conc.Token

set_option linter.unusedVariables false
set_option linter.unusedSimpArgs false
set_option maxRecDepth 100000
set_option maxHeartbeats 4000000
namespace Go.Proofs.Ytimlbbleblijnaa.Co
open Go.Conc
structure PastZ (Sh:Loc→Prop) (St:Nat→Loc→Prop) (Mem Loose:Nat→Prop) (B h dh:Nat) (t:Trace):Prop where
 clean:∀ said,¬ Race said t
 known:∀ i a,touchAt t i=some a→a.loc.isMemory=true→Knows t h i∨(a.write=false∧∃ g,t.g? i=some g∧St g a.loc∧Loose g)∨(Sh a.loc∧a.kind=.atomic∧¬ t.heard i)
 wrote:∀ i a,touchAt t i=some a→a.write=true→∀ g,Mem g→St g a.loc→Knows t g i
 shun:∀ i a,touchAt t i=some a→Sh a.loc→a.kind≠.plain
 hears:∀ g,Mem g→g≠h→Deaf t g=0
 hearsH:Deaf t h=dh
 seen:∀ op ∈ t,op.act.low B
theorem heard_old {t u:Trace} {i:Nat} (hi:i < t.size):(t ++ u).heard i ↔ t.heard i:=by
 unfold Trace.heard
 constructor
 ·rintro ⟨g,h1,h2⟩
  exact ⟨g,by rw [g?_old hi] at h1; exact h1,by rw [deaf_old (Nat.le_of_lt hi)] at h2; exact h2⟩
 ·rintro ⟨g,h1,h2⟩
  exact ⟨g,by rw [g?_old hi]; exact h1,by rw [deaf_old (Nat.le_of_lt hi)]; exact h2⟩
section
variable {Sh:Loc→Prop} {St:Nat→Loc→Prop} {Mem Loose:Nat→Prop} {B h dh:Nat} {t u:Trace}
theorem PastZ.mono {B':Nat} (H:PastZ Sh St Mem Loose B h dh t) (hB:B≤B'):PastZ Sh St Mem Loose B' h dh t:=⟨H.clean,H.known,H.wrote,H.shun,H.hears,H.hearsH,fun op hop=>MemAct.low_mono hB (H.seen op hop)⟩
theorem PastZ.fewer {Mem':Nat→Prop} (H:PastZ Sh St Mem Loose B h dh t) (hM:∀ g,Mem' g→Mem g):PastZ Sh St Mem' Loose B h dh t:=⟨H.clean,H.known,fun i a ha hw g hg=>H.wrote i a ha hw g (hM g hg),H.shun,fun g hg=>H.hears g (hM g hg),H.hearsH,H.seen⟩
theorem PastZ.loosen {Loose':Nat→Prop} (H:PastZ Sh St Mem Loose B h dh t) (hL:∀ g,Loose g→Loose' g):PastZ Sh St Mem Loose' B h dh t :=
 ⟨H.clean,fun i a ha hm=>(H.known i a ha hm).imp id (Or.imp (fun ⟨x,g,hg,y,hl⟩=>⟨x,g,hg,y,hL g hl⟩) id),H.wrote,H.shun,H.hears,H.hearsH,H.seen⟩
theorem PastZ.still {St':Nat→Loc→Prop} (H:PastZ Sh St Mem Loose B h dh t) (h1:∀ g l,St g l→St' g l) (h2:∀ i a,touchAt t i=some a→a.write=true→∀ g,Mem g→St' g a.loc→¬ St g a.loc→Knows t g i):PastZ Sh St' Mem Loose B h dh t :=
 ⟨H.clean,fun i a ha hm=>(H.known i a ha hm).imp id (Or.imp (fun ⟨x,g,hg,y,hl⟩=>⟨x,g,hg,h1 g _ y,hl⟩) id),fun i a ha hw g hg hs=>by
  by_cases hx:St g a.loc
  ·exact H.wrote i a ha hw g hg hx
  ·exact h2 i a ha hw g hg hs hx,H.shun,H.hears,H.hearsH,H.seen⟩
theorem PastZ.shunMore {Sh':Loc→Prop} (H:PastZ Sh St Mem Loose B h dh t) (h1:∀ l,Sh l→Sh' l) (h2:∀ l,Sh' l→¬ Sh l→∃ a,l=.cell a∧B≤a.block):PastZ Sh' St Mem Loose B h dh t :=
 ⟨H.clean,fun i a ha hm=>(H.known i a ha hm).imp id (Or.imp id fun ⟨x,y,z⟩=>⟨h1 _ x,y,z⟩),H.wrote,fun i a ha hs=>by
  by_cases hx:Sh a.loc
  ·exact H.shun i a ha hx
  ·obtain ⟨ad,he,hle⟩:=h2 _ hs hx
   obtain ⟨x,hx,hxa⟩:=touch_of ha
   have:=H.seen x (mem_of_getElem? hx)
   exfalso
   cases hact:x.act with
   | access e =>
     rw [hact] at hxa this
     simp only [MemAct.touch?,Option.some.injEq] at hxa
     subst hxa
     simp only at he
     simp only [MemAct.low,he,Loc.low] at this
     omega
   | mark m =>
     rw [hact] at hxa this
     cases m <;> simp only [MemAct.touch?,Option.some.injEq,reduceCtorEq] at hxa <;> (subst hxa; simp only [Loc.cell.injEq] at he; subst he; simp only [MemAct.low] at this; omega)
   | _=>rw [hact] at hxa; simp [MemAct.touch?] at hxa,H.hears,H.hearsH,H.seen⟩
theorem PastZ.old_known (H:PastZ Sh St Mem Loose B h dh t) {i:Nat} {a:Touch} {x:MemOp} (hx':t[i]?=some x) (hxa:x.act.touch?=some a) (hm:a.loc.isMemory=true) :
  Knows (t ++ u) h i∨(a.write=false∧∃ g,(t ++ u).g? i=some g∧St g a.loc∧Loose g)∨(Sh a.loc∧a.kind=.atomic∧¬ (t ++ u).heard i) :=
 (H.known i a (by rw [touchAt_of hx']; exact hxa) hm).imp (Knows.app u) (Or.imp (fun ⟨p,g,hg,q,hl⟩=>⟨p,g,by rw [g?_old (lt_size_of_getElem? hx')]; exact hg,q,hl⟩) fun ⟨p,q,r⟩=>⟨p,q,by rw [heard_old (lt_size_of_getElem? hx')]; exact r⟩)
theorem PastZ.old_hears {g:Nat} (H:PastZ Sh St Mem Loose B h dh t) (hu:∀ op ∈ u,op.g=g) (hd:Mem g→g≠h→Deaf (t ++ u) g=Deaf t g):∀ g',Mem g'→g'≠h→Deaf (t ++ u) g'=0:=fun g' hg' hne=>by
 by_cases e:g'=g
 ·subst e; exact (hd hg' hne).trans (H.hears g' hg' hne)
 ·exact (Deaf_other t (fun x=>e x.symm) u hu).trans (H.hears g' hg' hne)
theorem PastZ.appMute {g:Nat} (H:PastZ Sh St Mem Loose B h dh t) (hgh:g≠h) (hu:∀ op ∈ u,op.g=g) (hn:∀ op ∈ u,op.act.touch?=none) (hd:Mem g→Deaf (t ++ u) g=Deaf t g) (hl:∀ op ∈ u,op.act.low B):PastZ Sh St Mem Loose B h dh (t ++ u):=by
 refine ⟨fun said=>noRace_appendMute (H.clean said) hn,fun i a ha hm=>?_,fun i a ha hw g' hg' hS=>?_,fun i a ha hs=>?_,H.old_hears hu (fun hM _=>hd hM),(Deaf_other t hgh u hu).trans H.hearsH,seen_app H.seen hl⟩
 all_goals
  obtain ⟨x,hx,hxa⟩:=touch_of ha
  rcases getElem?_append_cases hx with ⟨_,hx'⟩ | ⟨_,hxu⟩
 ·exact H.old_known hx' hxa hm
 ·rw [hn x hxu] at hxa; cases hxa
 ·exact (H.wrote i a (by rw [touchAt_of hx']; exact hxa) hw g' hg' hS).app u
 ·rw [hn x hxu] at hxa; cases hxa
 ·exact H.shun i a (by rw [touchAt_of hx']; exact hxa) hs
 ·rw [hn x hxu] at hxa; cases hxa
theorem PastZ.appRead {g:Nat} (hdis:∀ g l,St g l→¬ Sh l) (H:PastZ Sh St Mem Loose B h dh t) (hgh:g≠h) (hg:Mem g) (hL:Loose g) (hu:∀ op ∈ u,op.g=g) (hr:∀ op ∈ u,∀ b,op.act.touch?=some b→b.write=false∧St g b.loc) (hd:Deaf (t ++ u) g=Deaf t g)
  (hl:∀ op ∈ u,op.act.low B):PastZ Sh St Mem Loose B h dh (t ++ u):=by
 refine ⟨fun said=>noRace_append (H.clean said) hu fun i a ha op hop b hb hc=>?_,fun i a ha hm=>?_,fun i a ha hw g' hg' hS=>?_,fun i a ha hs=>?_,H.old_hears hu (fun _ _=>hd),(Deaf_other t hgh u hu).trans H.hearsH,seen_app H.seen hl⟩
 ·obtain ⟨hb0,hbS⟩:=hr op hop b hb
  rcases hc.2.2.1 with x | x
  ·exact H.wrote i a ha x g hg (hc.1 ▸ hbS)
  ·rw [hb0] at x; cases x
 all_goals
  obtain ⟨x,hx,hxa⟩:=touch_of ha
  rcases getElem?_append_cases hx with ⟨_,hx'⟩ | ⟨_,hxu⟩
 ·exact H.old_known hx' hxa hm
 ·exact .inr (.inl ⟨(hr x hxu a hxa).1,g,by rw [g?_of hx,hu x hxu],(hr x hxu a hxa).2,hL⟩)
 ·exact (H.wrote i a (by rw [touchAt_of hx']; exact hxa) hw g' hg' hS).app u
 ·rw [(hr x hxu a hxa).1] at hw; cases hw
 ·exact H.shun i a (by rw [touchAt_of hx']; exact hxa) hs
 ·exact absurd hs (hdis g _ (hr x hxu a hxa).2)
theorem PastZ.appAtom {g:Nat} (hdis:∀ g l,St g l→¬ Sh l) (H:PastZ Sh St Mem Loose B h dh t) (hgh:g≠h) (hM:¬ Mem g) (hu:∀ op ∈ u,op.g=g) (hr:∀ op ∈ u,∀ b,op.act.touch?=some b→Sh b.loc∧b.kind=.atomic)
  (hd:∀ i,i < u.size→0 < (t ++ u).deaf g (t.size+i)) (hl:∀ op ∈ u,op.act.low B):PastZ Sh St Mem Loose B h dh (t ++ u):=by
 refine ⟨fun said=>noRace_append (H.clean said) hu fun i a ha op hop b hb hc=>?_,fun i a ha hm=>?_,fun i a ha hw g' hg' hS=>?_,fun i a ha hs=>?_,H.old_hears hu (fun hx _=>absurd hx hM),(Deaf_other t hgh u hu).trans H.hearsH,seen_app H.seen hl⟩
 ·obtain ⟨hb1,hb2⟩:=hr op hop b hb
  have hk:=H.shun i a ha (hc.1 ▸ hb1)
  rcases hc.2.2.2 with x | x | ⟨_,_,x⟩
  ·exact absurd x hk
  ·rw [hb2] at x; cases x
  ·rw [hb2] at x; cases x
 all_goals
  obtain ⟨x,hx,hxa⟩:=touch_of ha
  rcases getElem?_append_cases hx with ⟨_,hx'⟩ | ⟨hge,hxu⟩
 ·exact H.old_known hx' hxa hm
 ·refine .inr (.inr ⟨(hr x hxu a hxa).1,(hr x hxu a hxa).2,?_⟩)
  rintro ⟨g',hg',hd'⟩
  rw [g?_of hx,hu x hxu] at hg'
  cases hg'
  have hlt:=lt_size_of_getElem? hx
  rw [Array.size_append] at hlt
  have:=hd (i - t.size) (by omega)
  rw [show t.size+(i - t.size)=i by omega] at this
  omega
 ·exact (H.wrote i a (by rw [touchAt_of hx']; exact hxa) hw g' hg' hS).app u
 ·exact absurd (hr x hxu a hxa).1 (hdis g' _ hS)
 ·exact H.shun i a (by rw [touchAt_of hx']; exact hxa) hs
 ·rw [(hr x hxu a hxa).2]; simp
theorem PastZ.appH {dh':Nat} (H:PastZ Sh St Mem Loose B h dh t) (hu:∀ op ∈ u,op.g=h) (hs:∀ op ∈ u,∀ b,op.act.touch?=some b→(∀ g,St g b.loc→b.write=false)∧(Sh b.loc→b.kind≠.plain)) (hd:Deaf (t ++ u) h=dh')
  (hl:∀ op ∈ u,op.act.low B):PastZ Sh St Mem Loose B h dh' (t ++ u):=by
 refine ⟨fun said=>noRace_append (H.clean said) hu fun i a ha op hop b hb hc=>?_,fun i a ha hm=>?_,fun i a ha hw g hg hS=>?_,fun i a ha hsh=>?_,H.old_hears hu (fun _ hne=>absurd rfl hne),hd,seen_app H.seen hl⟩
 ·rcases H.known i a ha hc.2.1 with hk | ⟨hw,g,_,hS,_⟩ | ⟨hsh,hka,_⟩
  ·exact hk
  ·have hb0:=(hs op hop b hb).1 g (hc.1 ▸ hS)
   rcases hc.2.2.1 with x | x
   ·rw [hw] at x; cases x
   ·rw [hb0] at x; cases x
  ·have hb0:=(hs op hop b hb).2 (hc.1 ▸ hsh)
   rcases hc.2.2.2 with x | x | ⟨_,x,_⟩
   ·rw [hka] at x; cases x
   ·exact absurd x hb0
   ·rw [hka] at x; cases x
 all_goals
  obtain ⟨x,hx,hxa⟩:=touch_of ha
  rcases getElem?_append_cases hx with ⟨_,hx'⟩ | ⟨_,hxu⟩
 ·exact H.old_known hx' hxa hm
 ·have:=knows_own hx
  rw [hu x hxu] at this
  exact .inl this
 ·exact (H.wrote i a (by rw [touchAt_of hx']; exact hxa) hw g hg hS).app u
 ·rw [(hs x hxu a hxa).1 g hS] at hw; cases hw
 ·exact H.shun i a (by rw [touchAt_of hx']; exact hxa) hsh
 ·exact (hs x hxu a hxa).2 hsh
end
section
variable {Sh:Loc→Prop} {St:Nat→Loc→Prop} {Mem Loose:Nat→Prop} {B h j:Nat} {t:Trace}
theorem PastZ.give (H:PastZ Sh St Mem Loose B h 0 t) (hjh:j≠h) (hj:Mem j) (fh:FuncId) (ph:String) (fj:FuncId) (pj:String) {c:Nat} (k cap:Nat) (hc:c < B) :
  PastZ Sh St Mem (fun g=>Loose g∧g≠j) B j 0 (t ++ met h j fh ph fj pj c k cap):=by
 have hn:=met_mute h j fh ph fj pj c k cap
 have hq:=met_quiet h j fh ph fj pj c k cap
 have e0:(t ++ met h j fh ph fj pj c k cap)[t.size]?=some { g:=h,fn:=fh,pos:=ph,act:=.send c k }:=by simp [met]
 have e3:(t ++ met h j fh ph fj pj c k cap)[t.size+3]?=some { g:=j,fn:=fj,pos:=pj,act:=.recvDone c k }:=by simp [met]
 have edge:HappensBefore (t ++ met h j fh ph fj pj c k cap) t.size (t.size+3) :=
  Relation.TransGen.single (.inr ⟨.handOver (act?_of e0) (act?_of e3),⟨h,g?_of e0,by rw [deaf_old (Nat.le_refl _)]; exact H.hearsH⟩,⟨j,g?_of e3,by rw [deaf_quiet (hq j) 3 (by simp [met])]; exact H.hears j hj hjh⟩⟩)
 refine ⟨fun said=>noRace_appendMute (H.clean said) hn,fun i a ha hm=>?_,fun i a ha hw g hg hS=>?_,fun i a ha hs=>?_,fun g hg hne=>(Deaf_quiet (hq g)).trans ?_,(Deaf_quiet (hq j)).trans (H.hears j hj hjh),seen_app H.seen fun op hop=>?_⟩
 ·obtain ⟨x,hx,hxa⟩:=touch_of ha
  rcases getElem?_append_cases hx with ⟨hi,hx'⟩ | ⟨_,hxu⟩
  ·rcases H.known i a (by rw [touchAt_of hx']; exact hxa) hm with hk | ⟨p,g,hg,q,hl⟩ | ⟨p,q,r⟩
   ·exact .inl ⟨t.size+3,_,e3,rfl,.inr ((hk.hb_new (Nat.le_refl _) e0 rfl).trans edge)⟩
   ·by_cases e:g=j
    ·subst e
     have:=knows_own hx
     rw [show x.g=g from by have:=g?_of hx'; rw [hg] at this; exact (Option.some.inj this).symm] at this
     exact .inl this
    ·exact .inr (.inl ⟨p,g,by rw [g?_old hi]; exact hg,q,hl,e⟩)
   ·exact .inr (.inr ⟨p,q,by rw [heard_old hi]; exact r⟩)
  ·rw [hn x hxu] at hxa; cases hxa
 ·obtain ⟨x,hx,hxa⟩:=touch_of ha
  rcases getElem?_append_cases hx with ⟨_,hx'⟩ | ⟨_,hxu⟩
  ·exact (H.wrote i a (by rw [touchAt_of hx']; exact hxa) hw g hg hS).app _
  ·rw [hn x hxu] at hxa; cases hxa
 ·obtain ⟨x,hx,hxa⟩:=touch_of ha
  rcases getElem?_append_cases hx with ⟨_,hx'⟩ | ⟨_,hxu⟩
  ·exact H.shun i a (by rw [touchAt_of hx']; exact hxa) hs
  ·rw [hn x hxu] at hxa; cases hxa
 ·by_cases e:g=h
  ·subst e; exact H.hearsH
  ·exact H.hears g hg e
 ·simp only [met,List.mem_toArray,List.mem_cons,List.not_mem_nil,or_false] at hop
  rcases hop with rfl | rfl | rfl | rfl <;> exact hc
theorem PastZ.hire {c:Nat} (H:PastZ Sh St Mem Loose B h 0 t) (hch:c≠h) (hc0:Deaf t c=0) (hMc:¬ Mem c) (hS:∀ l,¬ St c l) (fh:FuncId) (ph:String) (fc:FuncId) :
  PastZ Sh St (fun g=>Mem g∨g=c) Loose B c 0 (t ++ #[{ g:=h,fn:=fh,pos:=ph,act:=.go c },{ g:=c,fn:=fc,pos:=ph,act:=.start }]):=by
 generalize hu:(#[{ g:=h,fn:=fh,pos:=ph,act:=.go c },{ g:=c,fn:=fc,pos:=ph,act:=.start }]:Trace)=u
 have hn:∀ op ∈ u,op.act.touch?=none:=by
  intro op hop
  subst hu
  simp only [List.mem_toArray,List.mem_cons,List.not_mem_nil,or_false] at hop
  rcases hop with rfl | rfl <;> rfl
 have hq:∀ g,∀ op ∈ u,∀ d,deafStep g d op=d:=by
  intro g op hop d
  subst hu
  simp only [List.mem_toArray,List.mem_cons,List.not_mem_nil,or_false] at hop
  rcases hop with rfl | rfl <;> rfl
 have e0:(t ++ u)[t.size]?=some { g:=h,fn:=fh,pos:=ph,act:=.go c }:=by subst hu; simp
 have e1:(t ++ u)[t.size+1]?=some { g:=c,fn:=fc,pos:=ph,act:=.start }:=by subst hu; simp
 have edge:HappensBefore (t ++ u) t.size (t.size+1) :=
  Relation.TransGen.single (.inr ⟨.spawn (act?_of e0) (act?_of e1) (g?_of e1),⟨h,g?_of e0,by rw [deaf_old (Nat.le_refl _)]; exact H.hearsH⟩,⟨c,g?_of e1,by rw [deaf_quiet (hq c) 1 (by subst hu; simp)]; exact hc0⟩⟩)
 refine ⟨fun said=>noRace_appendMute (H.clean said) hn,fun i a ha hm=>?_,fun i a ha hw g hg hSt=>?_,fun i a ha hs=>?_,fun g hg hne=>(Deaf_quiet (hq g)).trans ?_,(Deaf_quiet (hq c)).trans hc0,seen_app H.seen fun op hop=>?_⟩
 ·obtain ⟨x,hx,hxa⟩:=touch_of ha
  rcases getElem?_append_cases hx with ⟨hi,hx'⟩ | ⟨_,hxu⟩
  ·rcases H.known i a (by rw [touchAt_of hx']; exact hxa) hm with hk | ⟨p,g,hg,q,hl⟩ | ⟨p,q,r⟩
   ·exact .inl ⟨t.size+1,_,e1,rfl,.inr ((hk.hb_new (Nat.le_refl _) e0 rfl).trans edge)⟩
   ·exact .inr (.inl ⟨p,g,by rw [g?_old hi]; exact hg,q,hl⟩)
   ·exact .inr (.inr ⟨p,q,by rw [heard_old hi]; exact r⟩)
  ·rw [hn x hxu] at hxa; cases hxa
 ·obtain ⟨x,hx,hxa⟩:=touch_of ha
  rcases getElem?_append_cases hx with ⟨_,hx'⟩ | ⟨_,hxu⟩
  ·rcases hg with hg | rfl
   ·exact (H.wrote i a (by rw [touchAt_of hx']; exact hxa) hw g hg hSt).app u
   ·exact absurd hSt (hS _)
  ·rw [hn x hxu] at hxa; cases hxa
 ·obtain ⟨x,hx,hxa⟩:=touch_of ha
  rcases getElem?_append_cases hx with ⟨_,hx'⟩ | ⟨_,hxu⟩
  ·exact H.shun i a (by rw [touchAt_of hx']; exact hxa) hs
  ·rw [hn x hxu] at hxa; cases hxa
 ·by_cases e:g=h
  ·subst e; exact H.hearsH
  ·exact H.hears g (hg.resolve_right hne) e
 ·subst hu
  simp only [List.mem_toArray,List.mem_cons,List.not_mem_nil,or_false] at hop
  rcases hop with rfl | rfl <;> trivial
theorem PastZ.over (H:PastZ Sh St Mem Loose B 0 0 t) (hL:∀ g,¬ Loose g):(∀ said,¬ Race said t)∧t.HandedOver:=by
 refine ⟨H.clean,fun i g hg hne ⟨x,hx,hm,hc⟩=>?_⟩
 rcases H.known i x hx hm with ⟨q,z,hq,hz,hb⟩ | ⟨_,g',_,_,hl⟩ | ⟨_,hk,hh⟩
 ·rcases hb with rfl | hb
  ·rw [g?_of hq,hz] at hg
   exact absurd (Option.some.inj hg).symm hne
  ·exact ⟨q,by rw [g?_of hq,hz],hb⟩
 ·exact absurd hl (hL g')
 ·rcases hc with hc | hc
  ·exact absurd hk hc
  ·exact absurd hc hh
end
end Go.Proofs.Ytimlbbleblijnaa.Co

namespace Go.Proofs.Ytimlbbleblijnaa.Co
open Go.Conc
open Go.ConcN (sumTo upd sumTo_upd upd_ne upd_same sumTo_congr le_sumTo)
inductive Role where
 | seat (c:Nat) (home:Goroutine→Prop)
 | ender (b:Nat)
 | last (b:Nat) (stored:Bool)
 | gone
def SameIo (w w':World):Prop:=w'.os=w.os∧w'.output=w.output
theorem SameIo.refl (w:World):SameIo w w:=⟨rfl,rfl⟩
theorem SameIo.trans {a b c:World} (h:SameIo a b) (k:SameIo b c):SameIo a c:=⟨k.1.trans h.1,k.2.trans h.2⟩
structure Env where
 role:Nat→Role
 St:Nat→Addr→Option Value
 wg:Nat→Option Nat
 W:Nat→Bool
 H:Nat→Option Nat
 mode:Nat→Nat
 ex:Nat→Nat
 io:World
def KK:Int:=4294967296
def stZ (b:Nat):Addr:=⟨b,1,none⟩
def smZ (b:Nat):Addr:=⟨b,2,none⟩
def rdE (a:Addr):Event:=⟨.cell a,false,true⟩
def wrE (a:Addr):Event:=⟨.cell a,true,true⟩
def mkE (m:Mark):Event:=⟨.mark m,false,true⟩
def GroupAt (b:Nat) (w:World) (st sm:Int):Prop:=∃ x e,w.heap[b]?=some (runObj x st sm e)
def EvS (S:Addr→Option Value) (e:Event):Prop:=∃ a,e=⟨.cell a,false,false⟩∧(S a).isSome=true
def KS (S:Addr→Option Value) (w:World):Prop:=∀ a v,S a=some v→w.cell? a=some v
def AtSeat (P:Program) (main:Bool) (S:Addr→Option Value) (c:Nat) (home:Goroutine→Prop) (g g₂:Goroutine):Prop :=
 g.status=.running∧g.frame=g₂.frame∧g.callers=g₂.callers∧g.dying=g₂.dying∧home g₂∧∃ es,(∀ e ∈ es,EvS S e)∧∀ w,KS S w→stepG P main g w=.comm g₂ #[rcase c (.bool false)] true (.recv false) w es
def Sits (P:Program) (main:Bool) (S:Addr→Option Value) (c:Nat) (home:Goroutine→Prop) (n:Nat) (g:Goroutine):Prop :=
 (∃ k w,n=k+1∧Goes P main (fun _ w₁=>KS S w₁) (fun w w' es=>w'=w∧∀ e ∈ es,EvS S e) (fun g _=>∃ g₂,AtSeat P main S c home g g₂) k g w) ∨
  (n=0∧∃ g₀ g₂,g=parked g₂ #[rcase c (.bool false)] (.recv false)∧AtSeat P main S c home g₀ g₂)
def Lasts (P:Program) (b:Nat):Nat→Bool→Goroutine→Prop
 | 0,_,_=>False
 | n+1,false,g=>g.status=.running∧∀ w,GroupAt b w 1 0→∃ g' w' es,stepG P false g w=.go g' w' es ∧
   ((w'=w∧(es=#[]∨es=#[rdE (stZ b)])∧Lasts P b n false g')∨(w'=w.setCell (stZ b) (.int .u64 0)∧es=#[wrE (stZ b)]∧Lasts P b n true g'))
 | n+1,true,g=>g.status=.running∧∀ w,GroupAt b w 0 0→∃ g' w' es,stepG P false g w=.go g' w' es ∧
   ((w'=w∧es=#[]∧Lasts P b n true g')∨(w'=w.setCell (smZ b) (.int .u32 1)∧es=semEvents (smZ b)∧mayWake P g=true∧QuitsD P n 1 g'))
def Ends (P:Program) (b:Nat):Nat→Nat→Goroutine→Prop
 | 0,_,_=>False
 | n+1,d,g=>g.status=.running∧∀ (w:World) (v wt:Nat),v < 2147483647→wt≤1→GroupAt b w (((v:Int)+1) * KK+wt) 0→∃ g' w' es,stepG P false g w=.go g' w' es ∧
   ((w'=w∧es=#[]∧Ends P b n d g')∨(w'=w∧d=0∧es=#[mkE (.releaseMerge (stZ b))]∧Ends P b n 0 g')∨(w'=w∧d=0∧es=#[mkE .disable]∧Ends P b n 1 g') ∨
    (d=1∧w'=w.setCell (stZ b) (.int .u64 ((v:Int) * KK+wt))∧es=#[rdE (stZ b),wrE (stZ b)]∧((v=0∧wt=1)→Lasts P b n false g')∧(¬ (v=0∧wt=1)→QuitsD P n 1 g')))
def cnt (E:Env) (n b:Nat):Nat:=sumTo n fun i=>if E.wg i=some b then 1 else 0
def stv (E:Env) (n b:Nat):Int:=((cnt E n b+E.ex b:Nat):Int) * KK+(if E.mode b=1∨E.mode b=2 then 1 else 0)
def smv (E:Env) (b:Nat):Int:=if E.mode b=4 then 1 else 0
def Idle (P:Program) (E:Env) (T:Trace) (i n:Nat) (g:Goroutine):Prop:=match E.role i with
 | .seat c home=>Sits P (i == 0) (E.St i) c home n g
 | .ender b=>0 < i∧Ends P b n (Deaf T i) g∧E.wg i=some b
 | .last b f=>0 < i∧Lasts P b n f g∧Deaf T i=1∧E.W b=true∧E.mode b=(if f then 3 else 2)∧E.wg i=none
 | .gone=>0 < i∧QuitsD P n (Deaf T i) g∧E.wg i=none
def Role.sits:Role→Bool
 | .seat ..=>true
 | _=>false
def ShZ (W:Nat→Bool) (l:Loc):Prop:=∃ a,l=.cell a∧W a.block=true∧1≤a.off
def StZ (E:Env) (i:Nat) (l:Loc):Prop:=∃ a,l=.cell a∧(E.St i a).isSome=true
def MemZ (E:Env) (h n:Nat) (i:Nat):Prop:=i=h∨(i < n∧(E.role i).sits=true)
def LooseZ (E:Env) (h n:Nat) (i:Nat):Prop:=i≠h∧i < n∧(E.role i).sits=true
structure Co (P:Program) (E:Env) (h dh:Nat) (T:Trace) (gs:Array Goroutine) (w:World) (q:Nat→Nat):Prop where
 lt:h < gs.size
 idle:∀ i g,i≠h→gs[i]?=some g→Idle P E T i (q i) g
 chans:∀ i c home,i≠h→i < gs.size→E.role i=.seat c home→∃ k,w.heap[c]?=some (.chan 0 #[] false k k false)
 inj:∀ i i' c home home',i≠h→i'≠h→i < gs.size→i' < gs.size→E.role i=.seat c home→E.role i'=.seat c home'→i=i'
 above:∀ j,gs.size≤j→Deaf T j=0
 keep:∀ i,KS (E.St i) w
 dis:∀ i a,(E.St i a).isSome=true→E.W a.block=false
 fit:Fit E.H E.W w
 hidS:∀ i a,(E.St i a).isSome=true→∃ n,E.H a.block=some n∧n≤a.off
 hidC:∀ i c home,E.role i=.seat c home→E.H c=some 0
 past:PastZ (ShZ E.W) (StZ E) (MemZ E h gs.size) (LooseZ E h gs.size) w.heap.size h dh T
 wgW:∀ i b,i < gs.size→E.wg i=some b→E.W b=true
 fresh:∀ i,gs.size≤i→E.role i=.gone∧E.wg i=none∧∀ a,E.St i a=none
 groups:∀ b,E.W b=true→GroupAt b w (stv E gs.size b) (smv E b)
 few:∀ b,E.W b=true→cnt E gs.size b+E.ex b≤1000
 modes:∀ b,E.W b=true→E.mode b≤4∧(E.mode b=1→1≤cnt E gs.size b+E.ex b)∧(2≤E.mode b→cnt E gs.size b+E.ex b=0)
 lastEx:∀ b,E.W b=true→(E.mode b=2∨E.mode b=3)→∃ i f,i≠h∧i < gs.size∧E.role i=.last b f
 zero:∀ b,E.W b=false→E.ex b=0∧E.mode b=0
 one:∀ i i' b f f',i≠h→i'≠h→i < gs.size→i' < gs.size→E.role i=.last b f→E.role i'=.last b f'→i=i'
 io:SameIo E.io w
section
variable {P:Program} {E:Env} {h dh:Nat} {T:Trace} {gs:Array Goroutine} {w:World} {q:Nat→Nat}
theorem KS.mono {S S':Addr→Option Value} (hS:∀ a v,S a=some v→S' a=some v) {w:World} (h:KS S' w):KS S w:=fun a v e=>h a v (hS a v e)
theorem EvS.mono {S S':Addr→Option Value} (hS:∀ a v,S a=some v→S' a=some v) {e:Event} (h:EvS S e):EvS S' e:=by
 obtain ⟨a,rfl,h⟩:=h
 obtain ⟨v,hv⟩:=Option.isSome_iff_exists.1 h
 exact ⟨a,rfl,by rw [hS a v hv]; rfl⟩
theorem AtSeat.mono {S S':Addr→Option Value} (hS:∀ a v,S a=some v→S' a=some v) {main:Bool} {c:Nat} {home:Goroutine→Prop} {g g₂:Goroutine} (h:AtSeat P main S c home g g₂):AtSeat P main S' c home g g₂:=by
 obtain ⟨h1,h2,h3,h4,h5,es,h6,h7⟩:=h
 exact ⟨h1,h2,h3,h4,h5,es,fun e he=>(h6 e he).mono hS,fun w hw=>h7 w (hw.mono hS)⟩
theorem sits_goes_mono {S S':Addr→Option Value} (hS:∀ a v,S a=some v→S' a=some v) {main:Bool} {c:Nat} {home:Goroutine→Prop}:∀ {k:Nat} {g:Goroutine} {w:World},
  Goes P main (fun _ w₁=>KS S w₁) (fun w w' es=>w'=w∧∀ e ∈ es,EvS S e) (fun g _=>∃ g₂,AtSeat P main S c home g g₂) k g w→Goes P main (fun _ w₁=>KS S' w₁) (fun w w' es=>w'=w∧∀ e ∈ es,EvS S' e) (fun g _=>∃ g₂,AtSeat P main S' c home g g₂) k g w
 | 0,g,w,h=>fun w₁ h1=>(h w₁ (h1.mono hS)).imp fun _ x=>x.mono hS
 | k+1,g,w,h=>by
   rcases h with h | ⟨hs,h⟩
   ·exact .inl fun w₁ h1=>(h w₁ (h1.mono hS)).imp fun _ x=>x.mono hS
   ·refine .inr ⟨hs,fun w₁ h1=>?_⟩
    have:=h w₁ (h1.mono hS)
    cases hg:stepG P main g w₁ with
    | go g' w' es =>
      rw [hg,goes_go] at this
      exact ⟨⟨this.1.1,fun e he=>(this.1.2 e he).mono hS⟩,sits_goes_mono hS this.2⟩
    | _=>rw [hg] at this; exact this.elim
theorem Sits.mono {S S':Addr→Option Value} (hS:∀ a v,S a=some v→S' a=some v) {main:Bool} {c n:Nat} {home:Goroutine→Prop} {g:Goroutine} (h:Sits P main S c home n g):Sits P main S' c home n g:=by
 rcases h with ⟨k,w,e,h⟩ | ⟨e,g₀,g₂,e2,h⟩
 ·exact .inl ⟨k,w,e,sits_goes_mono hS h⟩
 ·exact .inr ⟨e,g₀,g₂,e2,h.mono hS⟩
theorem Sits.status {S:Addr→Option Value} {main:Bool} {c n:Nat} {home:Goroutine→Prop} {g:Goroutine} {w:World} (hK:KS S w) (h:Sits P main S c home n g):(g.status=.running∧0 < n)∨(g.status=.blocked∧n=0):=by
 rcases h with ⟨k,w₀,rfl,hg⟩ | ⟨rfl,_,g₂,rfl,_⟩
 ·refine .inl ⟨?_,by omega⟩
  cases k with
  | zero=>exact (hg w hK).choose_spec.1
  | succ k=>exact hg.elim (fun x=>(x w hK).choose_spec.1) (·.1)
 ·exact .inr ⟨rfl,rfl⟩
theorem Sits.again {S:Addr→Option Value} {main:Bool} {c n:Nat} {home:Goroutine→Prop} {g:Goroutine} {w w':World} (hK:KS S w) (h:Sits P main S c home n g) (hc:∃ cap buf a b tm,w'.heap[c]?=some (.chan cap buf false a b tm)):g.again w'=g:=by
 rcases h with ⟨k,w₀,rfl,hg⟩ | ⟨rfl,_,g₂,rfl,_⟩
 ·exact again_of_running (.inl ((Sits.status hK (.inl ⟨k,w₀,rfl,hg⟩)).elim (·.1) (fun x=>by omega))) w'
 ·obtain ⟨cap,buf,a,b,tm,hc⟩:=hc
  exact again_recv_open hc
theorem Lasts.status {b n:Nat} {f:Bool} {g:Goroutine} (h:Lasts P b n f g):g.status=.running:=by
 cases n with
 | zero=>exact h.elim
 | succ n=>cases f <;> exact h.1
theorem Ends.status {b n d:Nat} {g:Goroutine} (h:Ends P b n d g):g.status=.running:=by
 cases n with
 | zero=>exact h.elim
 | succ n=>exact h.1
theorem Co.idle_status (C:Co P E h dh T gs w q) {i:Nat} {g:Goroutine} (hi:i≠h) (hg:gs[i]?=some g):(g.status=.running∨g.status=.finished)∨∃ c home g₂,E.role i=.seat c home∧g=parked g₂ #[rcase c (.bool false)] (.recv false):=by
 have hid:=C.idle i g hi hg
 unfold Idle at hid
 cases hr:E.role i with
 | seat c home =>
   rw [hr] at hid
   rcases hid with ⟨k,w₀,e,hG⟩ | ⟨_,_,g₂,rfl,_⟩
   ·exact .inl (.inl ((Sits.status (C.keep i) (.inl ⟨k,w₀,e,hG⟩)).elim (·.1) (fun x=>by omega)))
   ·exact .inr ⟨c,home,g₂,rfl,rfl⟩
 | ender b=>rw [hr] at hid; exact .inl (.inl hid.2.1.status)
 | last b f=>rw [hr] at hid; exact .inl (.inl hid.2.1.status)
 | gone=>rw [hr] at hid; exact .inl hid.2.1.status
theorem Co.awake (C:Co P E h dh T gs w q) {a:Goroutine} (ha:gs[h]?=some a) (hs:a.status=.running∨a.status=.blocked):∀ g ∈ gs,awake g:=by
 intro g hg
 obtain ⟨i,hi,rfl⟩:=Array.mem_iff_getElem.1 hg
 by_cases e:i=h
 ·subst e
  have:gs[i]=a:=by simpa [Array.getElem?_eq_getElem hi] using ha
  rw [this]; exact awake_of (hs.elim .inl fun x=>.inr (.inl x))
 ·rcases C.idle_status e (Array.getElem?_eq_getElem hi) with (x | x) | ⟨_,_,g₂,_,x⟩
  ·exact awake_of (.inl x)
  ·exact awake_of (.inr (.inr x))
  ·rw [x]; exact awake_of (.inr (.inl rfl))
theorem Co.chan_notW (C:Co P E h dh T gs w q) {c k:Nat} {o:Obj} (hc:w.heap[c]?=some o) (ho:∀ cs e f,o≠.cells cs e f):E.W c=false:=by
 cases hw:E.W c with
 | false=>rfl
 | true =>
   obtain ⟨x,e,hx⟩:=C.groups c hw
   rw [hx] at hc
   cases hc
   exact absurd rfl (ho _ _ _)
theorem Co.fixed (C:Co P E h dh T gs w q) {x:Nat} {y:Goroutine} (hx:x≠h) (hy:gs[x]?=some y) {w':World} (hA:∀ c,E.W c=false→w'.heap[c]?=w.heap[c]?):y.again w'=y:=by
 have hlt:=(Array.getElem?_eq_some_iff.1 hy).1
 rcases C.idle_status hx hy with z | ⟨c,home,g₂,hr,rfl⟩
 ·exact again_of_running z w'
 ·obtain ⟨k,hk⟩:=C.chans x c home hx hlt hr
  have hw:=C.chan_notW (k:=0) hk (by intro cs e f hh; cases hh)
  exact again_recv_open (hk ▸ hA c hw)
theorem Co.noSend (C:Co P E h dh T gs w q) {x:Nat} {y:Goroutine} (hx:x≠h) (hy:gs[x]?=some y) (c:Nat):offersAt y c true=[]:=by
 rcases C.idle_status hx hy with z | ⟨c',home,g₂,hr,rfl⟩
 ·exact offersAt_of_not_blocked (fun hb=>by rcases z with z | z <;> rw [z] at hb <;> cases hb) c true
 ·exact offersAt_parked_recv' ..
theorem Co.noRecvAt (C:Co P E h dh T gs w q) {x:Nat} {y:Goroutine} (hx:x≠h) (hy:gs[x]?=some y) {c:Nat} (hc:∀ home,E.role x≠.seat c home):offersAt y c false=[]:=by
 rcases C.idle_status hx hy with z | ⟨c',home,g₂,hr,rfl⟩
 ·exact offersAt_of_not_blocked (fun hb=>by rcases z with z | z <;> rw [z] at hb <;> cases hb) c false
 ·rw [offersAt_parked_recv,if_neg (fun e=>by subst e; exact hc home hr)]
end
theorem heap_setCell_run {w:World} {b:Nat} {x:Value} {st sm:Int} {e:TypeId} (h:w.heap[b]?=some (runObj x st sm e)) (st':Int):(w.setCell (stZ b) (.int .u64 st')).heap[b]?=some (runObj x st' sm e):=by
 simp [World.setCell,stZ,Array.getElem?_modify,h,runObj]
theorem heap_setCell_sem {w:World} {b:Nat} {x:Value} {st sm:Int} {e:TypeId} (h:w.heap[b]?=some (runObj x st sm e)) (sm':Int):(w.setCell (smZ b) (.int .u32 sm')).heap[b]?=some (runObj x st sm' e):=by
 simp [World.setCell,smZ,Array.getElem?_modify,h,runObj]
theorem heap_setCell_ne {w:World} {a:Addr} {v:Value} {b:Nat} (h:a.block≠b):(w.setCell a v).heap[b]?=w.heap[b]?:=by
 simp [World.setCell,Array.getElem?_modify,h]
theorem GroupAt.same {b:Nat} {w w':World} {st sm:Int} (h:GroupAt b w st sm) (he:w'.heap[b]?=w.heap[b]?):GroupAt b w' st sm:=by
 obtain ⟨x,e,h1⟩:=h
 exact ⟨x,e,he ▸ h1⟩
theorem aw_set {W:Nat→Bool} {w:World} {b:Nat} {st sm:Int} (h:GroupAt b w st sm) (hW:W b=true) (v:Value) {a:Addr} (ha:a=stZ b∧(∃ s,v=.int .u64 s)∨a=smZ b∧∃ s,v=.int .u32 s):Aw W w (w.setCell a v):=by
 have hb:a.block=b:=by rcases ha with ⟨rfl,_⟩ | ⟨rfl,_⟩ <;> rfl
 refine ⟨rfl,rfl,rfl,by simp [World.setCell],fun c hc=>heap_setCell_ne (fun e=>by rw [← e,hb,hW] at hc; cases hc),fun c hc x st sm e hx=>?_⟩
 by_cases hcb:b=c
 ·subst hcb
  rcases ha with ⟨rfl,s,rfl⟩ | ⟨rfl,s,rfl⟩
  ·exact ⟨_,_,heap_setCell_run hx _⟩
  ·exact ⟨_,_,heap_setCell_sem hx _⟩
 ·exact ⟨st,sm,by rw [heap_setCell_ne (by rw [hb]; exact hcb)]; exact hx⟩
theorem cnt_drop {E E':Env} {n b i:Nat} (hi:i < n) (h:∀ x,x≠i→E'.wg x=E.wg x) (h1:E.wg i=some b) (h2:E'.wg i=none):cnt E' n b+1=cnt E n b:=by
 have e:cnt E' n b=sumTo n fun a=>(fun o:Option Nat=>if o=some b then 1 else 0) (upd E.wg i none a):=sumTo_congr fun a _=>by
  by_cases ha:a=i
  ·subst ha; rw [upd_same,h2]
  ·rw [upd_ne _ _ ha,h a ha]
 have:=sumTo_upd E.wg none (fun o:Option Nat=>if o=some b then 1 else 0) hi
 rw [e]
 simp only [h1,if_true] at this
 simp only [reduceCtorEq,if_false] at this
 unfold cnt
 omega
theorem cnt_drop_ne {E E':Env} {n b c i:Nat} (h:∀ x,x≠i→E'.wg x=E.wg x) (h1:E.wg i=some b) (h2:E'.wg i=none) (hc:c≠b):cnt E' n c=cnt E n c:=sumTo_congr fun a _=>by
 by_cases ha:a=i
 ·subst ha; rw [h1,h2]; simp; exact fun e=>hc e.symm
 ·rw [h a ha]
theorem cell_same {w w':World} {a:Addr} (h:w'.heap[a.block]?=w.heap[a.block]?):w'.cell? a=w.cell? a:=by
 unfold World.cell?; rw [h]
theorem KS.aw {S:Addr→Option Value} {W:Nat→Bool} {w w':World} (hd:∀ a,(S a).isSome=true→W a.block=false) (hA:Aw W w w') (h:KS S w):KS S w':=fun a v e=>by
 rw [cell_same (hA.heap _ (hd a (by rw [e]; rfl)))]
 exact h a v e
section
variable {P:Program} {E:Env} {h dh:Nat} {T:Trace} {gs:Array Goroutine} {w:World} {q:Nat→Nat}
theorem idle_other {E':Env} {ops:Array MemOp} {i x n:Nat} {y:Goroutine} (hx:x≠i) (hops:∀ op ∈ ops,op.g=i) (hr:E'.role x=E.role x) (hS:E'.St x=E.St x) (hwg:E'.wg x=E.wg x) (hW:∀ b,E.W b=true→E'.W b=true) (hm:∀ b f,E.role x=.last b f→E'.mode b=E.mode b)
  (h:Idle P E T x n y):Idle P E' (T ++ ops) x n y:=by
 unfold Idle at h ⊢
 rw [hr]
 have hD:Deaf (T ++ ops) x=Deaf T x:=Deaf_other T (fun z=>hx z.symm) ops hops
 cases e:E.role x with
 | seat c home=>rw [e] at h; simp only at h ⊢; rw [hS]; exact h
 | ender b=>rw [e] at h; simp only at h ⊢; rw [hD,hwg]; exact h
 | last b f=>rw [e] at h; simp only at h ⊢; rw [hD,hm b f e,hwg]; exact ⟨h.1,h.2.1,h.2.2.1,hW b h.2.2.2.1,h.2.2.2.2⟩
 | gone=>rw [e] at h; simp only at h ⊢; rw [hD,hwg]; exact h
theorem cnt_le {E':Env} {n b:Nat} (h:∀ x,E'.wg x=E.wg x∨E'.wg x=none):cnt E' n b≤cnt E n b:=by
 unfold cnt
 induction n with
 | zero=>exact Nat.le_refl _
 | succ n ih =>
   simp only [sumTo]
   rcases h n with e | e <;> rw [e]
   ·omega
   ·simp only [reduceCtorEq,if_false]; omega
theorem Co.put (C:Co P E h dh T gs w q) {E':Env} {i n':Nat} {g':Goroutine} {ops:Array MemOp} {gs':Array Goroutine} {w':World} (hih:i≠h) (hlt:i < gs.size) (hsz:gs'.size=gs.size) (hother:∀ x,x≠i→x≠h→gs'[x]?=gs[x]?) (hself:gs'[i]?=some g')
  (hops:∀ op ∈ ops,op.g=i) (hA:Aw E.W w w') (hr:∀ x,x≠i→E'.role x=E.role x) (hS:E'.St=E.St) (hwg:∀ x,x≠i→E'.wg x=E.wg x) (hW:E'.W=E.W) (hH:E'.H=E.H) (hex:E'.ex=E.ex)
  (hlast:∀ x b f,x≠i→x≠h→x < gs.size→E.role x=.last b f→E'.mode b=E.mode b) (hseat:E'.role i=E.role i∨((E'.role i).sits=false∧(E.role i).sits=false)) (hwgi:E'.wg i=E.wg i∨E'.wg i=none)
  (hidle:Idle P E' (T ++ ops) i n' g') (hgroups:∀ b,E.W b=true→GroupAt b w' (stv E' gs.size b) (smv E' b)) (hmodes:∀ b,E.W b=true→E'.mode b≤4∧(E'.mode b=1→1≤cnt E' gs.size b+E.ex b)∧(2≤E'.mode b→cnt E' gs.size b+E.ex b=0))
  (hlastEx:∀ b,E.W b=true→(E'.mode b=2∨E'.mode b=3)→∃ i f,i≠h∧i < gs.size∧E'.role i=.last b f) (hzero:∀ b,E.W b=false→E'.mode b=E.mode b)
  (hone:∀ b f,E'.role i=.last b f→∀ x f',x≠i→x≠h→x < gs.size→E.role x≠.last b f')
  (hpast:PastZ (ShZ E.W) (StZ E) (MemZ E h gs.size) (LooseZ E h gs.size) w.heap.size h dh (T ++ ops)) (hio:E'.io=E.io:=by rfl):Co P E' h dh (T ++ ops) gs' w' (upd q i n'):=by
 have hs:∀ x,(E'.role x).sits=(E.role x).sits:=fun x=>by
  by_cases e:x=i
  ·subst e
   rcases hseat with z | ⟨z1,z2⟩
   ·rw [z]
   ·rw [z1,z2]
  ·rw [hr x e]
 have hwall:∀ x,E'.wg x=E.wg x∨E'.wg x=none:=fun x=>by
  by_cases e:x=i
  ·subst e; exact hwgi
  ·exact .inl (hwg x e)
 have hsame:∀ x c home,E'.role x=.seat c home→E.role x=.seat c home:=fun x c home e=>by
  by_cases ex:x=i
  ·subst ex
   rcases hseat with z | ⟨z1,z2⟩
   ·rw [← z]; exact e
   ·rw [e] at z1; cases z1
  ·rw [← hr x ex]; exact e
 refine ⟨by rw [hsz]; exact C.lt,fun x y hx hy=>?_,fun x c home hx hl e=>?_,fun x x' c home home' hx hx' hl hl' e e'=>C.inj x x' c home home' hx hx' (hsz ▸ hl) (hsz ▸ hl') (hsame _ _ _ e) (hsame _ _ _ e'),fun j hj=>?_,fun x=>?_,fun x a=>?_,by rw [hH,hW]; exact C.fit.aw hA,fun x a=>by rw [hS,hH]; exact C.hidS x a,fun x c home e=>by rw [hH]; exact C.hidC x c home (hsame _ _ _ e),?_,fun x b hl e=>?_,fun x hx=>?_,fun b hb=>?_,fun b hb=>?_,fun b hb=>?_,fun b hb=>by rw [hW] at hb; rw [hsz]; exact hlastEx b hb,fun b hb=>by rw [hW] at hb; rw [hex,hzero b hb]; exact C.zero b hb,fun x x' b f f' hx hx' hl hl' e e'=>?_,by rw [hio]; exact C.io.trans ⟨hA.os,hA.output⟩⟩
 ·by_cases e:x=i
  ·subst e
   rw [hself] at hy
   obtain rfl:=Option.some.inj hy
   rw [upd_same]; exact hidle
  ·rw [hother x e hx] at hy
   rw [upd_ne q n' e]
   have hl:=(Array.getElem?_eq_some_iff.1 hy).1
   exact idle_other e hops (hr x e) (by rw [hS]) (hwg x e) (fun b hb=>by rw [hW]; exact hb) (fun b f z=>hlast x b f e hx hl z) (C.idle x y hx hy)
 ·obtain ⟨k,hk⟩:=C.chans x c home hx (hsz ▸ hl) (hsame _ _ _ e)
  refine ⟨k,?_⟩
  rw [hA.heap c (C.chan_notW (k:=0) hk (by intro cs e f hh; cases hh))]
  exact hk
 ·rw [hsz] at hj
  rw [Deaf_other T (g':=i) (by omega) ops hops]
  exact C.above j hj
 ·rw [hS]
  exact (C.keep x).aw (C.dis x) hA
 ·rw [hS,hW]; exact C.dis x a
 ·have e1:StZ E'=StZ E:=by unfold StZ; rw [hS]
  have e2:MemZ E' h gs'.size=MemZ E h gs.size:=by unfold MemZ; rw [hsz]; simp only [hs]
  have e3:LooseZ E' h gs'.size=LooseZ E h gs.size:=by unfold LooseZ; rw [hsz]; simp only [hs]
  rw [e1,e2,e3,hW,hA.size]
  exact hpast
 ·rw [hW]
  rcases hwall x with z | z
  ·rw [z] at e; exact C.wgW x b (hsz ▸ hl) e
  ·rw [z] at e; cases e
 ·rw [hsz] at hx
  have hxi:x≠i:=by omega
  rw [hr x hxi,hwg x hxi,hS]
  exact C.fresh x hx
 ·rw [hW] at hb; rw [hsz]; exact hgroups b hb
 ·rw [hW] at hb; rw [hsz,hex]
  have:=cnt_le (E:=E) (E':=E') (n:=gs.size) (b:=b) hwall
  have:=C.few b hb
  omega
 ·rw [hW] at hb; rw [hsz,hex]; exact hmodes b hb
 ·rw [hsz] at hl hl'
  by_cases ex:x=i
  ·by_cases ex':x'=i
   ·rw [ex,ex']
   ·subst ex
    rw [hr x' ex'] at e'
    exact absurd e' (hone b f e x' f' ex' hx' hl')
  ·by_cases ex':x'=i
   ·subst ex'
    rw [hr x ex] at e
    exact absurd e (hone b f' e' x f ex hx hl)
   ·rw [hr x ex] at e; rw [hr x' ex'] at e'
    exact C.one x x' b f f' hx hx' hl hl' e e'
end
structure Env.Le (h:Nat) (E E':Env):Prop where
 seat:∀ x c home,E.role x=.seat c home ↔ E'.role x=.seat c home
 gone:∀ x,E.role x=.gone→E'.role x=.gone
 roleH:E'.role h=E.role h
 St:∀ x a v,E.St x a=some v→E'.St x a=some v
 W:∀ b,E.W b=true→E'.W b=true
 H:∀ b n,E.H b=some n→E'.H b=some n
 wg:∀ x b,E'.wg x=some b→E.wg x=some b
 wgH:E'.wg h=E.wg h
 wgS:∀ x,(E.role x).sits=true→E'.wg x=E.wg x
 ex:E'.ex=E.ex
 mode:∀ b,E.mode b=0→E'.mode b=0
 modeUp:∀ b,E.mode b≤E'.mode b
 io:E'.io=E.io
theorem Env.Le.refl (h:Nat) (E:Env):E.Le h E:=⟨fun _ _ _=>Iff.rfl,fun _ e=>e,rfl,fun _ _ _ e=>e,fun _ e=>e,fun _ _ e=>e,fun _ _ e=>e,rfl,fun _ _=>rfl,rfl,fun _ e=>e,fun _=>Nat.le_refl _,rfl⟩
theorem Env.Le.sits {h:Nat} {E E':Env} (k:E.Le h E') (x:Nat):(E'.role x).sits=(E.role x).sits:=by
 cases e:E.role x with
 | seat c home=>rw [(k.seat x c home).1 e]
 | _ =>
   cases e':E'.role x with
   | seat c home=>have:=(k.seat x c home).2 e'; rw [e] at this; cases this
   | _=>rfl
theorem Env.Le.trans {h:Nat} {E E' E'':Env} (a:E.Le h E') (b:E'.Le h E''):E.Le h E'' :=
 ⟨fun x c home=>(a.seat x c home).trans (b.seat x c home),fun x e=>b.gone x (a.gone x e),b.roleH.trans a.roleH,fun x ad v e=>b.St x ad v (a.St x ad v e),fun x e=>b.W x (a.W x e),fun x n e=>b.H x n (a.H x n e),fun x g e=>a.wg x g (b.wg x g e),b.wgH.trans a.wgH,fun x e=>(b.wgS x (by rw [a.sits]; exact e)).trans (a.wgS x e),b.ex.trans a.ex,fun x e=>b.mode x (a.mode x e),fun x=>Nat.le_trans (a.modeUp x) (b.modeUp x),b.io.trans a.io⟩
section
variable {P:Program} {E:Env} {h dh:Nat} {T:Trace} {gs:Array Goroutine} {w:World} {q:Nat→Nat}
def After1 (P:Program) (E:Env) (h dh:Nat) (T:Trace) (gs:Array Goroutine) (w:World) (q:Nat→Nat) (sl:Option (Nat × Nat)) (i:Nat) (g:Goroutine):Prop :=
 ∃ (gs':Array Goroutine) (ops:Array MemOp) (w':World) (E':Env) (q':Nat→Nat),runT P (crowd gs w sl) i=(.next (crowd gs' w' sl),ops)∧gs'.size=gs.size∧(gs'[h]?=gs[h]?∨gs'[h]?=(gs[h]?).map (·.again w')) ∧
  (∀ x,x≠i→x≠h→gs'[x]?=gs[x]?)∧(∀ x,x≠i→q' x=q x)∧Aw E.W w w'∧E.Le h E'∧Co P E' h dh (T ++ ops) gs' w' q'∧sumTo gs.size q' < sumTo gs.size q ∧
  (∀ c home,E.role i=.seat c home→q' i=0→∃ g₂,AtSeat P (i == 0) (E.St i) c home g g₂)∧(∀ b,E'.mode b=E.mode b∨(1≤E.mode b∧E'.mode b=E.mode b+1))∧((∃ b,E.mode b=3∧E'.mode b=4)→gs'[h]?=(gs[h]?).map (·.again w'))∧E'.W=E.W∧E'.St=E.St∧E'.H=E.H
theorem sum_less {n i k:Nat} (hi:i < n) (hq:q i=k+1):sumTo n (upd q i k) < sumTo n q:=by
 have:=sumTo_upd q k id hi
 change sumTo n (upd q i k)+q i=sumTo n q+k at this
 rw [hq] at this
 omega
theorem own_step (C:Co P E h dh T gs w q) {i:Nat} {g g':Goroutine} {w':World} {es:Array Event} {sl:Option (Nat × Nat)} (hi:gs[i]?=some g) (hih:i≠h) (hst:stepG P (i == 0) g w=.go g' w' es) (hA:Aw E.W w w') :
  ∃ gs',runT P (crowd gs w sl) i=(.next (crowd gs' w' sl),MemOp.ofEvents i g.frame.fn g.frame.place es)∧gs'.size=gs.size∧(gs'[h]?=gs[h]?∨gs'[h]?=(gs[h]?).map (·.again w'))∧(∀ x,x≠i→x≠h→gs'[x]?=gs[x]?)∧gs'[i]?=some g' ∧
   (mayWake P g=true→g'.status≠.blocked→g'.status≠.waiting→gs'[h]?=(gs[h]?).map (·.again w')):=by
 have hlt:i < gs.size:=(Array.getElem?_eq_some_iff.1 hi).1
 have hsame:((gs.map (woken P g g' w')).setIfInBounds i g')[h]?=(gs[h]?).map (woken P g g' w'):=by
  rw [Array.getElem?_setIfInBounds_ne hih,Array.getElem?_map]
 refine ⟨_,runT_crowd_go (sl:=sl) hi hst,by simp,?_,fun x hx hxh=>?_,Array.getElem?_setIfInBounds_self_of_lt (by simpa using hlt),fun hm h1 h2=>?_⟩
 ·rw [hsame]
  cases e:gs[h]? with
  | none=>exact .inl rfl
  | some y =>
    simp only [Option.map_some]
    unfold woken
    split
    ·exact .inr rfl
    ·exact .inl rfl
 ·rw [Array.getElem?_setIfInBounds_ne (fun e=>hx e.symm),Array.getElem?_map]
  cases e:gs[x]? with
  | none=>rfl
  | some y=>rw [Option.map_some,woken_of_again (C.fixed hxh e hA.heap)]
 ·rw [hsame]
  cases e:gs[h]? with
  | none=>rfl
  | some y=>simp [woken,hm,h1,h2]
theorem ofE_g {i:Nat} {fn:FuncId} {pos:String} {es:Array Event}:∀ op ∈ MemOp.ofEvents i fn pos es,op.g=i:=fun op hop=>by obtain ⟨e,_,rfl⟩:=Go.Conc.mem_ofEvents hop; rfl
theorem Co.memNot (C:Co P E h dh T gs w q) {i:Nat} (hih:i≠h) (hs:(E.role i).sits=false):¬ MemZ E h gs.size i:=fun hm=>hm.elim hih fun x=>by rw [hs] at x; cases x.2
theorem Co.cnt_pos (C:Co P E h dh T gs w q) {i b:Nat} (hi:i < gs.size) (hw:E.wg i=some b):1≤cnt E gs.size b:=by
 have:=le_sumTo (f:=fun i=>if E.wg i=some b then 1 else 0) hi
 simp only [hw,if_true] at this
 exact this
theorem Co.step_still (C:Co P E h dh T gs w q) {i k:Nat} {g g':Goroutine} {es:Array Event} {sl:Option (Nat × Nat)} (hi:gs[i]?=some g) (hih:i≠h) (hs:(E.role i).sits=false) (hpos:0 < i) (hq:q i=k+1)
  (hst:stepG P false g w=.go g' w es) (hp:PastZ (ShZ E.W) (StZ E) (MemZ E h gs.size) (LooseZ E h gs.size) w.heap.size h dh (T ++ MemOp.ofEvents i g.frame.fn g.frame.place es))
  (hid:Idle P E (T ++ MemOp.ofEvents i g.frame.fn g.frame.place es) i k g'):After1 P E h dh T gs w q sl i g:=by
 have hlt:i < gs.size:=(Array.getElem?_eq_some_iff.1 hi).1
 have hi0:(i == 0)=false:=by simp; omega
 obtain ⟨gs',h1,h2,h3,h4,h5,_⟩:=own_step (sl:=sl) C hi hih (by rw [hi0]; exact hst) (Aw.refl _ _)
 refine ⟨gs',_,w,E,upd q i k,h1,h2,h3,h4,fun x hx=>upd_ne q k hx,Aw.refl _ _,Env.Le.refl _ _,?_,sum_less hlt hq,fun c home e=>(by rw [e] at hs; cases hs),fun _=>.inl rfl,fun ⟨b,e1,e2⟩=>(by rw [e1] at e2; cases e2),rfl,rfl,rfl⟩
 exact C.put hih hlt h2 h4 h5 ofE_g (Aw.refl _ _) (fun _ _=>rfl) rfl (fun _ _=>rfl) rfl rfl rfl (fun _ _ _ _ _ _ _=>rfl) (.inl rfl) (.inl rfl) hid C.groups C.modes C.lastEx (fun _ _=>rfl)
  (fun b f e x f' hx hxh hxl e'=>hx (C.one x i b f' f hxh hih hxl hlt e' e)) hp
theorem Co.step_gone (C:Co P E h dh T gs w q) {i:Nat} {g:Goroutine} {sl:Option (Nat × Nat)} (hi:gs[i]?=some g) (hih:i≠h) (hrun:g.status=.running) (hr:E.role i=.gone):After1 P E h dh T gs w q sl i g:=by
 have hid:=C.idle i g hih hi
 unfold Idle at hid
 rw [hr] at hid
 obtain ⟨hpos,hq,hwg⟩:=hid
 cases hqi:q i with
 | zero=>rw [hqi] at hq; rw [hq.1] at hrun; cases hrun
 | succ k =>
   rw [hqi] at hq
   rcases hq with ⟨hf,_⟩ | ⟨_,g',es,hm,hstp,hq'⟩
   ·rw [hf] at hrun; cases hrun
   ·refine C.step_still hi hih (by rw [hr]; rfl) hpos hqi (hstp w) (C.past.appMute hih ofE_g (fun op hop=>by obtain ⟨e,he,rfl⟩:=Go.Conc.mem_ofEvents hop; exact touch_mute (hm e he)) (fun hM=>absurd hM (C.memNot hih (by rw [hr]; rfl))) (fun op hop=>by obtain ⟨e,he,rfl⟩:=Go.Conc.mem_ofEvents hop; exact low_mute (hm e he) _)) ?_
    unfold Idle
    rw [hr]
    exact ⟨hpos,by rw [Deaf_own]; exact hq',hwg⟩
theorem stepped_seat (C:Co P E h dh T gs w q) {i:Nat} {g:Goroutine} {sl:Option (Nat × Nat)} (hi:gs[i]?=some g) (hih:i≠h) (hrun:g.status=.running) {c:Nat} {home:Goroutine→Prop} (hr:E.role i=.seat c home)
  (hO:∀ g₂,AtSeat P (i == 0) (E.St i) c home g g₂→∀ gh,gs[h]?=some gh→offersAt gh c true=[]):After1 P E h dh T gs w q sl i g:=by
 have hlt:i < gs.size:=(Array.getElem?_eq_some_iff.1 hi).1
 have hid:=C.idle i g hih hi
 unfold Idle at hid
 rw [hr] at hid
 simp only at hid
 have hM:MemZ E h gs.size i:=.inr ⟨hlt,by rw [hr]; rfl⟩
 have hL:LooseZ E h gs.size i:=⟨hih,hlt,by rw [hr]; rfl⟩
 have hdis:∀ g l,StZ E g l→¬ ShZ E.W l:=fun g l ⟨a,e,hs⟩ ⟨a',e',hw,_⟩=>by
  rw [e] at e'; cases e'
  rw [C.dis g a hs] at hw; cases hw
 have hops:∀ {es:Array Event},(∀ e ∈ es,EvS (E.St i) e)→(∀ op ∈ MemOp.ofEvents i g.frame.fn g.frame.place es,∀ b,op.act.touch?=some b→b.write=false∧StZ E i b.loc)∧(∀ op ∈ MemOp.ofEvents i g.frame.fn g.frame.place es,op.act.low w.heap.size) ∧
   Deaf (T ++ MemOp.ofEvents i g.frame.fn g.frame.place es) i=Deaf T i:=fun {es} hes=>by
  refine ⟨fun op hop b hb=>?_,fun op hop=>?_,?_⟩
  ·obtain ⟨e,he,rfl⟩:=Go.Conc.mem_ofEvents hop
   obtain ⟨a,rfl,hS⟩:=hes e he
   simp only [ofEvent_cell0,MemAct.touch?,Option.some.injEq] at hb
   subst hb
   exact ⟨rfl,a,rfl,hS⟩
  ·obtain ⟨e,he,rfl⟩:=Go.Conc.mem_ofEvents hop
   obtain ⟨a,rfl,hS⟩:=hes e he
   obtain ⟨v,hv⟩:=Option.isSome_iff_exists.1 hS
   rw [ofEvent_cell0]
   exact lt_of_cell (C.keep i a v hv)
  ·rw [Deaf_own]
   exact deafBehind_still (fun e he=>by obtain ⟨a,rfl,_⟩:=hes e he; exact ⟨by simp,by simp⟩) _
 obtain ⟨k,w₀,hqi,hg⟩:∃ k w₀,q i=k+1∧Goes P (i == 0) (fun _ w₁=>KS (E.St i) w₁) (fun w w' es=>w'=w∧∀ e ∈ es,EvS (E.St i) e) (fun g _=>∃ g₂,AtSeat P (i == 0) (E.St i) c home g g₂) k g w₀:=by
  rcases hid with hid | ⟨_,_,g₂,rfl,_⟩
  ·exact hid
  ·cases hrun
 have hcase:(∃ g₂,AtSeat P (i == 0) (E.St i) c home g g₂)∨∃ k' g' es,k=k'+1∧stepG P (i == 0) g w=.go g' w es∧(∀ e ∈ es,EvS (E.St i) e)∧Goes P (i == 0) (fun _ w₁=>KS (E.St i) w₁) (fun w w' es=>w'=w∧∀ e ∈ es,EvS (E.St i) e) (fun g _=>∃ g₂,AtSeat P (i == 0) (E.St i) c home g g₂) k' g' w:=by
  cases k with
  | zero=>exact .inl (hg w (C.keep i))
  | succ k' =>
    rcases hg with hstop | ⟨_,hstep⟩
    ·exact .inl (hstop w (C.keep i))
    ·have hs:=hstep w (C.keep i)
     cases hgo:stepG P (i == 0) g w with
     | go g' w' es =>
       rw [hgo,goes_go] at hs
       obtain ⟨⟨rfl,hes⟩,hG'⟩:=hs
       exact .inr ⟨k',g',es,rfl,rfl,hes,hG'⟩
     | _=>rw [hgo] at hs; exact hs.elim
 have hidle:∀ (u:Trace) (n:Nat) (g':Goroutine),Sits P (i == 0) (E.St i) c home n g'→Idle P E u i n g':=fun u n g' hx=>by unfold Idle; rw [hr]; exact hx
 rcases hcase with ⟨g₂,hat⟩ | ⟨k',g',es,rfl,hgo,hes,hG'⟩
 ·
  obtain ⟨_,_,_,_,_,es,hes,hstp⟩:=id hat
  obtain ⟨hr',hl,hd⟩:=hops hes
  obtain ⟨kk,hc⟩:=C.chans i c home hih hlt hr
  have hw:∀ cc ∈ #[rcase c (.bool false)],NoWays w (gs.setIfInBounds i ph) cc:=by
   intro cc hcc
   simp only [List.mem_toArray,List.mem_cons,List.not_mem_nil,or_false] at hcc
   subst hcc
   refine ways_recv_none hc (partners_nil fun x y hy=>?_)
   rcases getElem?_stand gs i x y hy with ⟨_,rfl⟩ | ⟨hx,hy'⟩
   ·exact offersAt_ph _ _
   ·by_cases hxh:x=h
    ·subst hxh; exact hO g₂ hat y hy'
    ·exact C.noSend hxh hy' _
  refine ⟨_,_,w,E,upd q i 0,crowd_waits (sl:=sl) hi (hstp w (C.keep i)) hw,by simp,.inl (Array.getElem?_setIfInBounds_ne hih),fun x hx _=>Array.getElem?_setIfInBounds_ne (fun z=>hx z.symm),fun x hx=>upd_ne q 0 hx,Aw.refl _ _,Env.Le.refl _ _,?_,?_,fun c' home' e _=>?_,fun _=>.inl rfl,fun ⟨b,e1,e2⟩=>(by rw [e1] at e2; cases e2),rfl,rfl,rfl⟩
  ·exact C.put hih hlt (by simp) (fun x hx _=>Array.getElem?_setIfInBounds_ne (fun z=>hx z.symm)) (Array.getElem?_setIfInBounds_self_of_lt hlt) ofE_g (Aw.refl _ _) (fun _ _=>rfl) rfl (fun _ _=>rfl) rfl rfl rfl (fun _ _ _ _ _ _ _=>rfl) (.inl rfl) (.inl rfl)
    (hidle _ _ _ (.inr ⟨rfl,g,g₂,rfl,hat⟩)) C.groups C.modes C.lastEx (fun _ _=>rfl) (fun b f e=>by rw [hr] at e; cases e) (C.past.appRead hdis hih hM hL ofE_g hr' hd hl)
  ·have h2:sumTo gs.size (upd q i 0)+q i=sumTo gs.size q+0:=by
    have:=sumTo_upd q 0 id hlt
    simpa using this
   rw [hqi] at h2
   omega
  ·rw [hr] at e; cases e; exact ⟨g₂,hat⟩
 ·obtain ⟨hr',hl,hd⟩:=hops hes
  obtain ⟨gs',h1,h2,h3,h4,h5,_⟩:=own_step (sl:=sl) C hi hih hgo (Aw.refl _ _)
  refine ⟨gs',_,w,E,upd q i (k'+1),h1,h2,h3,h4,fun x hx=>upd_ne q _ hx,Aw.refl _ _,Env.Le.refl _ _,?_,sum_less hlt hqi,fun c' home' _ e0=>(by rw [upd_same] at e0; omega),fun _=>.inl rfl,fun ⟨b,e1,e2⟩=>(by rw [e1] at e2; cases e2),rfl,rfl,rfl⟩
  exact C.put hih hlt h2 h4 h5 ofE_g (Aw.refl _ _) (fun _ _=>rfl) rfl (fun _ _=>rfl) rfl rfl rfl (fun _ _ _ _ _ _ _=>rfl) (.inl rfl) (.inl rfl)
   (hidle _ _ _ (.inl ⟨k',w,rfl,hG'⟩)) C.groups C.modes C.lastEx (fun _ _=>rfl) (fun b f e=>by rw [hr] at e; cases e) (C.past.appRead hdis hih hM hL ofE_g hr' hd hl)
end
end Go.Proofs.Ytimlbbleblijnaa.Co
