/- Lemmas for the laws of this seat, laid together of POk, POl, PGet, PHi. -/
import Derived.Test.YtimlbbleblijnaaX18
import Derived.Test.YtimlbbleblijnaaX19
import Derived.Test.YtimlbbleblijnaaX23
import Derived.Test.YtimlbbleblijnaaX29

set_option linter.unusedVariables false
set_option linter.unusedSimpArgs false
set_option maxRecDepth 100000
set_option maxHeartbeats 4000000
namespace Go.Proofs.Ytimlbbleblijnaa.Co
open Go Go.Conc Go.RowKit
open Go.ConcN (sumTo upd sumTo_upd upd_ne upd_same sumTo_congr le_sumTo)
def pwF:FuncId→Bool:=fun f=>f == 22 || f == 26 || f == 32 || f == 43 || f == 44 || f == 46 || f == 47 || f == 48 || f == 49 || f == 66 || f == 79
theorem closed_pw:Closed Try.prog pwF:=by
 refine ⟨fun f hf=>?_,fun f fn c hf hfn hb=>?_⟩
 ·have h:f=22∨f=26∨f=32∨f=43∨f=44∨f=46∨f=47∨f=48∨f=49∨f=66∨f=79:=by simpa [pwF,or_assoc] using hf
  rcases h with rfl | rfl | rfl | rfl | rfl | rfl | rfl | rfl | rfl | rfl | rfl
  ·exact ⟨Try.f22,Try.func22,by kernel_rfl,.inl (by rfl)⟩
  ·exact ⟨Try.f26,Try.func26,by kernel_rfl,.inl (by rfl)⟩
  ·exact ⟨Try.f32,Try.func32,by kernel_rfl,.inl (by rfl)⟩
  ·exact ⟨Try.f43,Try.func43,by kernel_rfl,.inl (by rfl)⟩
  ·exact ⟨Try.f44,Try.func44,by kernel_rfl,.inl (by rfl)⟩
  ·exact ⟨Try.f46,Try.func46,by kernel_rfl,.inl (by rfl)⟩
  ·exact ⟨Try.f47,Try.func47,by kernel_rfl,.inl (by rfl)⟩
  ·exact ⟨Try.f48,Try.func48,by kernel_rfl,.inl (by rfl)⟩
  ·exact ⟨Try.f49,Try.func49,by kernel_rfl,.inl (by rfl)⟩
  ·exact ⟨Try.f66,Try.func66,by kernel_rfl,.inl (by rfl)⟩
  ·exact ⟨Try.f79,Try.func79,by kernel_rfl,.inl (by rfl)⟩
 ·have h:f=22∨f=26∨f=32∨f=43∨f=44∨f=46∨f=47∨f=48∨f=49∨f=66∨f=79:=by simpa [pwF,or_assoc] using hf
  rcases h with rfl | rfl | rfl | rfl | rfl | rfl | rfl | rfl | rfl | rfl | rfl
  ·rw [Try.func22] at hfn
   obtain rfl:=Option.some.inj hfn
   have h2:Try.f22.body=some (Try.f22.body.getD .skip):=by rfl
   rw [h2] at hb
   obtain rfl:=Option.some.inj hb
   show quietCode Try.prog pwF (Try.f22.body.getD .skip)=true
   kernel_rfl
  ·rw [Try.func26] at hfn
   obtain rfl:=Option.some.inj hfn
   have h2:Try.f26.body=some (Try.f26.body.getD .skip):=by rfl
   rw [h2] at hb
   obtain rfl:=Option.some.inj hb
   show quietCode Try.prog pwF (Try.f26.body.getD .skip)=true
   kernel_rfl
  ·rw [Try.func32] at hfn
   obtain rfl:=Option.some.inj hfn
   have h2:Try.f32.body=some (Try.f32.body.getD .skip):=by rfl
   rw [h2] at hb
   obtain rfl:=Option.some.inj hb
   show quietCode Try.prog pwF (Try.f32.body.getD .skip)=true
   kernel_rfl
  ·rw [Try.func43] at hfn
   obtain rfl:=Option.some.inj hfn
   have h2:Try.f43.body=some (Try.f43.body.getD .skip):=by rfl
   rw [h2] at hb
   obtain rfl:=Option.some.inj hb
   show quietCode Try.prog pwF (Try.f43.body.getD .skip)=true
   kernel_rfl
  ·rw [Try.func44] at hfn
   obtain rfl:=Option.some.inj hfn
   have h2:Try.f44.body=some (Try.f44.body.getD .skip):=by rfl
   rw [h2] at hb
   obtain rfl:=Option.some.inj hb
   show quietCode Try.prog pwF (Try.f44.body.getD .skip)=true
   kernel_rfl
  ·rw [Try.func46] at hfn
   obtain rfl:=Option.some.inj hfn
   have h2:Try.f46.body=some (Try.f46.body.getD .skip):=by rfl
   rw [h2] at hb
   obtain rfl:=Option.some.inj hb
   show quietCode Try.prog pwF (Try.f46.body.getD .skip)=true
   kernel_rfl
  ·rw [Try.func47] at hfn
   obtain rfl:=Option.some.inj hfn
   have h2:Try.f47.body=some (Try.f47.body.getD .skip):=by rfl
   rw [h2] at hb
   obtain rfl:=Option.some.inj hb
   show quietCode Try.prog pwF (Try.f47.body.getD .skip)=true
   kernel_rfl
  ·rw [Try.func48] at hfn
   obtain rfl:=Option.some.inj hfn
   have h2:Try.f48.body=some (Try.f48.body.getD .skip):=by rfl
   rw [h2] at hb
   obtain rfl:=Option.some.inj hb
   show quietCode Try.prog pwF (Try.f48.body.getD .skip)=true
   kernel_rfl
  ·rw [Try.func49] at hfn
   obtain rfl:=Option.some.inj hfn
   have h2:Try.f49.body=some (Try.f49.body.getD .skip):=by rfl
   rw [h2] at hb
   obtain rfl:=Option.some.inj hb
   show quietCode Try.prog pwF (Try.f49.body.getD .skip)=true
   kernel_rfl
  ·rw [Try.func66] at hfn
   obtain rfl:=Option.some.inj hfn
   have h2:Try.f66.body=some (Try.f66.body.getD .skip):=by rfl
   rw [h2] at hb
   obtain rfl:=Option.some.inj hb
   show quietCode Try.prog pwF (Try.f66.body.getD .skip)=true
   kernel_rfl
  ·rw [Try.func79] at hfn
   obtain rfl:=Option.some.inj hfn
   have h2:Try.f79.body=some (Try.f79.body.getD .skip):=by rfl
   rw [h2] at hb
   obtain rfl:=Option.some.inj hb
   show quietCode Try.prog pwF (Try.f79.body.getD .skip)=true
   kernel_rfl
structure NumV (E:Env) (w:World) (e:TypeId) (v:Value) (ps:List Int):Prop where
 row:w.ownsRow 0 e 1 v ps.length (ps.map (Value.int .i64))
 H:∀ g,v.ownBlock=some g→E.H g=none
section
variable {E E' E1:Env} {w w' x x':World} {e:TypeId} {v:Value} {ps:List Int}
theorem NumV.but {S:Nat→Prop} (h:NumV E w e v ps) (hS:StandsBut S E w E' w') (hd:∀ g,v.ownBlock=some g→¬ S g):NumV E' w' e v ps:=by
 have k1:∀ g,v.ownBlock=some g→E'.H g=none∧w'.heap[g]?=w.heap[g]?:=fun g hg=>by
  have hl:=(h.row.lt g hg).2
  obtain ⟨s1,s2⟩:=hS g _ (hd g hg) (h.H g hg) (Array.getElem?_eq_getElem hl)
  exact ⟨s1,by rw [s2,Array.getElem?_eq_getElem hl]⟩
 exact ⟨ownsRow_same h.row fun g hg=>(k1 g hg).2,fun g hg=>(k1 g hg).1⟩
theorem NumV.stands (h:NumV E w e v ps) (S:Stands E w E' w'):NumV E' w' e v ps:=h.but (S:=fun _=>False) (fun b o _ h1 h2=>S b o h1 h2) (fun _ _ z=>z)
theorem NumV.toX (h:NumV E w e v ps) (hx:∀ b,E.H b=none→x.heap[b]?=w.heap[b]?):x.ownsRow 0 e 1 v ps.length (ps.map (Value.int .i64)):=ownsRow_same h.row fun g hg=>hx g (h.H g hg)
theorem NumV.of_new {B:Nat} (h:x'.ownsRow B e 1 v ps.length (ps.map (Value.int .i64))) (hn:∀ b,B≤b→E.H b=none) (hv:∀ b,E.H b=none→w'.heap[b]?=x'.heap[b]?) (hH:E1.H=E.H):NumV E1 w' e v ps :=
 ⟨owns_lower (ownsRow_same h fun g hg=>hv g (hn g (h.lt g hg).1)) (Nat.zero_le _),fun g hg=>by rw [hH]; exact hn g (h.lt g hg).1⟩
theorem NumV.lt (h:NumV E w e v ps):∀ g,v.ownBlock=some g→g < w.heap.size:=fun g hg=>(h.row.lt g hg).2
theorem nums_X (h:x.ownsRow 0 e 1 v ps.length (ps.map (Value.int .i64))):IntsX x v ps:=by
 obtain ⟨A,g,cap,e1,e2,_,e4⟩:=owns_cells h
 refine ⟨A,g,0,cap,e1,fun hne=>e2 (List.length_pos_iff.2 hne),fun i p hp=>?_⟩
 rw [Nat.zero_add]
 exact e4 i _ (by rw [List.getElem?_map,hp]; rfl)
theorem NumV.at (h:NumV E w e v ps):IntsAt E w v ps:=by
 obtain ⟨A,g,cap,e1,e2,e3,e4⟩:=owns_cells h.row
 refine ⟨⟨A,g,0,cap,e1,fun hne=>e2 (List.length_pos_iff.2 hne),fun i p hp=>?_⟩⟩
 have hl:=(List.getElem?_eq_some_iff.1 hp).1
 rw [Nat.zero_add]
 exact ⟨e4 i _ (by rw [List.getElem?_map,hp]; rfl),h.H g (e3 (by omega))⟩
end
def rWm (n:Int) (ts:List (List Op3)) (z:WA × Int):List Mk:=if n < 1∨1048576 < n∨8 < ts.length then [] else z.1.ms
def rWh (n:Int) (ts:List (List Op3)) (z:WA × Int):List Int:=if n < 1∨1048576 < n∨8 < ts.length then [] else (List.range n.toNat).map z.1.vs
theorem rung_k {A:Type} {G:Game A} {mu:A→Nat} (hmu:∀ a t k,mu (G.pick a t k)=mu a+1) {picks:List Int} {drain:Bool} {a0:A} {z:A × Int} (h:G.Run picks drain a0 z):z.2≤(picks.length:Int)+(mu z.1:Int):=by
 have hd:∀ {a z:A × Int} {x:Nat},G.Drn a x z→z.2 - a.2≤(mu z.1:Int) - (mu a.1:Int):=fun {a z x} h=>by
  induction h with
  | stop _=>omega
  | @go a x t z hn d ih =>
    have e:=hmu a.1 t (a.2+1)
    dsimp only at ih
    rw [e] at ih
    omega
 unfold Game.Run at h
 by_cases hn:G.n=0
 ·rw [if_pos hn] at h
  rw [h]
  dsimp only
  omega
 ·rw [if_neg hn] at h
  have hk:=picksg_k (G:=G) picks (a0,0)
  dsimp only at hk
  cases drain with
  | true =>
    simp only [if_true] at h
    have:=hd h
    omega
  | false =>
    simp only [Bool.false_eq_true,if_false] at h
    rw [h]
    omega
theorem wrun_len {n:Nat} {ts:List (List Op3)} {picks:List Int} {drain:Bool} {z:WA × Int} (h:(wordG n ts).Run picks drain (wa0 ts) z) (hn:ts.length≤8) (hll:∀ l ∈ ts,l.length≤10000000000):z.1.ms.length≤80000000000:=by
 have h1:=(linear_ok h).len
 have h2:=sumTo_bound (f:=lenOf ts) (B:=10000000000) ts.length (fun i hi=>by
  unfold lenOf
  rw [List.getElem?_eq_getElem hi]
  exact hll _ (List.getElem_mem hi))
 have h3:ts.length * 10000000000≤8 * 10000000000:=Nat.mul_le_mul_right _ hn
 omega
theorem wrun_k {n:Nat} {ts:List (List Op3)} {picks:List Int} {drain:Bool} {z:WA × Int} (h:(wordG n ts).Run picks drain (wa0 ts) z):z.2≤(picks.length:Int)+(z.1.ms.length:Int) :=
 rung_k (mu:=fun (a:WA)=>a.ms.length) (fun a t k=>by show (_ ++ [_]).length=_; rw [List.length_append]; rfl) h
theorem rWm_len {n:Int} {ts:List (List Op3)} {picks:List Int} {drain:Bool} {z:WA × Int} (h:(wordG n.toNat ts).Run picks drain (wa0 ts) z) (hll:∀ l ∈ ts,l.length≤10000000000):(rWm n ts z).length≤80000000000:=by
 unfold rWm
 by_cases h8:n < 1∨1048576 < n∨8 < ts.length
 ·rw [if_pos h8]; exact Nat.zero_le _
 ·rw [if_neg h8]; exact wrun_len h (by omega) hll
theorem rWh_len {n:Int} {ts:List (List Op3)} {z:WA × Int}:(rWh n ts z).length≤1048576:=by
 unfold rWh
 by_cases h8:n < 1∨1048576 < n∨8 < ts.length
 ·rw [if_pos h8]; exact Nat.zero_le _
 ·rw [if_neg h8,List.length_map,List.length_range]; omega
theorem rplayW_any {x:World} {n:Int} {ba bo cap pb po pcap:Nat} {ta pa:Option Addr} {LA:Nat→Option Addr} {LC:Nat→Nat} {ts:List (List Op3)} {picks:List Int} {drain:Bool} {z:WA × Int} (hz:(wordG n.toNat ts).Run picks drain (wa0 ts) z)
  (hT:OpsX x ta ba bo LA LC ts) (hpa:picks≠[]→pa=some ⟨pb,po,none⟩) (hps:∀ i p,picks[i]?=some p→x.cell? ⟨pb,po+i,none⟩=some (.int .i64 p)) (hnp:picks.length≤10000000000) (hll:∀ l ∈ ts,l.length≤10000000000) (hp64:∀ p ∈ picks,-9223372036854775808≤p∧p≤9223372036854775807) (ho64:∀ l ∈ ts,∀ op ∈ l,I64 op.1∧I64 op.2.1∧I64 op.2.2) :
  Calls Try.prog 44 #[.int .i64 n,.slice ta ts.length cap,.slice pa picks.length pcap,.bool drain] x fun e x'=>∃ mv hv,e=.returned (.tuple #[mv,hv])∧Below x.heap.size x x'∧x'.ownsRow x.heap.size 37 4 mv (rWm n ts z).length (mksV (rWm n ts z))∧x'.ownsRow x.heap.size 2 1 hv (rWh n ts z).length ((rWh n ts z).map (Value.int .i64)):=by
 unfold rWm rWh
 by_cases h:n < 1∨1048576 < n∨8 < ts.length
 ·rw [if_pos h,if_pos h]
  refine (rplayW_many h).mono ?_
  rintro e x' ⟨rfl,rfl⟩
  exact ⟨_,_,rfl,Below.refl _ _,⟨by simp [mksV],.inl ⟨rfl,rfl⟩⟩,⟨by simp,.inl ⟨rfl,rfl⟩⟩⟩
 ·rw [if_neg h,if_neg h]
  obtain ⟨m,rfl⟩:∃ m:Nat,n=(m:Int):=⟨n.toNat,by omega⟩
  rw [Int.toNat_natCast] at hz ⊢
  have hlen:=wrun_len hz (by omega) hll
  have hk:=wrun_k hz
  refine (rplayW_few (by omega) (by omega) (by omega) hz hT hpa hps (Nat.le_trans hnp (by decide)) (fun l hl=>Nat.le_trans (hll l hl) (by decide)) hp64 ho64 (by omega) (by omega)).mono ?_
  rintro e x' ⟨mv,rfl,h1,h2,h3⟩
  refine ⟨mv,_,rfl,h1,owns_lower h2 (Nat.le_add_right _ _),⟨by simp,.inr ⟨x.heap.size,m,_,by simp,Nat.le_refl _,h3,by simp,by unfold maxLen; omega,by simp,?_⟩⟩⟩
  simp only [List.length_map,List.length_range,Nat.mul_one,List.map_map]
  rw [List.take_of_length_le (by simp)]
  rfl
theorem WordOut.rW {h:Nat} {n:Int} {ts:List (List Op3)} {picks:List Int} {drain:Bool} {E E':Env} {w w':World} {mv hv:Value} {ms:List Mk} {hs:List Int} {z:WA × Int} (po:WordOut h n ts picks drain E w E' w' mv hv ms hs) (hz:(wordG n.toNat ts).Run picks drain (wa0 ts) z):ms=rWm n ts z∧hs=rWh n ts z:=by
 unfold rWm rWh
 by_cases h8:n < 1∨1048576 < n∨8 < ts.length
 ·rw [if_pos h8,if_pos h8]
  exact po.many h8
 ·rw [if_neg h8,if_neg h8]
  obtain ⟨a',k,h1,h2,h3⟩:=po.game h8
  have:=Game.Run.det h1 hz
  rw [← this]
  exact ⟨h2.symm,h3⟩
section
variable {F:Machine→Trace→Prop} {E:Env} {w:World} {fr:Frame} {k:List Item} {cs:List Frame}
theorem HG.cstep {Fs:FuncId→Bool} (hC:Closed Try.prog Fs) (S:Nat→Prop) (hS:∀ b,S b→E.H b=none) {c:Code} (hq:quietCode Try.prog Fs c=true) {T:Array Value} (hk:fr.kind=.normal) {R:Array Value→World→World→Prop}
  (hwp:∀ x:World,x.heap.size=w.heap.size→(∀ b,E.H b=none→x.heap[b]?=w.heap[b]?)→c.wp Try.prog (fun e a' x'=>e=.normal∧a'.defers=[]∧(∀ b,b < x.heap.size→¬ S b→x'.heap[b]?=x.heap[b]?)∧R a'.tmps x x') ⟨T,[]⟩ x)
  (hc:∀ (E1:Env) (w1:World) (T':Array Value) (x x':World),Kept 0 none E w E1 w1→E1.H=E.H→x.heap.size=w.heap.size→(∀ b,E.H b=none→x.heap[b]?=w.heap[b]?)→(∀ b,E.H b=none→w1.heap[b]?=x'.heap[b]?)→(∀ b,w.heap.size≤b→E.H b=none)→StandsBut S E w E1 w1→R T' x x'→HG Try.prog 0 F E1 (G (fr.at ⟨T',[]⟩ k) cs) w1) :
  HG Try.prog 0 F E (G (fr.at ⟨T,[]⟩ (.code c :: k)) cs) w:=by
 refine HG.quietS (h:=0) S hS hC (Q:=fun a' x x'=>R a'.tmps x x') hq hk rfl hwp (fun E1 w1 a1 x x' hE hd hxs hx hs' hx' hK hB hSo hR=>?_)
 obtain ⟨T',df⟩:=a1
 have hd':df=[]:=hd
 subst hd'
 refine hc E1 w1 T' x x' hK hE.H' hxs hx hx' hB (fun b o h0 h1 h2=>⟨by rw [hE.H']; exact h1,?_⟩) hR
 have hl:=(Array.getElem?_eq_some_iff.1 h2).1
 rw [hx' b h1,hSo b (by omega) h0,hx b h1]
 exact h2
theorem pw2 {ts:List (List Op3)} {tv:Value} {T:Array Value} (hk:fr.kind=.normal) (hs:T.size=182) (t1:T[1]?=some tv) (hT:OpsAt E w tv ts) (hn:ts.length≤1000000000000) (hll:∀ l ∈ ts,l.length≤100000000000)
  (hc:∀ E1 w1 T' ov LB,Kept 0 none E w E1 w1→Stands E w E1 w1→T'.size=182→(∀ j,j < 31→j≠10→T'[j]?=T[j]?)→T'[10]?=some ov→OwnV E1 w1 ov LB ts→(∀ i,i < ts.length→w.heap.size≤LB i)→HG Try.prog 0 F E1 (G (fr.at ⟨T',[]⟩ k) cs) w1) :
  HG Try.prog 0 F E (G (fr.at ⟨T,[]⟩ (.code pwS2 :: k)) cs) w:=by
 obtain ⟨f,hf,fz⟩:=arrfv T hs
 refine HG.cstep closed_pw (fun _=>False) (fun _ z=>z.elim) (by kernel_rfl) hk (R:=fun T' x x'=>T'.size=182∧(∀ j,j < 31→j≠10→T'[j]?=T[j]?)∧∃ ov LB,T'[10]?=some ov∧OwnT x.heap.size x' ov LB ts ts.length) (fun x hxs hx=>?_) (fun E1 w1 T' x x' hK hH hxs hx hx' hB hSt hR=>?_)
 ·obtain ⟨ta,ba,bo,cap,LA,LC,rfl,hX⟩:=hT.toX hx
  rw [hf]
  refine pwS2_wp (fz 1 _ t1) (copiedW_wp hX hn hll) (fun e x' h=>by obtain ⟨ov,_,h,_⟩:=h; exact ⟨ov,h⟩) (fun T' x' rv h1 h2 h3 h4=>?_)
  obtain ⟨ov,LB,e,h5,h6⟩:=h4
  cases e
  refine ⟨rfl,rfl,fun b hb _=>h5.block b hb,h1,fun j hj hj2=>?_,rv,LB,h3,h6⟩
  rw [h2 j hj hj2]
  simp [show j < 182 by omega]
 ·obtain ⟨h1,h2,ov,LB,h3,h4⟩:=hR
  rw [hxs] at h4
  exact hc E1 w1 T' ov LB hK (fun b o a1 a2=>hSt b o id a1 a2) h1 h2 h3 (OwnV.of_new h4 hB hx' hH) h4.up
theorem pw3 {T:Array Value} {pv:Value} {ps:List Int} (hk:fr.kind=.normal) (hs:T.size=182) (t2:T[2]?=some pv) (hI:IntsAt E w pv ps) (hpl:ps.length≤1000000000000)
  (hc:∀ E1 w1 T' rv,Kept 0 none E w E1 w1→Stands E w E1 w1→T'.size=182→(∀ j,j < 31→j≠11→T'[j]?=T[j]?)→T'[11]?=some rv→NumV E1 w1 3 rv ps→(∀ g,rv.ownBlock=some g→w.heap.size≤g)→HG Try.prog 0 F E1 (G (fr.at ⟨T',[]⟩ k) cs) w1) :
  HG Try.prog 0 F E (G (fr.at ⟨T,[]⟩ (.code pwS3 :: k)) cs) w:=by
 obtain ⟨f,hf,fz⟩:=arrfv T hs
 refine HG.cstep closed_pw (fun _=>False) (fun _ z=>z.elim) (by kernel_rfl) hk (R:=fun T' x x'=>T'.size=182∧(∀ j,j < 31→j≠11→T'[j]?=T[j]?)∧∃ rv,T'[11]?=some rv∧x'.ownsRow x.heap.size 3 1 rv ps.length (ps.map (Value.int .i64))) (fun x hxs hx=>?_) (fun E1 w1 T' x x' hK hH hxs hx hx' hB hSt hR=>?_)
 ·rw [hf]
  refine pwS3_wp (fz 2 _ t2) (hI.toX hx) hpl (fun T' x' rv h1 h2 h3 h5 h6=>?_)
  refine ⟨rfl,rfl,fun b hb _=>h5.block b hb,h1,fun j hj hj2=>?_,rv,h3,h6⟩
  rw [h2 j hj hj2]
  simp [show j < 182 by omega]
 ·obtain ⟨h1,h2,rv,h3,h4⟩:=hR
  rw [hxs] at h4
  exact hc E1 w1 T' rv hK (fun b o a1 a2=>hSt b o id a1 a2) h1 h2 h3 (NumV.of_new h4 hB hx' hH) (fun g hg=>(h4.lt g hg).1)
theorem pw4 {T:Array Value} {n:Int} {tv pv:Value} {ts:List (List Op3)} {picks:List Int} {drain:Bool} {z:WA × Int} (hk:fr.kind=.normal) (hs:T.size=182) (t0:T[0]?=some (.int .i64 n)) (t1:T[1]?=some tv) (t2:T[2]?=some pv) (t3:T[3]?=some (.bool drain)) (hz:(wordG n.toNat ts).Run picks drain (wa0 ts) z) (hT:OpsAt E w tv ts) (hI:IntsAt E w pv picks)
  (hnp:picks.length≤10000000000) (hll:∀ l ∈ ts,l.length≤10000000000) (hp64:∀ p ∈ picks,-9223372036854775808≤p∧p≤9223372036854775807) (ho64:∀ l ∈ ts,∀ op ∈ l,I64 op.1∧I64 op.2.1∧I64 op.2.2)
  (hc:∀ E1 w1 T' mv hv,Kept 0 none E w E1 w1→Stands E w E1 w1→T'.size=182→(∀ j,j < 31→j≠12→j≠13→T'[j]?=T[j]?)→T'[12]?=some mv→T'[13]?=some hv→MarkV E1 w1 mv (rWm n ts z)→NumV E1 w1 2 hv (rWh n ts z)→(∀ g,mv.ownBlock=some g→w.heap.size≤g)→(∀ g,hv.ownBlock=some g→w.heap.size≤g)→HG Try.prog 0 F E1 (G (fr.at ⟨T',[]⟩ k) cs) w1) :
  HG Try.prog 0 F E (G (fr.at ⟨T,[]⟩ (.code pwS4 :: k)) cs) w:=by
 obtain ⟨f,hf,fz⟩:=arrfv T hs
 refine HG.cstep closed_pw (fun _=>False) (fun _ z=>z.elim) (by kernel_rfl) hk (R:=fun T' x x'=>T'.size=182∧(∀ j,j < 31→j≠12→j≠13→T'[j]?=T[j]?)∧∃ mv hv,T'[12]?=some mv∧T'[13]?=some hv∧x'.ownsRow x.heap.size 37 4 mv (rWm n ts z).length (mksV (rWm n ts z))∧x'.ownsRow x.heap.size 2 1 hv (rWh n ts z).length ((rWh n ts z).map (Value.int .i64))) (fun x hxs hx=>?_) (fun E1 w1 T' x x' hK hH hxs hx hx' hB hSt hR=>?_)
 ·obtain ⟨ta,ba,bo,cap,LA,LC,rfl,hX⟩:=hT.toX hx
  obtain ⟨pa,pb,po,pcap,rfl,hpa,hps⟩:=hI.toX hx
  rw [hf]
  refine pwS4_wp (fz 0 _ t0) (fz 1 _ t1) (fz 2 _ t2) (fz 3 _ t3) (rplayW_any hz hX hpa hps hnp hll hp64 ho64) (fun e x' h=>by obtain ⟨mv,hv,h,_⟩:=h; exact ⟨mv,hv,h⟩) (fun T' x' av bv h1 h2 h3 h3' h4=>?_)
  obtain ⟨mv,hv,e,h5,h6,h7⟩:=h4
  cases e
  refine ⟨rfl,rfl,fun b hb _=>h5.block b hb,h1,fun j hj hj2 hj3=>?_,av,bv,h3,h3',h6,h7⟩
  rw [h2 j hj hj2 hj3]
  simp [show j < 182 by omega]
 ·obtain ⟨h1,h2,mv,hv,h3,h3',h4,h5⟩:=hR
  rw [hxs] at h4 h5
  exact hc E1 w1 T' mv hv hK (fun b o a1 a2=>hSt b o id a1 a2) h1 h2 h3 h3' (MarkV.of_new h4 hB hx' hH) (NumV.of_new h5 hB hx' hH) (fun g hg=>(h4.lt g hg).1) (fun g hg=>(h5.lt g hg).1)
theorem pw23 {T:Array Value} {n:Int} {tv pv:Value} {ts:List (List Op3)} {picks:List Int} {drain:Bool} {z:WA × Int} (hk:fr.kind=.normal) (hs:T.size=182) (t0:T[0]?=some (.int .i64 n)) (t1:T[10]?=some tv) (t2:T[11]?=some pv) (t3:T[3]?=some (.bool drain)) (hz:(wordG n.toNat ts).Run picks drain (wa0 ts) z) (hT:OpsAt E w tv ts) (hI:IntsAt E w pv picks)
  (hnp:picks.length≤10000000000) (hll:∀ l ∈ ts,l.length≤10000000000) (hp64:∀ p ∈ picks,-9223372036854775808≤p∧p≤9223372036854775807) (ho64:∀ l ∈ ts,∀ op ∈ l,I64 op.1∧I64 op.2.1∧I64 op.2.2)
  (hc:∀ E1 w1 T' mv hv,Kept 0 none E w E1 w1→Stands E w E1 w1→T'.size=182→(∀ j,j < 31→j≠24→j≠25→T'[j]?=T[j]?)→T'[24]?=some mv→T'[25]?=some hv→MarkV E1 w1 mv (rWm n ts z)→NumV E1 w1 2 hv (rWh n ts z)→(∀ g,mv.ownBlock=some g→w.heap.size≤g)→(∀ g,hv.ownBlock=some g→w.heap.size≤g)→HG Try.prog 0 F E1 (G (fr.at ⟨T',[]⟩ k) cs) w1) :
  HG Try.prog 0 F E (G (fr.at ⟨T,[]⟩ (.code pwS23 :: k)) cs) w:=by
 obtain ⟨f,hf,fz⟩:=arrfv T hs
 refine HG.cstep closed_pw (fun _=>False) (fun _ z=>z.elim) (by kernel_rfl) hk (R:=fun T' x x'=>T'.size=182∧(∀ j,j < 31→j≠24→j≠25→T'[j]?=T[j]?)∧∃ mv hv,T'[24]?=some mv∧T'[25]?=some hv∧x'.ownsRow x.heap.size 37 4 mv (rWm n ts z).length (mksV (rWm n ts z))∧x'.ownsRow x.heap.size 2 1 hv (rWh n ts z).length ((rWh n ts z).map (Value.int .i64))) (fun x hxs hx=>?_) (fun E1 w1 T' x x' hK hH hxs hx hx' hB hSt hR=>?_)
 ·obtain ⟨ta,ba,bo,cap,LA,LC,rfl,hX⟩:=hT.toX hx
  obtain ⟨pa,pb,po,pcap,rfl,hpa,hps⟩:=hI.toX hx
  rw [hf]
  refine pwS23_wp (fz 0 _ t0) (fz 10 _ t1) (fz 11 _ t2) (fz 3 _ t3) (rplayW_any hz hX hpa hps hnp hll hp64 ho64) (fun e x' h=>by obtain ⟨mv,hv,h,_⟩:=h; exact ⟨mv,hv,h⟩) (fun T' x' av bv h1 h2 h3 h3' h4=>?_)
  obtain ⟨mv,hv,e,h5,h6,h7⟩:=h4
  cases e
  refine ⟨rfl,rfl,fun b hb _=>h5.block b hb,h1,fun j hj hj2 hj3=>?_,av,bv,h3,h3',h6,h7⟩
  rw [h2 j hj hj2 hj3]
  simp [show j < 182 by omega]
 ·obtain ⟨h1,h2,mv,hv,h3,h3',h4,h5⟩:=hR
  rw [hxs] at h4 h5
  exact hc E1 w1 T' mv hv hK (fun b o a1 a2=>hSt b o id a1 a2) h1 h2 h3 h3' (MarkV.of_new h4 hB hx' hH) (NumV.of_new h5 hB hx' hH) (fun g hg=>(h4.lt g hg).1) (fun g hg=>(h5.lt g hg).1)
theorem pw7 {T:Array Value} {v0 v1 v2 v3:Value} {ms:List Mk} {hs':List Int} (hk:fr.kind=.normal) (hs:T.size=182) (t0:T[14]?=some v0) (t1:T[12]?=some v1) (t2:T[15]?=some v2) (t3:T[13]?=some v3) (ha:MarkV E w v0 ms) (hb:MarkV E w v1 ms) (ha2:NumV E w 2 v2 hs') (hb2:NumV E w 2 v3 hs') (hml:ms.length≤1000000000000) (hpl:hs'.length≤1000000000000)
  (hc:∀ E1 w1 T',Kept 0 none E w E1 w1→Stands E w E1 w1→T'.size=182→(∀ j,j < 31→j≠18→T'[j]?=T[j]?)→T'[18]?=some (.bool true)→HG Try.prog 0 F E1 (G (fr.at ⟨T',[]⟩ k) cs) w1) :
  HG Try.prog 0 F E (G (fr.at ⟨T,[]⟩ (.code pwS7 :: k)) cs) w:=by
 obtain ⟨f,hf,fz⟩:=arrfv T hs
 refine HG.cstep closed_pw (fun _=>False) (fun _ z=>z.elim) (by kernel_rfl) hk (R:=fun T' x x'=>T'.size=182∧(∀ j,j < 31→j≠18→T'[j]?=T[j]?)∧T'[18]?=some (.bool true)) (fun x hxs hx=>?_) (fun E1 w1 T' x x' hK hH hxs hx hx' hB hSt hR=>?_)
 ·rw [hf]
  refine pwS7_wp (fz _ _ t0) (fz _ _ t1) (fz _ _ t2) (fz _ _ t3) (same_wp (MksAt.of_owns (ha.toX hx)) (MksAt.of_owns (hb.toX hx)) hml) (fun kq=>sameInts_wp (x:=x.drewN kq) (nums_X (ha2.toX hx)) (nums_X (hb2.toX hx)) hpl) (fun T' x' h1 h2 h3 h4=>?_)
  refine ⟨rfl,rfl,fun b hb _=>by rw [h4],h1,fun j hj hj2=>?_,h3⟩
  rw [h2 j hj hj2]
  simp [show j < 182 by omega]
 ·obtain ⟨h1,h2,h3⟩:=hR
  exact hc E1 w1 T' hK (fun b o a1 a2=>hSt b o id a1 a2) h1 h2 h3
theorem pw8 {T:Array Value} {v0 v1 v2 v3:Value} {ms:List Mk} {hs':List Int} (hk:fr.kind=.normal) (hs:T.size=182) (t0:T[16]?=some v0) (t1:T[12]?=some v1) (t2:T[17]?=some v2) (t3:T[13]?=some v3) (ha:MarkV E w v0 ms) (hb:MarkV E w v1 ms) (ha2:NumV E w 2 v2 hs') (hb2:NumV E w 2 v3 hs') (hml:ms.length≤1000000000000) (hpl:hs'.length≤1000000000000)
  (hc:∀ E1 w1 T',Kept 0 none E w E1 w1→Stands E w E1 w1→T'.size=182→(∀ j,j < 31→j≠19→T'[j]?=T[j]?)→T'[19]?=some (.bool true)→HG Try.prog 0 F E1 (G (fr.at ⟨T',[]⟩ k) cs) w1) :
  HG Try.prog 0 F E (G (fr.at ⟨T,[]⟩ (.code pwS8 :: k)) cs) w:=by
 obtain ⟨f,hf,fz⟩:=arrfv T hs
 refine HG.cstep closed_pw (fun _=>False) (fun _ z=>z.elim) (by kernel_rfl) hk (R:=fun T' x x'=>T'.size=182∧(∀ j,j < 31→j≠19→T'[j]?=T[j]?)∧T'[19]?=some (.bool true)) (fun x hxs hx=>?_) (fun E1 w1 T' x x' hK hH hxs hx hx' hB hSt hR=>?_)
 ·rw [hf]
  refine pwS8_wp (fz _ _ t0) (fz _ _ t1) (fz _ _ t2) (fz _ _ t3) (same_wp (MksAt.of_owns (ha.toX hx)) (MksAt.of_owns (hb.toX hx)) hml) (fun kq=>sameInts_wp (x:=x.drewN kq) (nums_X (ha2.toX hx)) (nums_X (hb2.toX hx)) hpl) (fun T' x' h1 h2 h3 h4=>?_)
  refine ⟨rfl,rfl,fun b hb _=>by rw [h4],h1,fun j hj hj2=>?_,h3⟩
  rw [h2 j hj hj2]
  simp [show j < 182 by omega]
 ·obtain ⟨h1,h2,h3⟩:=hR
  exact hc E1 w1 T' hK (fun b o a1 a2=>hSt b o id a1 a2) h1 h2 h3
theorem pw25 {T:Array Value} {v0 v1 v2 v3:Value} {ms:List Mk} {hs':List Int} (hk:fr.kind=.normal) (hs:T.size=182) (t0:T[26]?=some v0) (t1:T[24]?=some v1) (t2:T[27]?=some v2) (t3:T[25]?=some v3) (ha:MarkV E w v0 ms) (hb:MarkV E w v1 ms) (ha2:NumV E w 2 v2 hs') (hb2:NumV E w 2 v3 hs') (hml:ms.length≤1000000000000) (hpl:hs'.length≤1000000000000)
  (hc:∀ E1 w1 T',Kept 0 none E w E1 w1→Stands E w E1 w1→T'.size=182→(∀ j,j < 31→j≠28→T'[j]?=T[j]?)→T'[28]?=some (.bool true)→HG Try.prog 0 F E1 (G (fr.at ⟨T',[]⟩ k) cs) w1) :
  HG Try.prog 0 F E (G (fr.at ⟨T,[]⟩ (.code pwS25 :: k)) cs) w:=by
 obtain ⟨f,hf,fz⟩:=arrfv T hs
 refine HG.cstep closed_pw (fun _=>False) (fun _ z=>z.elim) (by kernel_rfl) hk (R:=fun T' x x'=>T'.size=182∧(∀ j,j < 31→j≠28→T'[j]?=T[j]?)∧T'[28]?=some (.bool true)) (fun x hxs hx=>?_) (fun E1 w1 T' x x' hK hH hxs hx hx' hB hSt hR=>?_)
 ·rw [hf]
  refine pwS25_wp (fz _ _ t0) (fz _ _ t1) (fz _ _ t2) (fz _ _ t3) (same_wp (MksAt.of_owns (ha.toX hx)) (MksAt.of_owns (hb.toX hx)) hml) (fun kq=>sameInts_wp (x:=x.drewN kq) (nums_X (ha2.toX hx)) (nums_X (hb2.toX hx)) hpl) (fun T' x' h1 h2 h3 h4=>?_)
  refine ⟨rfl,rfl,fun b hb _=>by rw [h4],h1,fun j hj hj2=>?_,h3⟩
  rw [h2 j hj hj2]
  simp [show j < 182 by omega]
 ·obtain ⟨h1,h2,h3⟩:=hR
  exact hc E1 w1 T' hK (fun b o a1 a2=>hSt b o id a1 a2) h1 h2 h3
theorem pw26 {T:Array Value} {v0 v1 v2 v3:Value} {ms:List Mk} {hs':List Int} (hk:fr.kind=.normal) (hs:T.size=182) (t0:T[14]?=some v0) (t1:T[12]?=some v1) (t2:T[15]?=some v2) (t3:T[13]?=some v3) (ha:MarkV E w v0 ms) (hb:MarkV E w v1 ms) (ha2:NumV E w 2 v2 hs') (hb2:NumV E w 2 v3 hs') (hml:ms.length≤1000000000000) (hpl:hs'.length≤1000000000000)
  (hc:∀ E1 w1 T',Kept 0 none E w E1 w1→Stands E w E1 w1→T'.size=182→(∀ j,j < 31→j≠29→T'[j]?=T[j]?)→T'[29]?=some (.bool true)→HG Try.prog 0 F E1 (G (fr.at ⟨T',[]⟩ k) cs) w1) :
  HG Try.prog 0 F E (G (fr.at ⟨T,[]⟩ (.code pwS26 :: k)) cs) w:=by
 obtain ⟨f,hf,fz⟩:=arrfv T hs
 refine HG.cstep closed_pw (fun _=>False) (fun _ z=>z.elim) (by kernel_rfl) hk (R:=fun T' x x'=>T'.size=182∧(∀ j,j < 31→j≠29→T'[j]?=T[j]?)∧T'[29]?=some (.bool true)) (fun x hxs hx=>?_) (fun E1 w1 T' x x' hK hH hxs hx hx' hB hSt hR=>?_)
 ·rw [hf]
  refine pwS26_wp (fz _ _ t0) (fz _ _ t1) (fz _ _ t2) (fz _ _ t3) (same_wp (MksAt.of_owns (ha.toX hx)) (MksAt.of_owns (hb.toX hx)) hml) (fun kq=>sameInts_wp (x:=x.drewN kq) (nums_X (ha2.toX hx)) (nums_X (hb2.toX hx)) hpl) (fun T' x' h1 h2 h3 h4=>?_)
  refine ⟨rfl,rfl,fun b hb _=>by rw [h4],h1,fun j hj hj2=>?_,h3⟩
  rw [h2 j hj hj2]
  simp [show j < 182 by omega]
 ·obtain ⟨h1,h2,h3⟩:=hR
  exact hc E1 w1 T' hK (fun b o a1 a2=>hSt b o id a1 a2) h1 h2 h3
theorem pw9 {T:Array Value} {v0 v1:Value} {LB:Nat→Nat} {ts:List (List Op3)} (hk:fr.kind=.normal) (hs:T.size=182) (t0:T[10]?=some v0) (t1:T[1]?=some v1) (hO:OwnV E w v0 LB ts) (hT:OpsAt E w v1 ts) (hn:ts.length≤1000000000000) (hll:∀ l ∈ ts,l.length≤100000000000)
  (hc:∀ E1 w1 T',Kept 0 none E w E1 w1→Stands E w E1 w1→T'.size=182→(∀ j,j < 31→j≠20→T'[j]?=T[j]?)→T'[20]?=some (.bool true)→HG Try.prog 0 F E1 (G (fr.at ⟨T',[]⟩ k) cs) w1) :
  HG Try.prog 0 F E (G (fr.at ⟨T,[]⟩ (.code pwS9 :: k)) cs) w:=by
 obtain ⟨f,hf,fz⟩:=arrfv T hs
 refine HG.cstep closed_pw (fun _=>False) (fun _ z=>z.elim) (by kernel_rfl) hk (R:=fun T' x x'=>T'.size=182∧(∀ j,j < 31→j≠20→T'[j]?=T[j]?)∧T'[20]?=some (.bool true)) (fun x hxs hx=>?_) (fun E1 w1 T' x x' hK hH hxs hx hx' hB hSt hR=>?_)
 ·obtain ⟨ta,ba,bo,cap,LA,LC,rfl,hX⟩:=hT.toX hx
  rw [hf]
  refine pwS9_wp (fz _ _ t0) (fz _ _ t1) (stayedW_wp (hO.toX hx) hX hn hll) (fun e x' h=>⟨_,h.1⟩) (fun T' x' rv h1 h2 h3 h4=>?_)
  obtain ⟨e,n,rfl⟩:=h4
  cases e
  refine ⟨rfl,rfl,fun b hb _=>rfl,h1,fun j hj hj2=>?_,h3⟩
  rw [h2 j hj hj2]
  simp [show j < 182 by omega]
 ·obtain ⟨h1,h2,h3⟩:=hR
  exact hc E1 w1 T' hK (fun b o a1 a2=>hSt b o id a1 a2) h1 h2 h3
theorem pw10 {T:Array Value} {av bv:Value} {ps:List Int} (hk:fr.kind=.normal) (hs:T.size=182) (t11:T[11]?=some av) (t2:T[2]?=some bv) (t20:T[20]?=some (.bool true)) (ha:NumV E w 3 av ps) (hI:IntsAt E w bv ps) (hpl:ps.length≤1000000000000)
  (hc:∀ E1 w1 T',Kept 0 none E w E1 w1→Stands E w E1 w1→T'.size=182→(∀ j,j < 31→j≠21→T'[j]?=T[j]?)→HG Try.prog 0 F E1 (G (fr.at ⟨T',[]⟩ k) cs) w1) :
  HG Try.prog 0 F E (G (fr.at ⟨T,[]⟩ (.code pwS10 :: k)) cs) w:=by
 obtain ⟨f,hf,fz⟩:=arrfv T hs
 refine HG.cstep closed_pw (fun _=>False) (fun _ z=>z.elim) (by kernel_rfl) hk (R:=fun T' x x'=>T'.size=182∧(∀ j,j < 31→j≠21→T'[j]?=T[j]?)) (fun x hxs hx=>?_) (fun E1 w1 T' x x' hK hH hxs hx hx' hB hSt hR=>?_)
 ·rw [hf]
  refine pwS10_wp (fz _ _ t11) (fz _ _ t2) (fz _ _ t20) (nums_X (ha.toX hx)) (hI.toX hx) hpl (fun T' x' h1 h2 h4=>?_)
  refine ⟨rfl,rfl,fun b hb _=>by rw [h4],h1,fun j hj hj2=>?_⟩
  rw [h2 j hj hj2]
  simp [show j < 182 by omega]
 ·obtain ⟨h1,h2⟩:=hR
  exact hc E1 w1 T' hK (fun b o a1 a2=>hSt b o id a1 a2) h1 h2
theorem pw14 {T:Array Value} (hk:fr.kind=.normal) (hs:T.size=182) (t9:T[9]?=some (.bool true)) (t18:T[18]?=some (.bool true)) (t19:T[19]?=some (.bool true)) (t20:T[20]?=some (.bool true))
  (hc:∀ E1 w1 T',Kept 0 none E w E1 w1→Stands E w E1 w1→T'.size=182→(∀ j,j < 31→T'[j]?=T[j]?)→HG Try.prog 0 F E1 (G (fr.at ⟨T',[]⟩ k) cs) w1) :
  HG Try.prog 0 F E (G (fr.at ⟨T,[]⟩ (.code pwS14 :: k)) cs) w:=by
 obtain ⟨f,hf,fz⟩:=arrfv T hs
 refine HG.cstep closed_pw (fun _=>False) (fun _ z=>z.elim) (by kernel_rfl) hk (R:=fun T' x x'=>T'.size=182∧(∀ j,j < 31→T'[j]?=T[j]?)) (fun x hxs hx=>?_) (fun E1 w1 T' x x' hK hH hxs hx hx' hB hSt hR=>?_)
 ·rw [hf]
  refine pwS14_wp (fz _ _ t9) (fz _ _ t18) (fz _ _ t19) (fz _ _ t20) (fun T' h1 h2=>⟨rfl,rfl,fun _ _ _=>rfl,h1,fun j hj=>?_⟩)
  rw [h2 j hj]
  simp [show j < 182 by omega]
 ·exact hc E1 w1 T' hK (fun b o a1 a2=>hSt b o id a1 a2) hR.1 hR.2
theorem pw16 {T:Array Value} {ov:Value} {LB:Nat→Nat} {ts:List (List Op3)} (hk:fr.kind=.normal) (hs:T.size=182) (t10:T[10]?=some ov) (hO:OwnV E w ov LB ts) (hn:ts.length≤1000000000000) (hll:∀ l ∈ ts,l.length≤100000000000)
  (hc:∀ E1 w1 T',Kept 0 none E w E1 w1→StandsBut (fun b=>∃ i,i < ts.length∧b=LB i) E w E1 w1→T'.size=182→(∀ j,j < 31→j≠22→j≠23→T'[j]?=T[j]?)→OwnV E1 w1 ov LB (gT xorV ts)→HG Try.prog 0 F E1 (G (fr.at ⟨T',[]⟩ k) cs) w1) :
  HG Try.prog 0 F E (G (fr.at ⟨T,[]⟩ (.code pwS16 :: k)) cs) w:=by
 obtain ⟨f,hf,fz⟩:=arrfv T hs
 refine HG.cstep closed_pw (fun b=>∃ i,i < ts.length∧b=LB i) (fun b ⟨i,hi,e⟩=>by rw [e]; exact hO.lH i hi) (by kernel_rfl) hk (R:=fun T' x x'=>T'.size=182∧(∀ j,j < 31→j≠22→j≠23→T'[j]?=T[j]?)∧OwnT 0 x' ov LB (gT xorV ts) (gT xorV ts).length) (fun x hxs hx=>?_) (fun E1 w1 T' x x' hK hH hxs hx hx' hB hSt hR=>?_)
 ·rw [hf]
  refine pwS16_wp (fz _ _ t10) (hO.toX hx) hn hll (fun T' x' h1 h2 h3=>⟨rfl,rfl,fun b _ hb=>h3.old b (fun j hj e=>hb ⟨j,hj,e⟩),h1,fun j hj hj2 hj3=>?_,W1g.own (hO.toX hx) h3⟩)
  rw [h2 j hj hj2 hj3]
  simp [show j < 182 by omega]
 ·obtain ⟨h1,h2,h3⟩:=hR
  refine hc E1 w1 T' hK hSt h1 h2 ⟨h3.same fun b hb=>?_,fun g hg=>by rw [hH]; exact hO.oH g hg,fun i hi=>by rw [hH]; exact hO.lH i (by rw [gT_len] at hi; exact hi)⟩
  rcases hb with hb | ⟨i,hi,rfl⟩
  ·exact hx' b (hO.oH b hb)
  ·exact hx' _ (hO.lH i (by rw [gT_len] at hi; exact hi))
theorem i4_le {a b c d N:Nat} (h0:a≤N) (h1:b≤N) (h2:c≤N) (h3:d≤N):∀ r,r < 4→i4 a b c d r≤N:=fun r hr=>by
 match r,hr with
 | 0,_=>exact h0
 | 1,_=>exact h1
 | 2,_=>exact h2
 | 3,_=>exact h3
theorem pw27 {T:Array Value} {v0 v1 v2 v3:Value} {ms ms':List Mk} {hs0 hs1:List Int} (hk:fr.kind=.normal) (hs:T.size=182) (t0:T[14]?=some v0) (t1:T[16]?=some v1) (t2:T[15]?=some v2) (t3:T[17]?=some v3) (h0:MarkV E w v0 ms) (h1:MarkV E w v1 ms') (h2:NumV E w 2 v2 hs0) (h3:NumV E w 2 v3 hs1)
  (d01:∀ g,v0.ownBlock=some g→v1.ownBlock≠some g) (d02:∀ g,v0.ownBlock=some g→v2.ownBlock≠some g) (d03:∀ g,v0.ownBlock=some g→v3.ownBlock≠some g) (d12:∀ g,v1.ownBlock=some g→v2.ownBlock≠some g) (d13:∀ g,v1.ownBlock=some g→v3.ownBlock≠some g) (d23:∀ g,v2.ownBlock=some g→v3.ownBlock≠some g)
  (l0:ms.length≤100000000000) (l1:ms'.length≤100000000000) (l2:hs0.length≤100000000000) (l3:hs1.length≤100000000000)
  (hc:∀ E1 w1 T',Kept 0 none E w E1 w1→StandsBut (fun b=>v0.ownBlock=some b∨v1.ownBlock=some b∨v2.ownBlock=some b∨v3.ownBlock=some b) E w E1 w1→T'.size=182→(∀ j,j < 31→j≠30→T'[j]?=T[j]?)→T'[30]?=some (.bool true)→HG Try.prog 0 F E1 (G (fr.at ⟨T',[]⟩ k) cs) w1) :
  HG Try.prog 0 F E (G (fr.at ⟨T,[]⟩ (.code pwS27 :: k)) cs) w:=by
 obtain ⟨f,hf,fz⟩:=arrfv T hs
 refine HG.cstep closed_pw (fun b=>v0.ownBlock=some b∨v1.ownBlock=some b∨v2.ownBlock=some b∨v3.ownBlock=some b) (fun b e=>by
  rcases e with e | e | e | e
  ·exact h0.H b e
  ·exact h1.H b e
  ·exact h2.H b e
  ·exact h3.H b e) (by kernel_rfl) hk (R:=fun T' x x'=>T'.size=182∧(∀ j,j < 31→j≠30→T'[j]?=T[j]?)∧T'[30]?=some (.bool true)) (fun x hxs hx=>?_) (fun E1 w1 T' x x' hK hH hxs hx hx' hB hSt hR=>?_)
 ·rw [hf]
  have hF:Fil x (c4 v0 v1 v2 v3) (i4 ms.length ms'.length hs0.length hs1.length) (l4 (mksV ms) (mksV ms') (hs0.map (Value.int .i64)) (hs1.map (Value.int .i64))) x:=by
   refine ⟨Nat.le_refl _,fun _ _ _=>rfl,fun r hr=>?_,fun r s hr hs hne g hg e=>?_⟩
   ·match r,hr with
    | 0,_=>exact h0.toX hx
    | 1,_=>exact h1.toX hx
    | 2,_=>exact h2.toX hx
    | 3,_=>exact h3.toX hx
   ·match r,hr,s,hs with
    | 0,_,0,_ | 1,_,1,_ | 2,_,2,_ | 3,_,3,_=>exact hne rfl
    | 0,_,1,_=>exact d01 g hg e
    | 0,_,2,_=>exact d02 g hg e
    | 0,_,3,_=>exact d03 g hg e
    | 1,_,2,_=>exact d12 g hg e
    | 1,_,3,_=>exact d13 g hg e
    | 2,_,3,_=>exact d23 g hg e
    | 1,_,0,_=>exact d01 g e hg
    | 2,_,0,_=>exact d02 g e hg
    | 3,_,0,_=>exact d03 g e hg
    | 2,_,1,_=>exact d12 g e hg
    | 3,_,1,_=>exact d13 g e hg
    | 3,_,2,_=>exact d23 g e hg
  have hg:Calls Try.prog 48 #[v0,v1,v2,v3] x _:=grownW_wp (V:=c4 v0 v1 v2 v3) hF (i4_le l0 l1 l2 l3)
  refine pwS27_wp (fz _ _ t0) (fz _ _ t1) (fz _ _ t2) (fz _ _ t3) hg (fun e x' h=>⟨_,h.1⟩) (fun T' x' rv h1 h2 h3 h4=>?_)
  obtain ⟨e,h5⟩:=h4
  cases e
  refine ⟨rfl,rfl,fun b hb hn=>h5 b hb (fun r hr e=>hn (by
   match r,hr with
   | 0,_=>exact .inl e
   | 1,_=>exact .inr (.inl e)
   | 2,_=>exact .inr (.inr (.inl e))
   | 3,_=>exact .inr (.inr (.inr e)))),h1,fun j hj hj2=>?_,h3⟩
  rw [h2 j hj hj2]
  simp [show j < 182 by omega]
 ·obtain ⟨h1,h2,h3⟩:=hR
  exact hc E1 w1 T' hK hSt h1 h2 h3
theorem pw28 {T:Array Value} (hk:fr.kind=.normal) (hs:T.size=182) (t28:T[28]?=some (.bool true)) (t29:T[29]?=some (.bool true)) (t30:T[30]?=some (.bool true))
  (hc:∀ E1 w1 T',Kept 0 none E w E1 w1→Stands E w E1 w1→T'.size=182→T'[8]?=some (.bool true)→HG Try.prog 0 F E1 (G (fr.at ⟨T',[]⟩ k) cs) w1) :
  HG Try.prog 0 F E (G (fr.at ⟨T,[]⟩ (.code pwS28 :: k)) cs) w:=by
 obtain ⟨f,hf,fz⟩:=arrfv T hs
 refine HG.cstep closed_pw (fun _=>False) (fun _ z=>z.elim) (by kernel_rfl) hk (R:=fun T' x x'=>T'.size=182∧T'[8]?=some (.bool true)) (fun x hxs hx=>?_) (fun E1 w1 T' x x' hK hH hxs hx hx' hB hSt hR=>?_)
 ·rw [hf]
  exact pwS28_wp (fz _ _ t28) (fz _ _ t29) (fz _ _ t30) (fun T' h1 h2=>⟨rfl,rfl,fun _ _ _=>rfl,h1,h2⟩)
 ·exact hc E1 w1 T' hK (fun b o a1 a2=>hSt b o id a1 a2) hR.1 hR.2
end
section
variable {F:Machine→Trace→Prop} {E:Env} {w:World} {k:List Item}
noncomputable def xpS5:Code:=pwS5
theorem pw5 {T:Array Value} {n:Int} {tv pv:Value} {ts:List (List Op3)} {picks:List Int} {drain:Bool} {z:WA × Int} (hs:T.size=182) (t0:T[0]?=some (.int .i64 n)) (t1:T[10]?=some tv) (t2:T[11]?=some pv) (t3:T[3]?=some (.bool drain)) (hz:(wordG n.toNat ts).Run picks drain (wa0 ts) z) (hT:OpsAt E w tv ts) (hP:IntsAt E w pv picks)
  (hpl:picks.length≤10000000000) (hll:∀ l ∈ ts,l.length≤10000000000) (hp64:∀ p ∈ picks,-9223372036854775808≤p∧p≤9223372036854775807) (ho64:∀ l ∈ ts,∀ op ∈ l,I64 op.1∧I64 op.2.1∧I64 op.2.2) (hrole:E.role 0=.gone) (hmode:∀ b,E.mode b=0)
  (hc:∀ E1 w1 T' mv hv,Kept 0 none E w E1 w1→Stands E w E1 w1→T'.size=182→(∀ j,j < 31→j≠14→j≠15→T'[j]?=T[j]?)→T'[14]?=some mv→T'[15]?=some hv→MarkV E1 w1 mv (rWm n ts z)→NumV E1 w1 2 hv (rWh n ts z)→(∀ g,mv.ownBlock=some g→w.heap.size≤g)→(∀ g,hv.ownBlock=some g→w.heap.size≤g)→(∀ g,mv.ownBlock=some g→hv.ownBlock≠some g)→HG Try.prog 0 F E1 (G ((base 9).at ⟨T',[]⟩ k) []) w1) :
  HG Try.prog 0 F E (G ((base 9).at ⟨T,[]⟩ (.code pwS5 :: k)) []) w:=by
 obtain ⟨f,hf,fz⟩:=arrfv T hs
 have e0:=fz 0 _ t0
 have e1:=fz 10 _ t1
 have e2:=fz 11 _ t2
 have e3:=fz 3 _ t3
 rw [hf]
 change HGn Try.prog 0 F E w 100 _
 rw [show pwS5=xpS5 from rfl]
 simp only [xpS5,pwS5,pwT5,pwT4,pwT3,pwT2,pwT1,pwT0,Try.f9,Option.getD_some,List.range,List.range.loop,List.map_cons,List.map_nil,e0,e1,e2,e3]
 replace hf:=Lib.hid hf
 replace hz:=Lib.hid hz
 replace hT:=Lib.hid hT
 replace hP:=Lib.hid hP
 replace hpl:=Lib.hid hpl
 replace hll:=Lib.hid hll
 replace hp64:=Lib.hid hp64
 replace ho64:=Lib.hid ho64
 replace hrole:=Lib.hid hrole
 replace hmode:=Lib.hid hmode
 replace hc:=Lib.hid hc
 replace hs:=Lib.hid hs
 clear t0 t1 t2 t3 fz
 refine Idl.rg (idl_hg Try.prog 0 F E w) [0,1,2,3,4,5,6,7,8,9] rfl ?_
 iterate 4 (refine Idl.v (idl_hg Try.prog 0 F E w) ?_; walk_nrm)
 refine Idl.callE (fn:=Try.f45) (vs:=#[.int .i64 n,tv,pv,.bool drain]) (idl_hg Try.prog 0 F E w) rfl rfl (by k_ne) rfl Try.func45 rfl rfl (by simp [Act.eval]) ?_
 refine word_holds hT.out hP.out (fun l hl=>Nat.le_trans (hll.out l hl) (by decide)) (Nat.le_trans hpl.out (by decide)) hp64.out ho64.out hrole.out hmode.out (fun E2 w2 mv hv ms hs po=>?_)
 replace po:=Lib.hid po
 change HGn Try.prog 0 F E2 w2 200 _
 walk_nrm
 iterate 5 (refine Idl.v (idl_hg Try.prog 0 F E2 w2) ?_; walk_nrm)
 refine Idl.re (idl_hg Try.prog 0 F E2 w2) ?_
 replace po:=po.out
 obtain ⟨q1,q2⟩:=po.rW hz.out
 subst q1 q2
 refine hc.out E2 w2 _ mv hv po.kept po.stands (by simp) (fun j hj hne hne2=>?_) (by simp) (by simp) ⟨owns_lower po.row (Nat.zero_le _),po.rowH⟩ ⟨owns_lower po.held (Nat.zero_le _),po.heldH⟩ (fun g hg=>(po.row.lt g hg).1) (fun g hg=>(po.held.lt g hg).1) po.apart
 rw [hf.out,arrf_get f (by omega)]
 match j,hj with
 | 0,_ | 1,_ | 2,_ | 3,_ | 4,_ | 5,_ | 6,_ | 7,_ | 8,_ | 9,_ | 10,_ | 11,_ | 12,_ | 13,_ | 16,_ | 17,_ | 18,_ | 19,_ | 20,_ | 21,_ | 22,_ | 23,_ | 24,_ | 25,_ | 26,_ | 27,_ | 28,_ | 29,_ | 30,_=>simp [e0,e1,e2,e3]
 | 14,_=>exact absurd rfl hne
 | 15,_=>exact absurd rfl hne2
 | j+31,h=>exact absurd h (by omega)
noncomputable def xpS6:Code:=pwS6
theorem pw6 {T:Array Value} {n:Int} {tv pv:Value} {ts:List (List Op3)} {picks:List Int} {drain:Bool} {z:WA × Int} (hs:T.size=182) (t0:T[0]?=some (.int .i64 n)) (t1:T[10]?=some tv) (t2:T[11]?=some pv) (t3:T[3]?=some (.bool drain)) (hz:(wordG n.toNat ts).Run picks drain (wa0 ts) z) (hT:OpsAt E w tv ts) (hP:IntsAt E w pv picks)
  (hpl:picks.length≤10000000000) (hll:∀ l ∈ ts,l.length≤10000000000) (hp64:∀ p ∈ picks,-9223372036854775808≤p∧p≤9223372036854775807) (ho64:∀ l ∈ ts,∀ op ∈ l,I64 op.1∧I64 op.2.1∧I64 op.2.2) (hrole:E.role 0=.gone) (hmode:∀ b,E.mode b=0)
  (hc:∀ E1 w1 T' mv hv,Kept 0 none E w E1 w1→Stands E w E1 w1→T'.size=182→(∀ j,j < 31→j≠16→j≠17→T'[j]?=T[j]?)→T'[16]?=some mv→T'[17]?=some hv→MarkV E1 w1 mv (rWm n ts z)→NumV E1 w1 2 hv (rWh n ts z)→(∀ g,mv.ownBlock=some g→w.heap.size≤g)→(∀ g,hv.ownBlock=some g→w.heap.size≤g)→(∀ g,mv.ownBlock=some g→hv.ownBlock≠some g)→HG Try.prog 0 F E1 (G ((base 9).at ⟨T',[]⟩ k) []) w1) :
  HG Try.prog 0 F E (G ((base 9).at ⟨T,[]⟩ (.code pwS6 :: k)) []) w:=by
 obtain ⟨f,hf,fz⟩:=arrfv T hs
 have e0:=fz 0 _ t0
 have e1:=fz 10 _ t1
 have e2:=fz 11 _ t2
 have e3:=fz 3 _ t3
 rw [hf]
 change HGn Try.prog 0 F E w 100 _
 rw [show pwS6=xpS6 from rfl]
 simp only [xpS6,pwS6,pwT6,pwT5,pwT4,pwT3,pwT2,pwT1,pwT0,Try.f9,Option.getD_some,List.range,List.range.loop,List.map_cons,List.map_nil,e0,e1,e2,e3]
 replace hf:=Lib.hid hf
 replace hz:=Lib.hid hz
 replace hT:=Lib.hid hT
 replace hP:=Lib.hid hP
 replace hpl:=Lib.hid hpl
 replace hll:=Lib.hid hll
 replace hp64:=Lib.hid hp64
 replace ho64:=Lib.hid ho64
 replace hrole:=Lib.hid hrole
 replace hmode:=Lib.hid hmode
 replace hc:=Lib.hid hc
 replace hs:=Lib.hid hs
 clear t0 t1 t2 t3 fz
 refine Idl.rg (idl_hg Try.prog 0 F E w) [0,1,2,3,4,5,6,7,8,9] rfl ?_
 iterate 4 (refine Idl.v (idl_hg Try.prog 0 F E w) ?_; walk_nrm)
 refine Idl.callE (fn:=Try.f45) (vs:=#[.int .i64 n,tv,pv,.bool drain]) (idl_hg Try.prog 0 F E w) rfl rfl (by k_ne) rfl Try.func45 rfl rfl (by simp [Act.eval]) ?_
 refine word_holds hT.out hP.out (fun l hl=>Nat.le_trans (hll.out l hl) (by decide)) (Nat.le_trans hpl.out (by decide)) hp64.out ho64.out hrole.out hmode.out (fun E2 w2 mv hv ms hs po=>?_)
 replace po:=Lib.hid po
 change HGn Try.prog 0 F E2 w2 200 _
 walk_nrm
 iterate 5 (refine Idl.v (idl_hg Try.prog 0 F E2 w2) ?_; walk_nrm)
 refine Idl.re (idl_hg Try.prog 0 F E2 w2) ?_
 replace po:=po.out
 obtain ⟨q1,q2⟩:=po.rW hz.out
 subst q1 q2
 refine hc.out E2 w2 _ mv hv po.kept po.stands (by simp) (fun j hj hne hne2=>?_) (by simp) (by simp) ⟨owns_lower po.row (Nat.zero_le _),po.rowH⟩ ⟨owns_lower po.held (Nat.zero_le _),po.heldH⟩ (fun g hg=>(po.row.lt g hg).1) (fun g hg=>(po.held.lt g hg).1) po.apart
 rw [hf.out,arrf_get f (by omega)]
 match j,hj with
 | 0,_ | 1,_ | 2,_ | 3,_ | 4,_ | 5,_ | 6,_ | 7,_ | 8,_ | 9,_ | 10,_ | 11,_ | 12,_ | 13,_ | 14,_ | 15,_ | 18,_ | 19,_ | 20,_ | 21,_ | 22,_ | 23,_ | 24,_ | 25,_ | 26,_ | 27,_ | 28,_ | 29,_ | 30,_=>simp [e0,e1,e2,e3]
 | 16,_=>exact absurd rfl hne
 | 17,_=>exact absurd rfl hne2
 | j+31,h=>exact absurd h (by omega)
noncomputable def xpS24:Code:=pwS24
theorem pw24 {T:Array Value} {n:Int} {tv pv:Value} {ts:List (List Op3)} {picks:List Int} {drain:Bool} {z:WA × Int} (hs:T.size=182) (t0:T[0]?=some (.int .i64 n)) (t1:T[10]?=some tv) (t2:T[11]?=some pv) (t3:T[3]?=some (.bool drain)) (hz:(wordG n.toNat ts).Run picks drain (wa0 ts) z) (hT:OpsAt E w tv ts) (hP:IntsAt E w pv picks)
  (hpl:picks.length≤10000000000) (hll:∀ l ∈ ts,l.length≤10000000000) (hp64:∀ p ∈ picks,-9223372036854775808≤p∧p≤9223372036854775807) (ho64:∀ l ∈ ts,∀ op ∈ l,I64 op.1∧I64 op.2.1∧I64 op.2.2) (hrole:E.role 0=.gone) (hmode:∀ b,E.mode b=0)
  (hc:∀ E1 w1 T' mv hv,Kept 0 none E w E1 w1→Stands E w E1 w1→T'.size=182→(∀ j,j < 31→j≠26→j≠27→T'[j]?=T[j]?)→T'[26]?=some mv→T'[27]?=some hv→MarkV E1 w1 mv (rWm n ts z)→NumV E1 w1 2 hv (rWh n ts z)→(∀ g,mv.ownBlock=some g→w.heap.size≤g)→(∀ g,hv.ownBlock=some g→w.heap.size≤g)→(∀ g,mv.ownBlock=some g→hv.ownBlock≠some g)→HG Try.prog 0 F E1 (G ((base 9).at ⟨T',[]⟩ k) []) w1) :
  HG Try.prog 0 F E (G ((base 9).at ⟨T,[]⟩ (.code pwS24 :: k)) []) w:=by
 obtain ⟨f,hf,fz⟩:=arrfv T hs
 have e0:=fz 0 _ t0
 have e1:=fz 10 _ t1
 have e2:=fz 11 _ t2
 have e3:=fz 3 _ t3
 rw [hf]
 change HGn Try.prog 0 F E w 100 _
 rw [show pwS24=xpS24 from rfl]
 simp only [xpS24,pwS24,pwT24,pwT23,pwT16,pwT14,pwT10,pwT9,pwT8,pwT7,pwT6,pwT5,pwT4,pwT3,pwT2,pwT1,pwT0,Try.f9,Option.getD_some,List.range,List.range.loop,List.map_cons,List.map_nil,e0,e1,e2,e3]
 replace hf:=Lib.hid hf
 replace hz:=Lib.hid hz
 replace hT:=Lib.hid hT
 replace hP:=Lib.hid hP
 replace hpl:=Lib.hid hpl
 replace hll:=Lib.hid hll
 replace hp64:=Lib.hid hp64
 replace ho64:=Lib.hid ho64
 replace hrole:=Lib.hid hrole
 replace hmode:=Lib.hid hmode
 replace hc:=Lib.hid hc
 replace hs:=Lib.hid hs
 clear t0 t1 t2 t3 fz
 refine Idl.rg (idl_hg Try.prog 0 F E w) [0,1,2,3,4,5,6,7,8,9] rfl ?_
 iterate 4 (refine Idl.v (idl_hg Try.prog 0 F E w) ?_; walk_nrm)
 refine Idl.callE (fn:=Try.f45) (vs:=#[.int .i64 n,tv,pv,.bool drain]) (idl_hg Try.prog 0 F E w) rfl rfl (by k_ne) rfl Try.func45 rfl rfl (by simp [Act.eval]) ?_
 refine word_holds hT.out hP.out (fun l hl=>Nat.le_trans (hll.out l hl) (by decide)) (Nat.le_trans hpl.out (by decide)) hp64.out ho64.out hrole.out hmode.out (fun E2 w2 mv hv ms hs po=>?_)
 replace po:=Lib.hid po
 change HGn Try.prog 0 F E2 w2 200 _
 walk_nrm
 iterate 5 (refine Idl.v (idl_hg Try.prog 0 F E2 w2) ?_; walk_nrm)
 refine Idl.re (idl_hg Try.prog 0 F E2 w2) ?_
 replace po:=po.out
 obtain ⟨q1,q2⟩:=po.rW hz.out
 subst q1 q2
 refine hc.out E2 w2 _ mv hv po.kept po.stands (by simp) (fun j hj hne hne2=>?_) (by simp) (by simp) ⟨owns_lower po.row (Nat.zero_le _),po.rowH⟩ ⟨owns_lower po.held (Nat.zero_le _),po.heldH⟩ (fun g hg=>(po.row.lt g hg).1) (fun g hg=>(po.held.lt g hg).1) po.apart
 rw [hf.out,arrf_get f (by omega)]
 match j,hj with
 | 0,_ | 1,_ | 2,_ | 3,_ | 4,_ | 5,_ | 6,_ | 7,_ | 8,_ | 9,_ | 10,_ | 11,_ | 12,_ | 13,_ | 14,_ | 15,_ | 16,_ | 17,_ | 18,_ | 19,_ | 20,_ | 21,_ | 22,_ | 23,_ | 24,_ | 25,_ | 28,_ | 29,_ | 30,_=>simp [e0,e1,e2,e3]
 | 26,_=>exact absurd rfl hne
 | 27,_=>exact absurd rfl hne2
 | j+31,h=>exact absurd h (by omega)
end
theorem Stands.but {S:Nat→Prop} {E0 E E':Env} {w0 w w':World} (h:Stands E0 w0 E w) (hS:StandsBut S E w E' w') (hd:∀ b,b < w0.heap.size→¬ S b):Stands E0 w0 E' w':=fun b o h1 h2=>by
 obtain ⟨a1,a2⟩:=h b o h1 h2
 exact hS b o (hd b (Array.getElem?_eq_some_iff.1 h2).1) a1 a2
theorem MarkV.lt {E:Env} {w:World} {v:Value} {ms:List Mk} (h:MarkV E w v ms):∀ g,v.ownBlock=some g→g < w.heap.size:=fun g hg=>(h.row.lt g hg).2
section
variable {F:Machine→Trace→Prop} {E:Env} {w:World}
end
end Go.Proofs.Ytimlbbleblijnaa.Co

namespace Go.Proofs.Ytimlbbleblijnaa.Co
open Go Go.Conc Go.RowKit
noncomputable def f7B:Code:=Try.f27.body.getD .skip
noncomputable def f7S0:Code:=match f7B with | .seq x _=>x | _=>.skip
noncomputable def f7S1:Code:=match f7B with | .seq _ (.seq x _)=>x | _=>.skip
noncomputable def f7T2:Code:=match f7B with | .seq _ (.seq _ x)=>x | _=>.skip
theorem f7_parts:f7B=.seq f7S0 (.seq f7S1 f7T2):=by kernel_rfl
noncomputable def xf7S0:Code:=f7S0
noncomputable def xf7T2:Code:=f7T2
theorem f7S1_wp {x:World} {Q:Exit→Act→World→Prop}
  (hQ:∀ T' x',T'.size=30→T'[1]?=some (.pointer (some ⟨x.heap.size,0,none⟩))→x'.heap=x.heap.push (.cells #[.int .i64 0] 46)→Q .normal ⟨T',[]⟩ x'):f7S1.wp Try.prog Q ⟨(Array.replicate 30 undef).setIfInBounds 0 (.bool false),[]⟩ x:=by
 simp only [f7S1,f7B,Try.f27,Option.getD_some]
 walk_nrm
 go_wp2_with fail
 exact hQ _ _ (by simp) (by simp) rfl
section
variable {h:Nat} {F:Machine→Trace→Prop} {E:Env} {w:World} {b₀:Frame} {a₀:Act} {ops₀:Array Oper} {i₀:Nat} {rest₀:List Nat} {k₀:List Item} {cl:List Frame}
theorem WSet.put {E E1:Env} {w w1:World} {b o:Nat} {n:Int} {K:Nat→Obj→Prop} (S:WSet E w E1 w1 ⟨b,o,none⟩ n) (hK:∀ c o,K c o→w.heap[c]?=some o∧E.H c=none∧c≠b):∀ c o,K c o→w1.heap[c]?=some o∧E1.H c=none∧c≠b:=fun c o hk=>by
 obtain ⟨k1,k2,k3⟩:=hK c o hk
 exact ⟨(S.stands k2 k1 k3).2,(S.stands k2 k1 k3).1,k3⟩
theorem fixed07_tail {T:Array Value} {wb:Nat} {K:Nat→Obj→Prop} (hs:T.size=30) (t1:T[1]?=some (.pointer (some ⟨wb,0,none⟩))) (M:NM wb K 0 E w)
  (hc:∀ E' w' v,Kept h none E w E' w'→E'.H=E.H→NM wb K v E' w'→HG Try.prog h F E' (G (b₀.at (a₀.put ((ops₀[i₀]?).bind (·.dst)) (.bool true)) (.inRegion ops₀ rest₀ :: k₀)) cl) w') :
  HGn Try.prog h F E w 200 (G ((base 27).at ⟨T,[]⟩ [.code f7T2]) (b₀.at a₀ (.inRegion ops₀ (i₀ :: rest₀) :: k₀) :: cl)):=by
 obtain ⟨f,hf,fz⟩:=arrfv T hs
 have e1:=fz 1 _ t1
 subst hf
 clear fz hs t1
 replace hc:=Lib.hid hc
 replace M:=Lib.hid M
 rw [show f7T2=xf7T2 from rfl]
 simp only [xf7T2,f7T2,f7B,Try.f27,Option.getD_some,List.range,List.range.loop,List.map_cons,List.map_nil,e1]
 refine Idl.q (idl_hg Try.prog h F E w) (Idl.rg (idl_hg Try.prog h F E w) [0,1,2] rfl ?_)
 refine Idl.v (idl_hg Try.prog h F E w) ?_
 walk_nrm
 refine Idl.callE (fn:=Try.f68) (vs:=#[.pointer (some ⟨wb,0,none⟩),.pointer none,.int .i64 5]) (idl_hg Try.prog h F E w) rfl rfl (by k_ne) rfl Try.func68 rfl rfl (by simp [Act.eval]) ?_
 refine wadd_nil (v:=0) (n:=5) M.out.word M.out.wordH (fun E2 w2 hE2 hK2 hWS=>?_)
 have M2:=M.out.wset hWS (by decide)
 rw [show IntKind.i64.wrap (IntKind.i64.wrap (0+5) - 5)=0 by decide]
 rw [show IntKind.i64.wrap (0+5)=5 by decide] at M2
 have H2:=hWS.H
 replace M2:=Lib.hid M2
 replace H2:=Lib.hid H2
 replace hK2:=Lib.hid hK2
 clear hWS hE2
 change HGn Try.prog h F E2 w2 200 _
 walk_nrm
 refine Idl.v (idl_hg Try.prog h F E2 w2) ?_
 walk_nrm
 refine Idl.re (idl_hg Try.prog h F E2 w2) (Idl.q (idl_hg Try.prog h F E2 w2) (Idl.rg (idl_hg Try.prog h F E2 w2) [0,1,2] rfl ?_))
 refine Idl.v (idl_hg Try.prog h F E2 w2) ?_
 walk_nrm
 refine Idl.callE (fn:=Try.f68) (vs:=#[.pointer (some ⟨wb,0,none⟩),.pointer none,.int .i64 (-7)]) (idl_hg Try.prog h F E2 w2) rfl rfl (by k_ne) rfl Try.func68 rfl rfl (by simp [Act.eval]) ?_
 refine wadd_nil (v:=5) (n:=-7) M2.out.word M2.out.wordH (fun E3 w3 hE3 hK3 hWS=>?_)
 have M3:=M2.out.wset hWS (by decide)
 rw [show IntKind.i64.wrap (IntKind.i64.wrap (5+-7) - -7)=5 by decide]
 rw [show IntKind.i64.wrap (5+-7) = -2 by decide] at M3
 have H3:=hWS.H
 replace M3:=Lib.hid M3
 replace H3:=Lib.hid H3
 replace hK3:=Lib.hid hK3
 clear hWS hE3
 change HGn Try.prog h F E3 w3 200 _
 walk_nrm
 refine Idl.v (idl_hg Try.prog h F E3 w3) ?_
 walk_nrm
 refine Idl.re (idl_hg Try.prog h F E3 w3) (Idl.q (idl_hg Try.prog h F E3 w3) (Idl.rg (idl_hg Try.prog h F E3 w3) [0,1,2] rfl ?_))
 refine Idl.v (idl_hg Try.prog h F E3 w3) ?_
 walk_nrm
 refine Idl.callE (fn:=Try.f69) (vs:=#[.pointer (some ⟨wb,0,none⟩),.pointer none,.int .i64 9]) (idl_hg Try.prog h F E3 w3) rfl rfl (by k_ne) rfl Try.func69 rfl rfl (by simp [Act.eval]) ?_
 refine wswap_nil (v:=-2) (n:=9) M3.out.word M3.out.wordH (fun E4 w4 hE4 hK4 hWS=>?_)
 have M4:=M3.out.wset hWS (by decide)
 have H4:=hWS.H
 replace M4:=Lib.hid M4
 replace H4:=Lib.hid H4
 replace hK4:=Lib.hid hK4
 clear hWS hE4
 change HGn Try.prog h F E4 w4 200 _
 walk_nrm
 refine Idl.v (idl_hg Try.prog h F E4 w4) ?_
 walk_nrm
 refine Idl.re (idl_hg Try.prog h F E4 w4) (Idl.q (idl_hg Try.prog h F E4 w4) (Idl.rg (idl_hg Try.prog h F E4 w4) [0,1,2] rfl ?_))
 refine Idl.v (idl_hg Try.prog h F E4 w4) ?_
 walk_nrm
 refine Idl.callE (fn:=Try.f70) (vs:=#[.pointer (some ⟨wb,0,none⟩),.pointer none]) (idl_hg Try.prog h F E4 w4) rfl rfl (by k_ne) rfl Try.func70 rfl rfl (by simp [Act.eval]) ?_
 refine wload_nil (v:=9) M4.out.word M4.out.wordH (fun E5 w5 hE5 hK5 hWS=>?_)
 have M5:=M4.out.wset hWS (by decide)
 have H5:=hWS.H
 replace M5:=Lib.hid M5
 replace H5:=Lib.hid H5
 replace hK5:=Lib.hid hK5
 clear hWS hE5
 change HGn Try.prog h F E5 w5 200 _
 walk_nrm
 refine Idl.v (idl_hg Try.prog h F E5 w5) ?_
 walk_nrm
 refine Idl.re (idl_hg Try.prog h F E5 w5) (Idl.q (idl_hg Try.prog h F E5 w5) (Idl.rg (idl_hg Try.prog h F E5 w5) [0,1,2,3,4,5,6,7,8,9,10,11,12,13,14] rfl ?_))
 iterate 15 (refine Idl.v (idl_hg Try.prog h F E5 w5) ?_; walk_nrm)
 refine Idl.re (idl_hg Try.prog h F E5 w5) (Idl.rt (idl_hg Try.prog h F E5 w5) ?_)
 refine Idl.leaveV (n:=1) (v:=.bool true) (fn:=Try.f27) (idl_hg Try.prog h F E5 w5) rfl rfl Try.func27 (fun w=>by simp [results,Try.f27,go_sem]) (fun w=>by simp [results,Try.f27,go_sem]) ?_
 exact hc.out E5 w5 9 (((hK2.out.trans hK3.out).trans hK4.out).trans hK5.out) (((H5.out.trans H4.out).trans H3.out).trans H2.out) M5.out
theorem fixed07_holds (hc:∀ E' w',Kept h none E w E' w'→Stands E w E' w'→HG Try.prog h F E' (G (b₀.at (a₀.put ((ops₀[i₀]?).bind (·.dst)) (.bool true)) (.inRegion ops₀ rest₀ :: k₀)) cl) w') :
  HGn Try.prog h F E w 200 (entry 27 Try.f27 #[] (b₀.at a₀ (.inRegion ops₀ (i₀ :: rest₀) :: k₀) :: cl)):=by
 have P1:HGn Try.prog h F E w 100 (G ((base 27).at ⟨(Array.replicate 30 undef).setIfInBounds 0 (.bool false),[]⟩ [.code (.seq f7S1 f7T2)]) (b₀.at a₀ (.inRegion ops₀ (i₀ :: rest₀) :: k₀) :: cl)):=by
  refine Idl.step (idl_hg Try.prog h F E w) _ _ _ rfl (fun _=>stepG_seq) ?_
  refine HG.quietM [.cells #[.int .i64 0] 46] (closed_none _) (fun T s=>T.size=30∧T[1]?=some (.pointer (some ⟨s,0,none⟩))) (by kernel_rfl) (by rfl) (fun x _ hx=>?_) (fun E1 w1 T1 S1 hnew hR=>?_)
  ·refine f7S1_wp (fun T' x' h1 h2 h3=>⟨rfl,rfl,fun b hb=>by rw [h3,Array.getElem?_push,if_neg (by omega)],fun i o hi=>?_,h1,h2⟩)
   match i,hi with
   | 0,hi =>
     cases hi
     rw [h3]
     simp
  ·obtain ⟨h1,h2⟩:=hR
   obtain ⟨n1,n2⟩:=hnew 0 _ rfl
   rw [Nat.add_zero] at n1 n2
   refine fixed07_tail (wb:=w.heap.size) (K:=fun b o=>w1.heap[b]?=some o∧E1.H b=none∧b≠w.heap.size) h1 h2 ⟨⟨rfl,_,_,n1,rfl⟩,n2,fun b o hk=>hk,by decide⟩ (fun E' w' v k1 k2 M=>?_)
   refine hc E' w' (S1.kept.trans k1) (fun b o z1 z2=>?_)
   obtain ⟨y1,y2⟩:=S1.st b o z1 z2
   have hl:=(Array.getElem?_eq_some_iff.1 z2).1
   obtain ⟨k1,k2,_⟩:=M.kobj b o ⟨y2,y1,by omega⟩
   exact ⟨k2,k1⟩
 clear hc
 replace P1:=Lib.hid P1
 unfold entry
 rw [show Try.f27.body.getD .skip=.seq xf7S0 (.seq f7S1 f7T2) from f7_parts,show Try.f27.ntmps=30 from rfl]
 generalize hG:(Code.seq f7S1 f7T2)=L at P1 ⊢
 simp only [xf7S0,f7S0,f7B,Try.f27,Option.getD_some]
 walk_nrm
 refine Idl.q (idl_hg Try.prog h F E w) (Idl.rg (idl_hg Try.prog h F E w) [0] rfl ?_)
 refine Idl.v (idl_hg Try.prog h F E w) ?_
 walk_nrm
 refine Idl.re (idl_hg Try.prog h F E w) ?_
 exact P1.out
end
end Go.Proofs.Ytimlbbleblijnaa.Co
