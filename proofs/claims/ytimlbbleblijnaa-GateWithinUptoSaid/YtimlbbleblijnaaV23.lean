/- Lemmas for the laws of this seat, laid together of PIn, PGek, PGem, PGep, PIp. -/
import Derived.Test.YtimlbbleblijnaaV18
import Derived.Test.YtimlbbleblijnaaV19
import Derived.Test.YtimlbbleblijnaaV20
import Derived.Test.YtimlbbleblijnaaV21
import Derived.Test.YtimlbbleblijnaaV22

set_option linter.unusedVariables false
set_option linter.unusedSimpArgs false
set_option maxRecDepth 100000
set_option maxHeartbeats 4000000
namespace Go.Proofs.Ytimlbbleblijnaa.Co
open Go Go.Conc Go.RowKit
open Go.ConcN (sumTo upd sumTo_upd upd_ne upd_same sumTo_congr le_sumTo)
def alR (ts:List (List Int)) (i t:Nat):Bool:=if t < i then !(runG ts).alive (ra0 ts i) t else false
theorem alR_succ (ts:List (List Int)) (i:Nat):alR ts (i+1)=upd (alR ts i) i (!(runG ts).alive (ra0 ts (i+1)) i):=by
  funext t
  unfold alR
  by_cases e:t=i
  · subst e
    rw [upd_same,if_pos (by omega)]
  · rw [upd_ne _ _ e]
    by_cases h:t < i
    · rw [if_pos (by omega),if_pos h]
      have ea:(ra0 ts (i+1)).at_ t=(ra0 ts i).at_ t:=by rw [ra0_succ]; exact upd_ne _ _ e
      show (!decide ((ra0 ts (i+1)).at_ t < _)) = !decide ((ra0 ts i).at_ t < _)
      rw [ea]
    · rw [if_neg (by omega),if_neg h]
theorem opsOf_get {ts:List (List Int)} {t:Nat} {l:List Int} (h:ts[t]?=some l):opsOf ts t=l:=by unfold opsOf; rw [h]; rfl
theorem ownsRow_dn {x:World} {A B:Nat} {e:TypeId} {sz:Nat} {v:Value} {n:Nat} {vs:List Value} (h:x.ownsRow A e sz v n vs) (hle:B≤A):x.ownsRow B e sz v n vs:=by
  obtain ⟨h1,h2⟩:=h
  refine ⟨h1,?_⟩
  rcases h2 with h2 | ⟨g,cap,cur,q1,q2,q3⟩
  · exact .inl h2
  · exact .inr ⟨g,cap,cur,q1,by omega,q3⟩
theorem measG {zz:Int} {r2:Int} {K K2:Nat} (hk:r2≠-2→K2=K+1) (hk2:K≤K2) (hle:(K:Int)≤zz):2 * (zz.toNat+1 - K2)+rWt (.int .i64 r2) < 2 * (zz.toNat+1 - K)+1:=meas (z:=(pa0,zz)) hk hk2 hle
theorem updt {α:Type} (f:Nat→α) (i:Nat) (a b:α):upd (upd f i a) i b=upd f i b:=by
  funext t
  by_cases e:t=i
  · subst e; rw [upd_same,upd_same]
  · rw [upd_ne _ _ e,upd_ne _ _ e,upd_ne _ _ e]
theorem RB.alc {B n K nxt:Nat} {pv ov:Value} {drain:Bool} {at_:Nat→Nat} {tl:Nat→Tl3} {told:List Tld} {al al':Nat→Bool} {x:World} (h:RB B pv drain n at_ tl told al K nxt ov x) (ha:∀ t,t < n→al t=al' t):RB B pv drain n at_ tl told al' K nxt ov x:=by
  refine ⟨h.run,h.bod,?_,h.out⟩
  rw [h.en]
  congr 3
  refine List.map_congr_left fun t ht=>?_
  rw [ha t (List.mem_range.1 ht)]
theorem ra0_tl (ts:List (List Int)):∀ n t,n≤t→(ra0 ts n).tl t=(0,0,0)
  | 0,_,_=>rfl
  | n+1,t,h=>by
    rw [ra0_succ]
    show upd (ra0 ts n).tl n _ t=_
    rw [upd_ne _ _ (by omega)]
    exact ra0_tl ts n t (by omega)
theorem bnd_told {ts:List (List Int)} {a:RA} (h:BndR ts a) (hs:sumTo ts.length (fun t=>(opsOf ts t).length)≤800000000000):a.told.length≤1000000000000 - 100000000000:=by
  have h1:=h.2
  have h2:sumTo ts.length a.at_≤sumTo ts.length (fun t=>(opsOf ts t).length):=sumTo_le _ h.1
  omega
theorem RB.onStart {B K nxt i cap:Nat} {pv ov:Value} {drain:Bool} {ts:List (List Int)} {al:Nat→Bool} {y:World} {l:List Int} {pa:Option Addr} (h:RB B pv drain ts.length (ra0 ts i).at_ (ra0 ts i).tl (ra0 ts i).told al K nxt ov y) (hl:ts[i]?=some l) (hpa:l≠[]→∃ la lo,pa=some ⟨la,lo,none⟩∧la < B∧∀ j c,l[j]?=some c→y.cell? ⟨la,lo+j,none⟩=some (.int .i64 c))
    (hpl:l.length≤100000000000) (hs:sumTo ts.length (fun t=>(opsOf ts t).length)≤800000000000) :
    Calls Try.prog 77 #[.pointer (some ⟨B+1,i * 4,none⟩),.int .i64 (i:Int),.slice pa l.length cap,.int .i64 0,ov] y fun e y'=>∃ ov',e=.returned ov'∧RB B pv drain ts.length (ra0 ts (i+1)).at_ (ra0 ts (i+1)).tl (ra0 ts (i+1)).told al K nxt ov' y'∧(∀ b,b < B→y'.heap[b]?=y.heap[b]?)∧y.heap.size≤y'.heap.size:=by
  have hlt:=(List.getElem?_eq_some_iff.1 hl).1
  obtain ⟨hb,hz⟩:=bnd_start (ts:=ts) i (by omega)
  have hat:=hz i (Nat.le_refl _)
  refine (h.on (k:=0) hlt hpa hpl (bnd_told hb hs) (by rw [hat]; exact Nat.zero_le _)).mono ?_
  rintro e y' ⟨ov',rfl,h1,h2,h3⟩
  refine ⟨ov',rfl,?_,h2,h3⟩
  rw [hat,ra0_tl ts i i (Nat.le_refl _)] at h1
  rw [ra0_succ]
  unfold startRA goesRA
  rw [opsOf_get hl]
  exact h1
theorem RB.onPick {B K nxt t cap:Nat} {pv ov:Value} {drain:Bool} {ts:List (List Int)} {a:RA} {al:Nat→Bool} {y:World} {l:List Int} {pa:Option Addr} (h:RB B pv drain ts.length (upd a.at_ t (a.at_ t+1)) (upd a.tl t (IntKind.i64.wrap ((a.tl t).1+1),(a.tl t).2.1,(a.tl t).2.2)) a.told al K nxt ov y) (hl:ts[t]?=some l) (hpa:l≠[]→∃ la lo,pa=some ⟨la,lo,none⟩∧la < B∧∀ j c,l[j]?=some c→y.cell? ⟨la,lo+j,none⟩=some (.int .i64 c))
    (hpl:l.length≤100000000000) (hs:sumTo ts.length (fun t=>(opsOf ts t).length)≤800000000000) (hb:BndR ts a) (ha:(runG ts).alive a t=true) :
    Calls Try.prog 77 #[.pointer (some ⟨B+1,t * 4,none⟩),.int .i64 (t:Int),.slice pa l.length cap,.int .i64 (K:Int),ov] y fun e y'=>∃ ov',e=.returned ov'∧RB B pv drain ts.length ((runG ts).pick a t (K:Int)).at_ ((runG ts).pick a t (K:Int)).tl ((runG ts).pick a t (K:Int)).told al K nxt ov' y'∧(∀ b,b < B→y'.heap[b]?=y.heap[b]?)∧y.heap.size≤y'.heap.size:=by
  have hlt:=(List.getElem?_eq_some_iff.1 hl).1
  have ha':a.at_ t < l.length:=by
    have:=of_decide_eq_true ha
    rwa [opsOf_get hl] at this
  refine (h.on (k:=(K:Int)) hlt hpa hpl (bnd_told hb hs) (by rw [upd_same]; exact ha')).mono ?_
  rintro e y' ⟨ov',rfl,h1,h2,h3⟩
  refine ⟨ov',rfl,?_,h2,h3⟩
  rw [upd_same,upd_same,updt,updt] at h1
  show RB B pv drain ts.length (goesRA ts a t _ _ _).at_ (goesRA ts a t _ _ _).tl (goesRA ts a t _ _ _).told al K nxt ov' y'
  unfold goesRA
  rw [opsOf_get hl]
  exact h1
theorem RB.bump {B n K nxt t:Nat} {pv ov:Value} {drain:Bool} {at_:Nat→Nat} {tl:Nat→Tl3} {told:List Tld} {al:Nat→Bool} {x:World} {s:Int} (h:RB B pv drain n at_ tl told al K nxt ov x) (ht:t < n) :
    RB B pv drain n (upd at_ t (at_ t+1)) (upd tl t (s,(tl t).2.1,(tl t).2.2)) told al K nxt ov ((x.setCell ⟨B+1,t * 4,none⟩ (.int .i64 ((at_ t+1:Nat):Int))).setCell ⟨B+1,t * 4+1,none⟩ (.int .i64 s))∧(∀ b,b < B→((x.setCell ⟨B+1,t * 4,none⟩ (.int .i64 ((at_ t+1:Nat):Int))).setCell ⟨B+1,t * 4+1,none⟩ (.int .i64 s)).heap[b]?=x.heap[b]?)∧((x.setCell ⟨B+1,t * 4,none⟩ (.int .i64 ((at_ t+1:Nat):Int))).setCell ⟨B+1,t * 4+1,none⟩ (.int .i64 s)).heap.size=x.heap.size∧(x.setCell ⟨B+1,t * 4,none⟩ (.int .i64 ((at_ t+1:Nat):Int))).cell? ⟨B+1,t * 4+1,none⟩=some (.int .i64 (tl t).1)∧(x.setCell ⟨B+1,t * 4,none⟩ (.int .i64 ((at_ t+1:Nat):Int))).frozen? ⟨B+1,t * 4+1,none⟩=false:=by
  obtain ⟨c,e1,e2,o⟩:=h.toOn ht
  have o1:=o.set 0 ((at_ t+1:Nat):Int) (by decide)
  have o2:=o1.set 1 s (by decide)
  obtain ⟨h1,h2,_⟩:=h.ofOn (a':=at_ t+1) (s:=s) ht e1 o2
  exact ⟨h1,h2,by simp [World.setCell],o1.cells.2.1,o1.cells.2.2.2.2 _⟩
set_option maxHeartbeats 8000000 in
theorem rbodies_few {x:World} {ba bo cap pb po pcap:Nat} {ta pa:Option Addr} {LA:Nat→Option Addr} {LC:Nat→Nat} {ts:List (List Int)} {picks:List Int} {drain:Bool} {z:RA × Int} (hn:ts.length≤8) (hz:(runG ts).Run picks drain (ra0 ts ts.length) z)
    (hT:IntsTX x ta ba bo LA LC ts) (hpa:picks≠[]→pa=some ⟨pb,po,none⟩) (hps:∀ i p,picks[i]?=some p→x.cell? ⟨pb,po+i,none⟩=some (.int .i64 p)) (hnp:picks.length≤100000000000) (hll:∀ l ∈ ts,l.length≤100000000000) (hsum:sumTo ts.length (fun t=>(opsOf ts t).length)≤800000000000) (hp64:∀ p ∈ picks,-9223372036854775808≤p∧p≤9223372036854775807) (hz2:z.2≤100000000000000) :
    Calls Try.prog 38 #[.slice ta ts.length cap,.slice pa picks.length pcap,.bool drain] x fun e x'=>∃ ov,e=.returned (.tuple #[ov,.int .i64 z.2])∧(∀ b,b < x.heap.size→x'.heap[b]?=x.heap[b]?)∧x'.ownsRow x.heap.size 117 5 ov z.1.told.length (tldsV z.1.told):=by
  have q:¬ (8:Int) < (ts.length:Int):=by omega
  have hm1:=make_bd ts.length hn
  have hm2:=make_b ts.length hn
  obtain ⟨R1,hR1⟩:∃ R:Array Value,R=bodsZ ts.length:=⟨_,rfl⟩
  obtain ⟨R2,hR2⟩:∃ R:Array Value,R=((List.range ts.length).map fun _=>Value.bool false).toArray:=⟨_,rfl⟩
  rw [← hR1] at hm1
  rw [← hR2] at hm2
  replace hR1:=Lib.hid hR1
  replace hR2:=Lib.hid hR2
  replace hT:=Lib.hid hT
  replace hz:=Lib.hid hz
  replace hsum:=Lib.hid hsum
  obtain ⟨B,hB⟩:∃ B,B=x.heap.size:=⟨_,rfl⟩
  rw [← hB]
  have hold0:∀ (o1 o2 o3 o4:Obj) (b:Nat),b < B→((((x.alloc o1).alloc o2).alloc o3).alloc o4).heap[b]?=x.heap[b]?:=fun o1 o2 o3 o4 b hb=>by
    rw [alloc_old (by rw [alloc_size,alloc_size,alloc_size]; omega),alloc_old (by rw [alloc_size,alloc_size]; omega),alloc_old (by rw [alloc_size]; omega),alloc_old (by omega)]
  have hRB0:RB B (.slice pa picks.length pcap) drain ts.length (ra0 ts 0).at_ (ra0 ts 0).tl (ra0 ts 0).told (alR ts 0) 0 0 (.slice (some ⟨B+3,0,none⟩) 0 0) ((((x.alloc (.cells #[.slice pa picks.length pcap,.bool drain,.int .i64 0,.int .i64 0] 89)).alloc (.cells R1 114)).alloc (.cells R2 4)).alloc (.cells #[] 117)):=by
    have s1:(x.alloc (.cells #[.slice pa picks.length pcap,.bool drain,.int .i64 0,.int .i64 0] 89)).heap.size=B+1:=by rw [alloc_size,hB]
    have s2:((x.alloc (.cells #[.slice pa picks.length pcap,.bool drain,.int .i64 0,.int .i64 0] 89)).alloc (.cells R1 114)).heap.size=B+2:=by rw [alloc_size,s1]
    have s3:(((x.alloc (.cells #[.slice pa picks.length pcap,.bool drain,.int .i64 0,.int .i64 0] 89)).alloc (.cells R1 114)).alloc (.cells R2 4)).heap.size=B+3:=by rw [alloc_size,s2]
    refine ⟨?_,⟨R1,?_,?_,fun t ht=>?_⟩,?_,⟨by simp [ra0,ra00,tldsV],.inr ⟨B+3,0,#[],rfl,Nat.le_refl _,?_,by simp [ra0,ra00],by simp,by simp,by simp [ra0,ra00,tldsV]⟩⟩⟩
    · rw [alloc_old (by rw [s3]; omega),alloc_old (by rw [s2]; omega),alloc_old (by rw [s1]; omega),hB]; exact alloc_new
    · rw [alloc_old (by rw [s3]; omega),alloc_old (by rw [s2]; omega)]
      have:=@alloc_new (x.alloc (.cells #[.slice pa picks.length pcap,.bool drain,.int .i64 0,.int .i64 0] 89)) (.cells R1 114)
      rw [s1] at this
      exact this
    · rw [hR1.out]; simp [bodsZ]
    · rw [hR1.out]
      have hg:∀ j,j < ts.length * 4→(bodsZ ts.length)[j]?=some (.int .i64 0):=fun j hj=>by simp [bodsZ,hj]
      exact ⟨hg _ (by omega),hg _ (by omega),hg _ (by omega),hg _ (by omega)⟩
    · rw [alloc_old (by rw [s3]; omega)]
      have:=@alloc_new ((x.alloc (.cells #[.slice pa picks.length pcap,.bool drain,.int .i64 0,.int .i64 0] 89)).alloc (.cells R1 114)) (.cells R2 4)
      rw [s2] at this
      rw [this,hR2.out]
      congr 3
    · have:=@alloc_new (((x.alloc (.cells #[.slice pa picks.length pcap,.bool drain,.int .i64 0,.int .i64 0] 89)).alloc (.cells R1 114)).alloc (.cells R2 4)) (.cells #[] 117)
      rw [s3] at this
      exact this
  replace hRB0:=Lib.hid hRB0
  replace hold0:=Lib.hid hold0
  have hrow:∀ (y:World),(∀ b,b < B→y.heap[b]?=x.heap[b]?)→∀ (t:Nat) (l:List Int),ts[t]?=some l→y.cell? ⟨ba,bo+t,none⟩=some (.slice (LA t) l.length (LC t))∧ba < B∧(l≠[]→∃ la lo,LA t=some ⟨la,lo,none⟩∧la < B∧∀ j c,l[j]?=some c→y.cell? ⟨la,lo+j,none⟩=some (.int .i64 c)):=fun y hy t l hl=>by
    have h1:=hT.out.row t l hl
    have hlb:=World.block_lt_of_cell? x _ h1
    rw [← hB] at hlb
    refine ⟨(World.cell?_of_block (hy _ hlb)).trans h1,hlb,fun hne=>?_⟩
    obtain ⟨la,lo,e1,e2⟩:=hT.out.ops t l hl hne
    cases hll2:l with
    | nil=>exact absurd hll2 hne
    | cons c0 r =>
      have h0:=e2 0 c0 (by rw [hll2]; rfl)
      have hlb2:=World.block_lt_of_cell? x _ h0
      rw [← hB] at hlb2
      exact ⟨la,lo,e1,hlb2,fun j c hj=>(World.cell?_of_block (hy la hlb2)).trans (e2 j c (by rw [hll2]; exact hj))⟩
  replace hrow:=Lib.hid hrow
  go_enter Try.func38,Try.ntmps38
  go_wp2_with fail
  rw [← hB]
  replace hB:=Lib.hid hB
  have hcallS:∀ (i:Nat) (l:List Int),ts[i]?=some l→∀ (ov:Value) (wr:World),RB B (.slice pa picks.length pcap) drain ts.length (ra0 ts i).at_ (ra0 ts i).tl (ra0 ts i).told (alR ts i) 0 0 ov wr→(∀ b,b < B→wr.heap[b]?=x.heap[b]?)→∀ y:World,y=wr∨y=wr.drew →
      Calls Try.prog 77 #[.pointer (some ⟨B+1,i * 4,none⟩),.int .i64 (i:Int),.slice (LA i) l.length (LC i),.int .i64 0,ov] y fun e y'=>∃ ov',e=.returned ov'∧Hid (RB B (.slice pa picks.length pcap) drain ts.length (ra0 ts (i+1)).at_ (ra0 ts (i+1)).tl (ra0 ts (i+1)).told (alR ts i) 0 0 ov' y')∧Hid (∀ b,b < B→y'.heap[b]?=x.heap[b]?):=fun i l hl ov wr h ho y hy=>by
    have hh:y.heap=wr.heap:=by rcases hy with rfl | rfl <;> rfl
    have h':=h.same hh
    have ho':∀ b,b < B→y.heap[b]?=x.heap[b]?:=fun b hb=>by rw [hh]; exact ho b hb
    refine (h'.onStart hl (hrow.out y ho' i l hl).2.2 (hll l (List.mem_of_getElem? hl)) hsum.out).mono ?_
    rintro e y' ⟨ov',rfl,a1,a2,a3⟩
    exact ⟨ov',rfl,a1,fun b hb=>(a2 b hb).trans (ho' b hb)⟩
  replace hcallS:=Lib.hid hcallS
  go_loopw [11,12] (fun ov tv wr=>∃ i:Nat,tv=.int .i64 (i:Int)∧i≤ts.length∧Hid (RB B (.slice pa picks.length pcap) drain ts.length (ra0 ts i).at_ (ra0 ts i).tl (ra0 ts i).told (alR ts i) 0 0 ov wr)∧Hid (∀ b,b < B→wr.heap[b]?=x.heap[b]?)) (fun _ tv _=>ts.length+1 - natOfV tv)
  case atStart=>exact ⟨0,rfl,Nat.zero_le _,hRB0,Lib.hid (hold0.out _ _ _ _)⟩
  case round =>
    clear hold0 hRB0
    obtain ⟨i,rfl,hi,hrb,hold⟩:=hrel
    by_cases hlt:i < ts.length
    · obtain rfl:=hT.out.ta (by omega)
      have g1:(i:Int) < (ts.length:Int):=by omega
      have g2:(0:Int)≤(i:Int):=by omega
      obtain ⟨l,hl⟩:∃ l,ts[i]?=some l:=⟨_,List.getElem?_eq_getElem hlt⟩
      obtain ⟨c1,c1b,-⟩:=hrow.out wr hold.out i l hl
      have hc:=hcallS.out i l hl _ wr hrb.out hold.out
      replace hc:=Lib.hid hc
      have hiw:IntKind.i64.wrap ((i:Int)+1)=((i+1:Nat):Int):=by rw [IntKind.wrap_i64]; omega
      clear hcallS hps hpa hsum hz
      go_wp2
      go_region_held3 (fun w'=>w'.cell? ⟨ba,bo+i,none⟩=some (.slice (LA i) l.length (LC i))) (first | assumption | go_keep | exact (hrow.out _ (Hid.out ‹Hid (∀ b,b < B→_=_)›) i l hl).1) ((with_reducible refine Calls.mono (hc.out _ (by first | exact .inl rfl | exact .inr rfl)) ?_; rintro e y' ⟨ov',rfl,hrb1,hold1⟩))
      rename_i hHeld
      clear hc
      have d1:=(hrb1.out.atCell hlt).1
      have c1':=(hrow.out y' hold1.out i l hl).1
      obtain ⟨bi,hbi⟩:∃ b,b=(ra0 ts (i+1)).at_ i:=⟨_,rfl⟩
      rw [← hbi] at d1
      have hz0:y'.frozen? ⟨B+1+1,i,none⟩=false:=obj_thaw hrb1.out.en i
      have hz1:y'.cell? ⟨B+1+1,i,none⟩=some (.bool (alR ts i i)):=row_cell hrb1.out.en hlt
      have hal:decide (l.length≤bi)=(!(runG ts).alive (ra0 ts (i+1)) i):=by
        show _ = !decide ((ra0 ts (i+1)).at_ i < (opsOf ts i).length)
        rw [opsOf_get hl,← hbi]
        by_cases h:bi < l.length
        · rw [decide_eq_true h,decide_eq_false (by omega)]; rfl
        · rw [decide_eq_false h,decide_eq_true (by omega)]; rfl
      have hend:=hrb1.out.ended hlt (decide (l.length≤bi))
      have kb:∀ v,(y'.setCell ⟨B+1+1,i,none⟩ v).cell? ⟨ba,bo+i,none⟩=some (.slice (LA i) l.length (LC i)):=fun v=>(World.cell?_of_block (heap_setCell_ne (a:=⟨B+1+1,i,none⟩) (by dsimp only; omega))).trans c1'
      have kd:∀ v,(y'.setCell ⟨B+1+1,i,none⟩ v).cell? ⟨B+1,i * 4,none⟩=some (.int .i64 (bi:Int)):=fun v=>(World.cell?_of_block (heap_setCell_ne (a:=⟨B+1+1,i,none⟩) (by dsimp only; omega))).trans d1
      have ki:∀ v,((y'.setCell ⟨B+1+1,i,none⟩ v).cell? ⟨B+1+1,i,none⟩).isSome=true:=fun v=>by
        have h1:=heap_set (a:=⟨B+1+1,i,none⟩) (v:=v) (w:=y') rfl hrb1.out.en
        rw [obj_cell (o:=i) (v:=v) h1 (by simp [hlt])]
        rfl
      have kz:∀ v,(y'.setCell ⟨B+1+1,i,none⟩ v).frozen? ⟨B+1+1,i,none⟩=false:=fun v=>obj_thaw (heap_set (a:=⟨B+1+1,i,none⟩) (v:=v) (w:=y') rfl hrb1.out.en) i
      rw [hal,← alR_succ,← hal] at hend
      replace hend:=Lib.hid hend
      clear hHeld c1 hrb hold hal hbi
      replace hold1:=Lib.hid hold1
      go_wp2
      go_region_held3 (fun w'=>w'.cell? ⟨B+1,i * 4,none⟩=some (.int .i64 (bi:Int))∧w'.cell? ⟨ba,bo+i,none⟩=some (.slice (LA i) l.length (LC i))∧w'.frozen? ⟨B+1+1,i,none⟩=false∧(w'.cell? ⟨B+1+1,i,none⟩).isSome=true) (first | go_keep | (go_split_ands; refine ⟨?_,?_,?_,?_⟩ <;> first | assumption | exact kd _ | exact kb _ | exact kz _ | exact ki _)) ((fail))
      obtain ⟨W3,hW3⟩:∃ W,(y'.setCell ⟨B+1+1,i,none⟩ (.bool (decide (l.length≤bi)))).drew=W:=⟨_,rfl⟩
      rw [hW3]
      rename_i hHeld
      have hfin:RB B (.slice pa picks.length pcap) drain ts.length (ra0 ts (i+1)).at_ (ra0 ts (i+1)).tl (ra0 ts (i+1)).told (alR ts (i+1)) 0 0 ov' W3∧∀ b,b < B→W3.heap[b]?=x.heap[b]?:=by
        rw [← hW3]
        exact ⟨hend.out.1.same rfl,fun b hb=>(hend.out.2 b hb).trans (hold1.out b hb)⟩
      replace hfin:=Lib.hid hfin
      clear hHeld hend hold1 hrb1 kb kd ki kz hz0 hz1 d1 c1' hW3
      go_wp2_with fail
      exact ⟨⟨i+1,rfl,by omega,hfin.out.1,hfin.out.2⟩,by simp [natOfV]; omega⟩
    · obtain rfl:i=ts.length:=by omega
      have g1:¬ (ts.length:Int) < (ts.length:Int):=by omega
      have hrb2:=hrb.out.alc (al':=fun t=>!(runG ts).alive (ra0 ts ts.length) t) (fun t ht=>by unfold alR; rw [if_pos ht])
      have hpso:∀ y:World,(∀ b,b < B→y.heap[b]?=x.heap[b]?)→∀ i p,picks[i]?=some p→y.cell? ⟨pb,po+i,none⟩=some (.int .i64 p):=fun y hy i p hi=>by
        have h1:=hps i p hi
        have hlb:=World.block_lt_of_cell? x _ h1
        rw [← hB.out] at hlb
        exact (World.cell?_of_block (hy _ hlb)).trans h1
      have hnext:=hrb2.next (G:=runG ts) (a:=ra0 ts ts.length) rfl (fun t _=>rfl) (rfg_start hz.out) hz2 hn hnp hp64 hpa (hpso _ hold.out)
      have hbnd0:=(bnd_start (ts:=ts) ts.length (Nat.le_refl _)).1
      have hold':=hold.out
      replace hnext:=Lib.hid hnext
      replace hpso:=Lib.hid hpso
      replace hbnd0:=Lib.hid hbnd0
      replace hold':=Lib.hid hold'
      replace hz:=Lib.hid hz
      clear hcallS hrb hrb2 hold hps
      go_wp2_with fail
      refine hnext.out.mono ?_
      rintro e w2 ⟨r,K',nxt',rfl,hrp,hnx,hk,-,hb2,hsz2⟩
      have hb3:∀ b,b < B→w2.heap[b]?=x.heap[b]?:=fun b hb=>(hb2 b hb).trans (hold'.out b hb)
      replace hrp:=Lib.hid hrp
      replace hnx:=Lib.hid hnx
      replace hb3:=Lib.hid hb3
      clear hnext hk hsz2 hb2 hold'
      go_wp2_with fail
      go_loopw [11,13] (fun ov tv wx=>∃ (a:RA) (r:Int) (K nxt:Nat),tv=.int .i64 r∧Hid (RB B (.slice pa picks.length pcap) drain ts.length a.at_ a.tl a.told (fun t=>!(runG ts).alive a t) K nxt ov wx)∧Hid (NxtG (runG ts) picks drain a r K nxt z)∧Hid (∀ b,b < B→wx.heap[b]?=x.heap[b]?)∧Hid (BndR ts a)) (fun _ tv wx=>2 * (z.2.toNat+1 - Co.kOf B wx)+rWt tv)
      case atStart=>exact ⟨ra0 ts ts.length,r,K',nxt',rfl,hrp,hnx,hb3,hbnd0⟩
      case round =>
        clear hrp hnx hb3 hbnd0
        obtain ⟨a,r,K,nxt,rfl,hrp,hnx,hbx,hbd⟩:=hrel
        rcases hnx.out with ⟨rfl,hzz⟩ | ⟨rfl,hrf⟩ | ⟨t,rfl,ht,hal,hrf⟩
        · have g2:((-2:Int) == -2)=true:=by decide
          have c1:=obj_cell hrp.out.run (o:=2) rfl
          have hfinal:Hid ((∀ b,b < B→wr.heap[b]?=x.heap[b]?)∧wr.ownsRow B 117 5 u11 z.1.told.length (tldsV z.1.told)∧z.2=(K:Int)):=⟨hbx.out,by rw [hzz]; exact ownsRow_dn hrp.out.out (by omega),by rw [hzz]⟩
          clear hpso hrp hnx hbx hzz hbd
          go_wp2
          go_region_held3 (fun W=>W.cell? ⟨B,2,none⟩=some (.int .i64 (K:Int))) (first | assumption | go_keep) ((fail))
          go_wp2_with fail
          refine bodyPost_ret (results_tmp2 rfl _ _ _) rfl ⟨u11,?_,hfinal.out.1,ownsRow_same hfinal.out.2.1 (fun _ _=>rfl)⟩
          rw [hfinal.out.2.2]
          rfl
        · have g2:((-1:Int) == -2)=false:=by decide
          have g3:(-1:Int) < 0:=by decide
          have hnext:=hrp.out.next (G:=runG ts) (a:=a) rfl (fun t _=>rfl) hrf hz2 hn hnp hp64 hpa (hpso.out _ hbx.out)
          have hK0:=hrp.out.kOf
          have hle:=rfg_le hrf
          replace hnext:=Lib.hid hnext
          replace hK0:=Lib.hid hK0
          clear hpso hrp hnx hrf
          go_wp2_with fail
          refine hnext.out.mono ?_
          rintro e w2 ⟨r2,K2,nxt2,rfl,hrp2,hnx2,hk2,hk2',hb2',hsz3⟩
          have hK2:=hrp2.kOf
          have hb3:∀ b,b < B→w2.heap[b]?=x.heap[b]?:=fun b hb=>(hb2' b hb).trans (hbx.out b hb)
          replace hrp2:=Lib.hid hrp2
          replace hnx2:=Lib.hid hnx2
          replace hb3:=Lib.hid hb3
          replace hK2:=Lib.hid hK2
          have hm:=measG hk2 hk2' hle
          replace hm:=Lib.hid hm
          clear hnext hk2 hk2' hb2'
          go_wp2_with fail
          exact ⟨⟨a,r2,K2,nxt2,rfl,hrp2,hnx2,hb3,hbd⟩,by rw [hK2.out,hK0.out]; exact hm.out⟩
        · have g2:((t:Int) == -2)=false:=by rw [beq_eq_false_iff_ne]; omega
          have g3:¬ (t:Int) < 0:=by omega
          replace ht:t < ts.length:=ht
          obtain rfl:=hT.out.ta (by omega)
          obtain ⟨l,hl⟩:∃ l,ts[t]?=some l:=⟨_,List.getElem?_eq_getElem ht⟩
          have hle:=rfg_le hrf
          have g4:(t:Int) < (ts.length:Int):=by omega
          have g5:(0:Int)≤(t:Int):=by omega
          have hK0:=hrp.out.kOf
          have hcl:a.at_ t < l.length:=by
            have:=of_decide_eq_true hal
            rwa [opsOf_get hl] at this
          have hlb:=hll l (List.mem_of_getElem? hl)
          have hc3:=obj_cell hrp.out.run (o:=2) rfl
          obtain ⟨d1,d2,dz⟩:=hrp.out.atCell ht
          have dz0:=dz (t * 4)
          have dz1:=dz (t * 4+1)
          have hbump:=hrp.out.bump (s:=IntKind.i64.wrap ((a.tl t).1+1)) ht
          have hiw:IntKind.i64.wrap ((a.at_ t:Int)+1)=((a.at_ t+1:Nat):Int):=by rw [IntKind.wrap_i64]; omega
          obtain ⟨an,han⟩:∃ n,n=a.at_ t:=⟨_,rfl⟩
          obtain ⟨sv,hsv⟩:∃ n,n=(a.tl t).1:=⟨_,rfl⟩
          rw [← han] at d1 hiw hcl
          rw [← hsv] at d2
          rw [← han,← hsv] at hbump
          have hcast:((an+1:Nat):Int)=(an:Int)+1:=by push_cast; rfl
          have hwr:IntKind.i64.wrap (sv+1)=wrap64 (sv+1):=by first | (rw [IntKind.wrap_i64]; unfold wrap64; omega) | simp only [go_sem] | (unfold wrap64; rw [IntKind.wrap_i64]; rfl)
          rw [hcast,hwr] at hbump
          obtain ⟨W1,hW1⟩:∃ W,wr.setCell ⟨B+1,t * 4,none⟩ (.int .i64 ((an:Int)+1))=W:=⟨_,rfl⟩
          obtain ⟨W2,hW2⟩:∃ W,W1.setCell ⟨B+1,t * 4+1,none⟩ (.int .i64 (wrap64 (sv+1)))=W:=⟨_,rfl⟩
          rw [hW1,hW2] at hbump
          obtain ⟨hb1,hb2,hb3,hc2,dz1'⟩:=hbump
          rw [hcast] at hiw
          have hold2:∀ b,b < B→W2.heap[b]?=x.heap[b]?:=fun b hb=>(hb2 b hb).trans (hbx.out b hb)
          have c1:=(hrow.out W2 hold2 t l hl).1
          have c1b:=(hrow.out W2 hold2 t l hl).2.1
          have c2:=obj_cell hb1.run (o:=2) rfl
          have hcall:∀ y:World,y=W2∨y=W2.drew→Calls Try.prog 77 #[.pointer (some ⟨B+1,t * 4,none⟩),.int .i64 (t:Int),.slice (LA t) l.length (LC t),.int .i64 (K:Int),u11] y fun e y'=>∃ ov',e=.returned ov'∧Hid (RB B (.slice pa picks.length pcap) drain ts.length ((runG ts).pick a t (K:Int)).at_ ((runG ts).pick a t (K:Int)).tl ((runG ts).pick a t (K:Int)).told (fun t=>!(runG ts).alive a t) K nxt ov' y')∧Hid (∀ b,b < B→y'.heap[b]?=x.heap[b]?):=fun y hy=>by
            have hh:y.heap=W2.heap:=by rcases hy with rfl | rfl <;> rfl
            have h':=hb1.same hh
            have ho':∀ b,b < B→y.heap[b]?=x.heap[b]?:=fun b hb=>by rw [hh]; exact hold2 b hb
            rw [← hwr,han,hsv] at h'
            refine (h'.onPick hl (hrow.out y ho' t l hl).2.2 hlb hsum.out hbd.out hal).mono ?_
            rintro e y' ⟨ov',rfl,a1,a2,a3⟩
            exact ⟨ov',rfl,a1,fun b hb=>(a2 b hb).trans (ho' b hb)⟩
          have hbd2:=bnd_pick (k:=(K:Int)) hbd.out ht hal
          replace hcall:=Lib.hid hcall
          replace hb1:=Lib.hid hb1
          replace hb2:=Lib.hid hb2
          replace hold2:=Lib.hid hold2
          replace hrf:=Lib.hid hrf
          replace hal:=Lib.hid hal
          replace hbd2:=Lib.hid hbd2
          replace han:=Lib.hid han
          replace hsv:=Lib.hid hsv
          replace hK0:=Lib.hid hK0
          clear hrp hnx hbx dz hbd hb3 hc3 hcast hwr
          go_wp2_with fail
          try rw [hW2]
          replace hW1:=Lib.hid hW1
          replace hW2:=Lib.hid hW2
          clear d1 d2 dz0 dz1 hc2 dz1'
          go_region_held3 (fun w'=>w'.cell? ⟨ba,bo+t,none⟩=some (.slice (LA t) l.length (LC t))∧w'.cell? ⟨B,2,none⟩=some (.int .i64 (K:Int))) (first | assumption | go_keep | exact ⟨(hrow.out _ (Hid.out ‹Hid (∀ b,b < B→_=_)›) t l hl).1,obj_cell (Hid.out ‹Hid (RB _ _ _ _ _ _ _ _ _ _ _ _)›).run rfl⟩) ((with_reducible refine Calls.mono (hcall.out _ (by first | exact .inl rfl | exact .inr rfl)) ?_; rintro e y' ⟨ov',rfl,hrb1,hold1⟩))
          rename_i hHeld
          clear hcall hb1 hb2 hold2 c1 c2 hW1 hW2 hHeld
          have d1:=(hrb1.out.atCell ht).1
          have c1':=(hrow.out y' hold1.out t l hl).1
          obtain ⟨bi,hbi⟩:∃ b,b=((runG ts).pick a t (K:Int)).at_ t:=⟨_,rfl⟩
          rw [← hbi] at d1
          have hz0:y'.frozen? ⟨B+1+1,t,none⟩=false:=obj_thaw hrb1.out.en t
          have hz1:y'.cell? ⟨B+1+1,t,none⟩=some (.bool (!(runG ts).alive a t)):=row_cell hrb1.out.en ht
          have hal2:decide (l.length≤bi)=(!(runG ts).alive ((runG ts).pick a t (K:Int)) t):=by
            show _ = !decide (((runG ts).pick a t (K:Int)).at_ t < (opsOf ts t).length)
            rw [opsOf_get hl,← hbi]
            by_cases h:bi < l.length
            · rw [decide_eq_true h,decide_eq_false (by omega)]; rfl
            · rw [decide_eq_false h,decide_eq_true (by omega)]; rfl
          have hend:=hrb1.out.ended ht (decide (l.length≤bi))
          have kb:∀ v,(y'.setCell ⟨B+1+1,t,none⟩ v).cell? ⟨ba,bo+t,none⟩=some (.slice (LA t) l.length (LC t)):=fun v=>(World.cell?_of_block (heap_setCell_ne (a:=⟨B+1+1,t,none⟩) (by dsimp only; omega))).trans c1'
          have kd:∀ v,(y'.setCell ⟨B+1+1,t,none⟩ v).cell? ⟨B+1,t * 4,none⟩=some (.int .i64 (bi:Int)):=fun v=>(World.cell?_of_block (heap_setCell_ne (a:=⟨B+1+1,t,none⟩) (by dsimp only; omega))).trans d1
          have ki:∀ v,((y'.setCell ⟨B+1+1,t,none⟩ v).cell? ⟨B+1+1,t,none⟩).isSome=true:=fun v=>by
            have h1:=heap_set (a:=⟨B+1+1,t,none⟩) (v:=v) (w:=y') rfl hrb1.out.en
            rw [obj_cell (o:=t) (v:=v) h1 (by simp [ht])]
            rfl
          have kz:∀ v,(y'.setCell ⟨B+1+1,t,none⟩ v).frozen? ⟨B+1+1,t,none⟩=false:=fun v=>obj_thaw (heap_set (a:=⟨B+1+1,t,none⟩) (v:=v) (w:=y') rfl hrb1.out.en) t
          have hend2:=hend.1.alc (al':=fun s=>!(runG ts).alive ((runG ts).pick a t (K:Int)) s) (fun s _=>by
            by_cases e:s=t
            · subst e
              rw [upd_same,hal2]
            · rw [upd_ne _ _ e]
              show (!decide (a.at_ s < _)) = !decide (upd a.at_ t _ s < _)
              rw [upd_ne _ _ e])
          have hend3:=hend.2
          replace hend2:=Lib.hid hend2
          replace hend3:=Lib.hid hend3
          clear hal2 hend hbi
          go_wp2
          go_region_held3 (fun w'=>w'.cell? ⟨B+1,t * 4,none⟩=some (.int .i64 (bi:Int))∧w'.cell? ⟨ba,bo+t,none⟩=some (.slice (LA t) l.length (LC t))∧w'.frozen? ⟨B+1+1,t,none⟩=false∧(w'.cell? ⟨B+1+1,t,none⟩).isSome=true) (first | go_keep | (go_split_ands; refine ⟨?_,?_,?_,?_⟩ <;> first | assumption | exact kd _ | exact kb _ | exact kz _ | exact ki _)) ((fail))
          obtain ⟨W3,hW3⟩:∃ W,(y'.setCell ⟨B+1+1,t,none⟩ (.bool (decide (l.length≤bi)))).drew=W:=⟨_,rfl⟩
          rw [hW3]
          rename_i hHeld
          have hfin:RB B (.slice pa picks.length pcap) drain ts.length ((runG ts).pick a t (K:Int)).at_ ((runG ts).pick a t (K:Int)).tl ((runG ts).pick a t (K:Int)).told (fun s=>!(runG ts).alive ((runG ts).pick a t (K:Int)) s) K nxt ov' W3:=by
            rw [← hW3]
            exact hend2.out.same rfl
          have hold3:∀ b,b < B→W3.heap[b]?=x.heap[b]?:=by
            rw [← hW3]
            exact fun b hb=>(hend3.out b hb).trans (hold1.out b hb)
          have hnext:=hfin.next (G:=runG ts) (a:=(runG ts).pick a t (K:Int)) rfl (fun t _=>rfl) hrf.out hz2 hn hnp hp64 hpa (hpso.out _ hold3)
          replace hold3:=Lib.hid hold3
          replace hnext:=Lib.hid hnext
          clear hpso hHeld hend2 hend3 hold1 hrb1 kb kd ki kz hz0 hz1 d1 c1' hW3 hfin hrf
          go_wp2_with fail
          refine hnext.out.mono ?_
          rintro e w2 ⟨r2,K2,nxt2,rfl,hrp2,hnx2,hk2,hk2',hb2',hsz3⟩
          have hK2:=hrp2.kOf
          have hb3:∀ b,b < B→w2.heap[b]?=x.heap[b]?:=fun b hb=>(hb2' b hb).trans (hold3.out b hb)
          replace hrp2:=Lib.hid hrp2
          replace hnx2:=Lib.hid hnx2
          replace hb3:=Lib.hid hb3
          replace hK2:=Lib.hid hK2
          have hm:=measG hk2 hk2' hle
          replace hm:=Lib.hid hm
          have hwt:rWt (.int .i64 (t:Int))=1:=by
            unfold rWt
            dsimp only
            rw [if_neg (by omega)]
          replace hwt:=Lib.hid hwt
          clear hnext hk2 hk2' hb2'
          go_wp2_with fail
          exact ⟨⟨_,r2,K2,nxt2,rfl,hrp2,hnx2,hb3,hbd2⟩,by rw [hK2.out,hK0.out,hwt.out]; exact hm.out⟩
def incO (o:Op3):Op3:=(o.1,o.2.1,IntKind.i64.wrap (o.2.2+1))
structure W1 (x wr:World) (LB:Nat→Nat) (ts:List (List Op3)) (i:Nat):Prop where
  ops:∀ j l,j < ts.length→ts[j]?=some l→wr.heap[LB j]?=some (.cells (ownO (if j < i then l.map incO else l)).toArray 34)
  old:∀ b,(∀ j,j < ts.length→b≠LB j)→wr.heap[b]?=x.heap[b]?
  size:wr.heap.size=x.heap.size
theorem OpsAt.toX {E:Env} {w x:World} {tv:Value} {ts:List (List Op3)} (h:OpsAt E w tv ts) (hx:∀ b,E.H b=none→x.heap[b]?=w.heap[b]?):∃ (ta:Option Addr) (ba bo cap:Nat) (LA:Nat→Option Addr) (LC:Nat→Nat),tv=.slice ta ts.length cap∧OpsX x ta ba bo LA LC ts:=by
  obtain ⟨ta,ba,bo,cap,LA,LC,h1,h2,h3⟩:=h.at_
  refine ⟨ta,ba,bo,cap,LA,LC,h1,h2,fun i l hi=>?_,fun i l hi hne=>?_⟩
  · obtain ⟨⟨q1,q2⟩,_⟩:=h3 i l hi
    exact (World.cell?_of_block (a:=⟨ba,bo+i,none⟩) (hx ba q2)).trans q1
  · obtain ⟨_,q3⟩:=h3 i l hi
    obtain ⟨la,lo,e1,e2,e3⟩:=q3 hne
    refine ⟨la,lo,e1,fun j op hj=>?_⟩
    obtain ⟨k1,k2,k3⟩:=e3 j op hj
    exact ⟨(World.cell?_of_block (a:=⟨la,lo+j * 3,none⟩) (hx la e2)).trans k1,(World.cell?_of_block (a:=⟨la,lo+j * 3+1,none⟩) (hx la e2)).trans k2,(World.cell?_of_block (a:=⟨la,lo+j * 3+2,none⟩) (hx la e2)).trans k3⟩
theorem IntsAt.toX {E:Env} {w x:World} {pv:Value} {ps:List Int} (h:IntsAt E w pv ps) (hx:∀ b,E.H b=none→x.heap[b]?=w.heap[b]?):IntsX x pv ps:=by
  obtain ⟨pa,pb,po,cap,h1,h2,h3⟩:=h.at_
  exact ⟨pa,pb,po,cap,h1,h2,fun i p hi=>(World.cell?_of_block (a:=⟨pb,po+i,none⟩) (hx pb (h3 i p hi).2)).trans (h3 i p hi).1⟩
theorem OwnT.same {B n:Nat} {x w:World} {ov:Value} {LB:Nat→Nat} {ts:List (List Op3)} (h:OwnT B x ov LB ts n) (hs:∀ b,(ov.ownBlock=some b∨∃ i,i < n∧b=LB i)→w.heap[b]?=x.heap[b]?):OwnT B w ov LB ts n :=
  ⟨ownsRow_same h.row fun g hg=>hs g (.inl hg),h.up,h.ne,h.inj,fun i l h1 h2=>(hs _ (.inr ⟨i,h1,rfl⟩)).trans (h.ops i l h1 h2)⟩
theorem OwnT.lower {B n:Nat} {x:World} {ov:Value} {LB:Nat→Nat} {ts:List (List Op3)} (h:OwnT B x ov LB ts n):OwnT 0 x ov LB ts n :=
  ⟨owns_lower h.row (Nat.zero_le _),fun _ _=>Nat.zero_le _,h.ne,h.inj,h.ops⟩
structure OwnV (E:Env) (w:World) (ov:Value) (LB:Nat→Nat) (ts:List (List Op3)):Prop where
  own:OwnT 0 w ov LB ts ts.length
  oH:∀ g,ov.ownBlock=some g→E.H g=none
  lH:∀ i,i < ts.length→E.H (LB i)=none
theorem OwnV.of_new {E E1:Env} {x' w':World} {B:Nat} {ov:Value} {LB:Nat→Nat} {ts:List (List Op3)} (h:OwnT B x' ov LB ts ts.length) (hn:∀ b,B≤b→E.H b=none) (hv:∀ b,E.H b=none→w'.heap[b]?=x'.heap[b]?) (hH:E1.H=E.H):OwnV E1 w' ov LB ts:=by
  have h1:∀ g,ov.ownBlock=some g→E.H g=none:=fun g hg=>hn g (h.row.lt g hg).1
  have h2:∀ i,i < ts.length→E.H (LB i)=none:=fun i hi=>hn _ (h.up i hi)
  refine ⟨(h.same fun b hb=>?_).lower,fun g hg=>by rw [hH]; exact h1 g hg,fun i hi=>by rw [hH]; exact h2 i hi⟩
  rcases hb with hb | ⟨i,hi,rfl⟩
  · exact hv b (h1 b hb)
  · exact hv _ (h2 i hi)
theorem OwnV.stands {E E':Env} {w w':World} {ov:Value} {LB:Nat→Nat} {ts:List (List Op3)} (h:OwnV E w ov LB ts) (S:Stands E w E' w'):OwnV E' w' ov LB ts:=by
  have k1:∀ g,ov.ownBlock=some g→E'.H g=none∧w'.heap[g]?=w.heap[g]?:=fun g hg=>by
    have hl:=(h.own.row.lt g hg).2
    obtain ⟨s1,s2⟩:=S g _ (h.oH g hg) (Array.getElem?_eq_getElem hl)
    exact ⟨s1,by rw [s2,Array.getElem?_eq_getElem hl]⟩
  have k2:∀ i,i < ts.length→E'.H (LB i)=none∧w'.heap[LB i]?=w.heap[LB i]?:=fun i hi=>by
    have ho:=h.own.ops i _ hi (List.getElem?_eq_getElem hi)
    obtain ⟨s1,s2⟩:=S _ _ (h.lH i hi) ho
    exact ⟨s1,by rw [s2,ho]⟩
  refine ⟨h.own.same fun b hb=>?_,fun g hg=>(k1 g hg).1,fun i hi=>(k2 i hi).1⟩
  rcases hb with hb | ⟨i,hi,rfl⟩
  · exact (k1 b hb).2
  · exact (k2 i hi).2
theorem OwnV.toX {E:Env} {w x:World} {ov:Value} {LB:Nat→Nat} {ts:List (List Op3)} (h:OwnV E w ov LB ts) (hx:∀ b,E.H b=none→x.heap[b]?=w.heap[b]?):OwnT 0 x ov LB ts ts.length :=
  h.own.same fun b hb=>by
    rcases hb with hb | ⟨i,hi,rfl⟩
    · exact hx b (h.oH b hb)
    · exact hx _ (h.lH i hi)
theorem lenOf_get {ts:List (List Op3)} {i:Nat} {l:List Op3} (h:ts[i]?=some l):lenOf ts i=l.length:=by unfold lenOf; rw [h]; rfl
theorem OwnV.at {E:Env} {w:World} {ov:Value} {LB:Nat→Nat} {ts:List (List Op3)} (h:OwnV E w ov LB ts):OpsAt E w ov ts:=by
  obtain ⟨A,g,cap,e1,e2,e3,e4⟩:=owns_cells h.own.row
  refine ⟨⟨A,g,0,cap,fun i=>some ⟨LB i,0,none⟩,fun i=>lenOf ts i+2,e1,e2,fun i l hi=>?_⟩⟩
  have hlt:=(List.getElem?_eq_some_iff.1 hi).1
  refine ⟨⟨?_,h.oH g (e3 (by omega))⟩,fun hne=>⟨LB i,0,rfl,h.lH i hlt,fun j op hj=>?_⟩⟩
  · have:=e4 i _ (rowO_get hlt)
    show w.cell? ⟨g,0+i,none⟩=some (.slice (some ⟨LB i,0,none⟩) l.length (lenOf ts i+2))
    rw [lenOf_get hi] at this ⊢
    rw [Nat.zero_add]
    exact this
  · obtain ⟨k1,k2,k3⟩:=ownO_op hj
    have hb:=h.own.ops i l hlt hi
    rw [Nat.zero_add]
    exact ⟨obj_cell hb (by rw [← Array.getElem?_toList]; exact k1),obj_cell hb (by rw [← Array.getElem?_toList]; exact k2),obj_cell hb (by rw [← Array.getElem?_toList]; exact k3)⟩
def incT (ts:List (List Op3)):List (List Op3):=ts.map (·.map incO)
theorem incT_len (ts:List (List Op3)):(incT ts).length=ts.length:=by simp [incT]
theorem incT_lenOf (ts:List (List Op3)) (i:Nat):lenOf (incT ts) i=lenOf ts i:=by
  unfold lenOf incT
  rw [List.getElem?_map]
  cases ts[i]? <;> simp
theorem W1.own {B:Nat} {x x':World} {ov:Value} {LB:Nat→Nat} {ts:List (List Op3)} (h:OwnT B x ov LB ts ts.length) (k:W1 x x' LB ts ts.length):OwnT B x' ov LB (incT ts) (incT ts).length:=by
  rw [incT_len]
  have er:rowO LB (incT ts) ts.length=rowO LB ts ts.length:=by
    unfold rowO
    refine List.map_congr_left fun i _=>?_
    rw [incT_lenOf]
  refine ⟨?_,h.up,h.ne,h.inj,fun i l hi hl=>?_⟩
  · rw [er]
    exact ownsRow_same h.row fun g hg=>k.old g fun j hj e=>h.ne j hj (by rw [hg,e])
  · unfold incT at hl
    rw [List.getElem?_map,List.getElem?_eq_getElem hi] at hl
    have:=k.ops i _ hi (List.getElem?_eq_getElem hi)
    rw [if_pos hi] at this
    rw [← Option.some.inj hl]
    exact this
structure PickV (E:Env) (w:World) (b:Nat) (ps:List Int):Prop where
  row:w.heap[b]?=some (.cells (ownI ps).toArray 3)
  H:E.H b=none
theorem PickV.stands {E E':Env} {w w':World} {b:Nat} {ps:List Int} (h:PickV E w b ps) (S:Stands E w E' w'):PickV E' w' b ps:=by
  obtain ⟨s1,s2⟩:=S b _ h.H h.row
  exact ⟨s2,s1⟩
theorem PickV.at {E:Env} {w:World} {b:Nat} {ps:List Int} (h:PickV E w b ps):IntsAt E w (.slice (some ⟨b,0,none⟩) ps.length (ps.length+2)) ps :=
  ⟨⟨_,b,0,_,rfl,fun _=>rfl,fun i p hi=>⟨obj_cell h.row (by rw [← Array.getElem?_toList,Nat.zero_add]; exact ownI_get hi),h.H⟩⟩⟩
structure MarkV (E:Env) (w:World) (v:Value) (ms:List Mk):Prop where
  row:w.ownsRow 0 37 4 v ms.length (mksV ms)
  H:∀ g,v.ownBlock=some g→E.H g=none
theorem MarkV.stands {E E':Env} {w w':World} {v:Value} {ms:List Mk} (h:MarkV E w v ms) (S:Stands E w E' w'):MarkV E' w' v ms:=by
  have k1:∀ g,v.ownBlock=some g→E'.H g=none∧w'.heap[g]?=w.heap[g]?:=fun g hg=>by
    have hl:=(h.row.lt g hg).2
    obtain ⟨s1,s2⟩:=S g _ (h.H g hg) (Array.getElem?_eq_getElem hl)
    exact ⟨s1,by rw [s2,Array.getElem?_eq_getElem hl]⟩
  exact ⟨ownsRow_same h.row fun g hg=>(k1 g hg).2,fun g hg=>(k1 g hg).1⟩
theorem MarkV.toX {E:Env} {w x:World} {v:Value} {ms:List Mk} (h:MarkV E w v ms) (hx:∀ b,E.H b=none→x.heap[b]?=w.heap[b]?):x.ownsRow 0 37 4 v ms.length (mksV ms):=ownsRow_same h.row fun g hg=>hx g (h.H g hg)
theorem MarkV.of_new {E E1:Env} {x' w':World} {B:Nat} {v:Value} {ms:List Mk} (h:x'.ownsRow B 37 4 v ms.length (mksV ms)) (hn:∀ b,B≤b→E.H b=none) (hv:∀ b,E.H b=none→w'.heap[b]?=x'.heap[b]?) (hH:E1.H=E.H):MarkV E1 w' v ms :=
  ⟨owns_lower (ownsRow_same h fun g hg=>hv g (hn g (h.lt g hg).1)) (Nat.zero_le _),fun g hg=>by rw [hH]; exact hn g (h.lt g hg).1⟩
def StandsBut (S:Nat→Prop) (E:Env) (w:World) (E':Env) (w':World):Prop:=∀ b o,¬ S b→E.H b=none→w.heap[b]?=some o→E'.H b=none∧w'.heap[b]?=some o
theorem MarkV.but {S:Nat→Prop} {E E':Env} {w w':World} {v:Value} {ms:List Mk} (h:MarkV E w v ms) (hS:StandsBut S E w E' w') (hd:∀ g,v.ownBlock=some g→¬ S g):MarkV E' w' v ms:=by
  have k1:∀ g,v.ownBlock=some g→E'.H g=none∧w'.heap[g]?=w.heap[g]?:=fun g hg=>by
    have hl:=(h.row.lt g hg).2
    obtain ⟨s1,s2⟩:=hS g _ (hd g hg) (h.H g hg) (Array.getElem?_eq_getElem hl)
    exact ⟨s1,by rw [s2,Array.getElem?_eq_getElem hl]⟩
  exact ⟨ownsRow_same h.row fun g hg=>(k1 g hg).2,fun g hg=>(k1 g hg).1⟩
theorem PickV.but {S:Nat→Prop} {E E':Env} {w w':World} {b:Nat} {ps:List Int} (h:PickV E w b ps) (hS:StandsBut S E w E' w') (hd:¬ S b):PickV E' w' b ps:=by
  obtain ⟨s1,s2⟩:=hS b _ hd h.H h.row
  exact ⟨s2,s1⟩
theorem OwnV.but {S:Nat→Prop} {E E':Env} {w w':World} {ov:Value} {LB:Nat→Nat} {ts:List (List Op3)} (h:OwnV E w ov LB ts) (hS:StandsBut S E w E' w') (hd:∀ g,ov.ownBlock=some g→¬ S g) (hd2:∀ i,i < ts.length→¬ S (LB i)):OwnV E' w' ov LB ts:=by
  have k1:∀ g,ov.ownBlock=some g→E'.H g=none∧w'.heap[g]?=w.heap[g]?:=fun g hg=>by
    have hl:=(h.own.row.lt g hg).2
    obtain ⟨s1,s2⟩:=hS g _ (hd g hg) (h.oH g hg) (Array.getElem?_eq_getElem hl)
    exact ⟨s1,by rw [s2,Array.getElem?_eq_getElem hl]⟩
  have k2:∀ i,i < ts.length→E'.H (LB i)=none∧w'.heap[LB i]?=w.heap[LB i]?:=fun i hi=>by
    have ho:=h.own.ops i _ hi (List.getElem?_eq_getElem hi)
    obtain ⟨s1,s2⟩:=hS _ _ (hd2 i hi) (h.lH i hi) ho
    exact ⟨s1,by rw [s2,ho]⟩
  refine ⟨h.own.same fun b hb=>?_,fun g hg=>(k1 g hg).1,fun i hi=>(k2 i hi).1⟩
  rcases hb with hb | ⟨i,hi,rfl⟩
  · exact (k1 b hb).2
  · exact (k2 i hi).2
section
variable {F:Machine→Trace→Prop} {E:Env} {w:World} {fr:Frame} {k:List Item} {cs:List Frame}
end
theorem tldsV_get:∀ {ms:List Tld} {i:Nat} {m:Tld},ms[i]?=some m→∀ {j:Nat},j < 5→(tldsV ms)[i * 5+j]?=(tldV m)[j]?
  | m0 :: ms,0,m,h,j,hj=>by
    cases h
    have e:tldsV (m0 :: ms)=tldV m0 ++ tldsV ms:=by simp [tldsV]
    rw [e,List.getElem?_append_left (by simp [tldV]; omega),Nat.zero_mul,Nat.zero_add]
  | m0 :: ms,i+1,m,h,j,hj=>by
    have e:tldsV (m0 :: ms)=tldV m0 ++ tldsV ms:=by simp [tldsV]
    have hl:(tldV m0).length=5:=rfl
    rw [e,List.getElem?_append_right (by rw [hl]; omega),hl,show (i+1) * 5+j - 5=i * 5+j by omega]
    exact tldsV_get (by simpa using h) hj
  | [],_,_,h,_,_=>by simp at h
def TldAt (x:World) (v:Value) (ms:List Tld):Prop:=∃ (A:Option Addr) (g cap:Nat),v=.slice A ms.length cap∧(0 < ms.length→A=some ⟨g,0,none⟩)∧∀ i u,(tldsV ms)[i]?=some u→x.cell? ⟨g,i,none⟩=some u
theorem TldAt.of_owns {x:World} {B:Nat} {v:Value} {ms:List Tld} (h:x.ownsRow B 117 5 v ms.length (tldsV ms)):TldAt x v ms:=by
  obtain ⟨h1,h2⟩:=h
  rcases h2 with ⟨rfl,h0⟩ | ⟨g,cap,cur,rfl,hb,hg,_,_,_,ht⟩
  · have:ms=[]:=List.eq_nil_of_length_eq_zero h0
    subst this
    exact ⟨none,0,0,rfl,fun h=>absurd h (Nat.lt_irrefl _),fun i u hu=>by simp [tldsV] at hu⟩
  · refine ⟨_,g,cap,rfl,fun _=>rfl,fun i u hu=>?_⟩
    rw [← ht] at hu
    refine obj_cell hg ?_
    rw [← Array.getElem?_toList]
    rw [List.getElem?_take] at hu
    split at hu
    · exact hu
    · cases hu
theorem TldAt.mark {x:World} {g:Nat} {ms:List Tld} (h:∀ i u,(tldsV ms)[i]?=some u→x.cell? ⟨g,i,none⟩=some u) {i:Nat} {m:Tld} (hm:ms[i]?=some m):x.cell? ⟨g,i * 5,none⟩=some (.int .i64 m.1)∧x.cell? ⟨g,i * 5+1,none⟩=some (.int .i64 m.2.1)∧x.cell? ⟨g,i * 5+2,none⟩=some (.int .i64 m.2.2.1)∧x.cell? ⟨g,i * 5+3,none⟩=some (.int .i64 m.2.2.2.1)∧x.cell? ⟨g,i * 5+4,none⟩=some (.int .i64 m.2.2.2.2):=by
  have hmk:∀ j,j < 5→(tldsV ms)[i * 5+j]?=(tldV m)[j]?:=fun j hj=>tldsV_get hm hj
  exact ⟨h _ _ (by have:=hmk 0 (by decide); simpa [tldV] using this),h _ _ (by have:=hmk 1 (by decide); simpa [tldV] using this),h _ _ (by have:=hmk 2 (by decide); simpa [tldV] using this),h _ _ (by have:=hmk 3 (by decide); simpa [tldV] using this),h _ _ (by have:=hmk 4 (by decide); simpa [tldV] using this)⟩
theorem told_same {x:World} {av bv:Value} {ms:List Tld} (ha:TldAt x av ms) (hb:TldAt x bv ms) (hml:ms.length≤1000000000000) :
    Calls Try.prog 40 #[av,bv] x fun e x'=>e=.returned (.bool true)∧∃ k,x'=x.drewN k:=by
  obtain ⟨A,g,cap,rfl,ha1,ha2⟩:=ha
  obtain ⟨A',g',cap',rfl,hb1,hb2⟩:=hb
  replace ha2:=Lib.hid ha2
  replace hb2:=Lib.hid hb2
  go_enter Try.func40,Try.ntmps40
  go_wp2
  go_loopw [5] (fun v wr=>∃ i:Nat,v=.int .i64 (i:Int)∧i≤ms.length∧∃ k,wr=x.drewN k) (fun v _=>ms.length+1 - natOfV v)
  case atStart=>exact ⟨0,rfl,Nat.zero_le _,0,rfl⟩
  case round =>
    obtain ⟨i,rfl,hi,k,rfl⟩:=hrel
    by_cases hlt:i < ms.length
    · obtain rfl:=ha1 (by omega)
      obtain rfl:=hb1 (by omega)
      obtain ⟨⟨m1,m2,m3,m4,m5⟩,hm⟩:∃ m,ms[i]?=some m:=⟨_,List.getElem?_eq_getElem hlt⟩
      obtain ⟨a1,a2,a3,a4,a5⟩:=TldAt.mark ha2.out hm
      obtain ⟨b1,b2,b3,b4,b5⟩:=TldAt.mark hb2.out hm
      dsimp only at a1 a2 a3 a4 a5 b1 b2 b3 b4 b5
      have g1:(i:Int) < (ms.length:Int):=by omega
      have g2:(0:Int)≤(i:Int):=by omega
      have hiw:IntKind.i64.wrap ((i:Int)+1)=((i+1:Nat):Int):=by rw [IntKind.wrap_i64]; omega
      go_wp2
      go_quiet (fail)
      go_wp2
      exact ⟨⟨i + 1, by rw [Int.natCast_add]; rfl, by omega, _, rfl⟩, by have e : natOfV (.int .i64 ((i : Int) + 1)) = i + 1 := by simp [natOfV]
                                                                         rw [e]; simp [natOfV]; omega⟩
    · obtain rfl:i=ms.length:=by omega
      have g1:¬ (ms.length:Int) < (ms.length:Int):=by omega
      go_wp2
      go_ret
      exact ⟨rfl,k,rfl⟩
def rTl (ts:List (List Int)) (z:RA × Int):List Tld:=if 8 < ts.length then [] else z.1.told
def rK (ts:List (List Int)) (z:RA × Int):Int:=if 8 < ts.length then 0 else z.2
theorem rbodies_any {x:World} {ba bo cap pb po pcap:Nat} {ta pa:Option Addr} {LA:Nat→Option Addr} {LC:Nat→Nat} {ts:List (List Int)} {picks:List Int} {drain:Bool} {z:RA × Int} (hz:(runG ts).Run picks drain (ra0 ts ts.length) z)
    (hT:IntsTX x ta ba bo LA LC ts) (hpa:picks≠[]→pa=some ⟨pb,po,none⟩) (hps:∀ i p,picks[i]?=some p→x.cell? ⟨pb,po+i,none⟩=some (.int .i64 p)) (hnp:picks.length≤100000000000) (hll:∀ l ∈ ts,l.length≤100000000000) (hsum:ts.length≤8→sumTo ts.length (fun t=>(opsOf ts t).length)≤800000000000) (hp64:∀ p ∈ picks,-9223372036854775808≤p∧p≤9223372036854775807) (hz2:ts.length≤8→z.2≤100000000000000) :
    Calls Try.prog 38 #[.slice ta ts.length cap,.slice pa picks.length pcap,.bool drain] x fun e x'=>∃ ov,e=.returned (.tuple #[ov,.int .i64 (rK ts z)])∧(∀ b,b < x.heap.size→x'.heap[b]?=x.heap[b]?)∧x'.ownsRow x.heap.size 117 5 ov (rTl ts z).length (tldsV (rTl ts z)):=by
  unfold rTl rK
  by_cases h:8 < ts.length
  · rw [if_pos h,if_pos h]
    refine (rbodies_many h).mono ?_
    rintro e x' ⟨rfl,rfl⟩
    exact ⟨_,rfl,fun b _=>rfl,⟨by simp [tldsV],.inl ⟨rfl,rfl⟩⟩⟩
  · rw [if_neg h,if_neg h]
    exact rbodies_few (by omega) hz hT hpa hps hnp hll (hsum (by omega)) hp64 (hz2 (by omega))
def rnF:FuncId→Bool:=fun f=>f == 19 || f == 24 || f == 26 || f == 38 || f == 40 || f == 66 || f == 77
theorem closed_rn:Closed Try.prog rnF:=by
  refine ⟨fun f hf=>?_,fun f fn c hf hfn hb=>?_⟩
  · have h:f=19∨f=24∨f=26∨f=38∨f=40∨f=66∨f=77:=by simpa [rnF,or_assoc] using hf
    rcases h with rfl | rfl | rfl | rfl | rfl | rfl | rfl
    · exact ⟨Try.f19,Try.func19,by kernel_rfl,.inl (by rfl)⟩
    · exact ⟨Try.f24,Try.func24,by kernel_rfl,.inl (by rfl)⟩
    · exact ⟨Try.f26,Try.func26,by kernel_rfl,.inl (by rfl)⟩
    · exact ⟨Try.f38,Try.func38,by kernel_rfl,.inl (by rfl)⟩
    · exact ⟨Try.f40,Try.func40,by kernel_rfl,.inl (by rfl)⟩
    · exact ⟨Try.f66,Try.func66,by kernel_rfl,.inl (by rfl)⟩
    · exact ⟨Try.f77,Try.func77,by kernel_rfl,.inl (by rfl)⟩
  · have h:f=19∨f=24∨f=26∨f=38∨f=40∨f=66∨f=77:=by simpa [rnF,or_assoc] using hf
    rcases h with rfl | rfl | rfl | rfl | rfl | rfl | rfl
    · rw [Try.func19] at hfn
      obtain rfl:=Option.some.inj hfn
      have h2:Try.f19.body=some (Try.f19.body.getD .skip):=by rfl
      rw [h2] at hb
      obtain rfl:=Option.some.inj hb
      show quietCode Try.prog rnF (Try.f19.body.getD .skip)=true
      kernel_rfl
    · rw [Try.func24] at hfn
      obtain rfl:=Option.some.inj hfn
      have h2:Try.f24.body=some (Try.f24.body.getD .skip):=by rfl
      rw [h2] at hb
      obtain rfl:=Option.some.inj hb
      show quietCode Try.prog rnF (Try.f24.body.getD .skip)=true
      kernel_rfl
    · rw [Try.func26] at hfn
      obtain rfl:=Option.some.inj hfn
      have h2:Try.f26.body=some (Try.f26.body.getD .skip):=by rfl
      rw [h2] at hb
      obtain rfl:=Option.some.inj hb
      show quietCode Try.prog rnF (Try.f26.body.getD .skip)=true
      kernel_rfl
    · rw [Try.func38] at hfn
      obtain rfl:=Option.some.inj hfn
      have h2:Try.f38.body=some (Try.f38.body.getD .skip):=by rfl
      rw [h2] at hb
      obtain rfl:=Option.some.inj hb
      show quietCode Try.prog rnF (Try.f38.body.getD .skip)=true
      kernel_rfl
    · rw [Try.func40] at hfn
      obtain rfl:=Option.some.inj hfn
      have h2:Try.f40.body=some (Try.f40.body.getD .skip):=by rfl
      rw [h2] at hb
      obtain rfl:=Option.some.inj hb
      show quietCode Try.prog rnF (Try.f40.body.getD .skip)=true
      kernel_rfl
    · rw [Try.func66] at hfn
      obtain rfl:=Option.some.inj hfn
      have h2:Try.f66.body=some (Try.f66.body.getD .skip):=by rfl
      rw [h2] at hb
      obtain rfl:=Option.some.inj hb
      show quietCode Try.prog rnF (Try.f66.body.getD .skip)=true
      kernel_rfl
    · rw [Try.func77] at hfn
      obtain rfl:=Option.some.inj hfn
      have h2:Try.f77.body=some (Try.f77.body.getD .skip):=by rfl
      rw [h2] at hb
      obtain rfl:=Option.some.inj hb
      show quietCode Try.prog rnF (Try.f77.body.getD .skip)=true
      kernel_rfl
noncomputable def rB0:Code:=Try.f7.body.getD .skip
noncomputable def rT2:Code:=match rB0 with | .seq _ (.seq _ x)=>x | _=>.skip
noncomputable def rT3:Code:=match rT2 with | .seq _ x=>x | _=>.skip
noncomputable def rL:Code:=match rT3 with | .seq (.seq _ (.block _ (.loop c))) _=>c | _=>.skip
end Go.Proofs.Ytimlbbleblijnaa.Co
