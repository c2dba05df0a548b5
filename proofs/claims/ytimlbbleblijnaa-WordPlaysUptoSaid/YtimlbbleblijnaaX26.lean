/- Lemmas for the laws of this seat, laid together of POc, PGee, PGef, POd. -/
import Derived.Test.YtimlbbleblijnaaX24
import Derived.Test.YtimlbbleblijnaaX25

set_option linter.unusedVariables false
set_option linter.unusedSimpArgs false
set_option maxRecDepth 100000
set_option maxHeartbeats 4000000
namespace Go.Proofs.Ytimlbbleblijnaa.Co
open Go Go.Conc Go.RowKit
open Go.ConcN (sumTo upd sumTo_upd upd_ne upd_same sumTo_congr le_sumTo)
theorem rplayW_many {x:World} {n:Int} {N cap:Nat} {ta:Option Addr} {pv dv:Value} (hr:n < 1∨1048576 < n∨8 < N):Calls Try.prog 44 #[.int .i64 n,.slice ta N cap,pv,dv] x fun e x'=>e=.returned (.tuple #[.slice none 0 0,.slice none 0 0])∧x'=x:=by
 by_cases h1:n < 1
 ·go_enter Try.func44,Try.ntmps44
  go_wp2
  exact bodyPost_ret (results_tmp2 rfl _ _ _) rfl ⟨rfl,rfl⟩
 ·by_cases h2:1048576 < n
  ·go_enter Try.func44,Try.ntmps44
   go_wp2
   exact bodyPost_ret (results_tmp2 rfl _ _ _) rfl ⟨rfl,rfl⟩
  ·have q:(8:Int) < (N:Int):=by omega
   go_enter Try.func44,Try.ntmps44
   go_wp2
   exact bodyPost_ret (results_tmp2 rfl _ _ _) rfl ⟨rfl,rfl⟩
set_option maxHeartbeats 8000000 in
theorem rplayW_few {x:World} {n ba bo cap pb po pcap:Nat} {ta pa:Option Addr} {LA:Nat→Option Addr} {LC:Nat→Nat} {ts:List (List Op3)} {picks:List Int} {drain:Bool} {z:WA × Int} (hn1:1≤n) (hn2:n≤1048576) (hn:ts.length≤8) (hz:(wordG n ts).Run picks drain (wa0 ts) z)
  (hT:OpsX x ta ba bo LA LC ts) (hpa:picks≠[]→pa=some ⟨pb,po,none⟩) (hps:∀ i p,picks[i]?=some p→x.cell? ⟨pb,po+i,none⟩=some (.int .i64 p)) (hnp:picks.length≤100000000000) (hll:∀ l ∈ ts,l.length≤100000000000) (hp64:∀ p ∈ picks,-9223372036854775808≤p∧p≤9223372036854775807) (ho64:∀ l ∈ ts,∀ op ∈ l,I64 op.1∧I64 op.2.1∧I64 op.2.2) (hz2:z.2≤10000000000000000) (hms:z.1.ms.length≤1000000000000) :
  Calls Try.prog 44 #[.int .i64 (n:Int),.slice ta ts.length cap,.slice pa picks.length pcap,.bool drain] x fun e x'=>∃ mv,e=.returned (.tuple #[mv,.slice (some ⟨x.heap.size,0,none⟩) n n])∧Below x.heap.size x x'∧x'.ownsRow (x.heap.size+5) 37 4 mv z.1.ms.length (mksV z.1.ms)∧x'.heap[x.heap.size]?=some (.cells ((List.range n).map fun j=>Value.int .i64 (z.1.vs j)).toArray 2):=by
 have q1:¬ (n:Int) < 1:=by omega
 have q2:¬ (1048576:Int) < (n:Int):=by omega
 have q3:¬ (8:Int) < (ts.length:Int):=by omega
 have hm0:=make_h n hn2
 have hm1:=make_at ts.length hn
 have hm2:=make_b ts.length hn
 obtain ⟨R0,hR0⟩:∃ R:Array Value,R=((List.range n).map fun _=>Value.int .i64 0).toArray:=⟨_,rfl⟩
 obtain ⟨R1,hR1⟩:∃ R:Array Value,R=((List.range ts.length).map fun _=>Value.int .i64 0).toArray:=⟨_,rfl⟩
 obtain ⟨R2,hR2⟩:∃ R:Array Value,R=((List.range ts.length).map fun _=>Value.bool false).toArray:=⟨_,rfl⟩
 rw [← hR0] at hm0
 rw [← hR1] at hm1
 rw [← hR2] at hm2
 replace hT:=Lib.hid hT
 replace hz:=Lib.hid hz
 replace ho64:=Lib.hid ho64
 replace hp64:=Lib.hid hp64
 obtain ⟨B,hB⟩:∃ B,B=x.heap.size:=⟨_,rfl⟩
 rw [← hB]
 have hw0:RW B (.slice pa picks.length pcap) drain ts.length n x (((((x.alloc (.cells R0 2)).alloc (.cells #[.slice pa picks.length pcap,.bool drain,.int .i64 0,.int .i64 0] 89)).alloc (.cells R1 3)).alloc (.cells R1 3)).alloc (.cells R2 4)) 0 0 (fun _=>0) (fun _=>0) (fun _=>0) (fun _=>false):=by
  have s1:(x.alloc (.cells R0 2)).heap.size=B+1:=by rw [alloc_size,hB]
  have s2:((x.alloc (.cells R0 2)).alloc (.cells #[.slice pa picks.length pcap,.bool drain,.int .i64 0,.int .i64 0] 89)).heap.size=B+1+1:=by rw [alloc_size,s1]
  have s3:(((x.alloc (.cells R0 2)).alloc (.cells #[.slice pa picks.length pcap,.bool drain,.int .i64 0,.int .i64 0] 89)).alloc (.cells R1 3)).heap.size=B+1+1+1:=by rw [alloc_size,s2]
  have s4:((((x.alloc (.cells R0 2)).alloc (.cells #[.slice pa picks.length pcap,.bool drain,.int .i64 0,.int .i64 0] 89)).alloc (.cells R1 3)).alloc (.cells R1 3)).heap.size=B+1+1+1+1:=by rw [alloc_size,s3]
  refine ⟨(((((Below.refl _ _).alloc (by omega) _).alloc (by omega) _).alloc (by omega) _).alloc (by omega) _).alloc (by omega) _,by rw [alloc_size,s4]; omega,?_,?_,?_,?_,?_⟩
  ·rw [alloc_old (by omega),alloc_old (by omega),alloc_old (by omega),alloc_old (by omega),hB,← hR0]
   exact alloc_new
  ·rw [alloc_old (by omega),alloc_old (by omega),alloc_old (by omega),← s1]
   exact alloc_new
  ·rw [alloc_old (by omega),alloc_old (by omega),← s2]
   exact alloc_new.trans (by rw [hR1]; rfl)
  ·rw [alloc_old (by omega),← s3]
   exact alloc_new.trans (by rw [hR1]; rfl)
  ·rw [← s4]
   exact alloc_new.trans (by rw [hR2])
 have hR:∀ C:Prop,C→C:=fun _ h=>h
 replace hR0:=Lib.hid hR0
 replace hR1:=Lib.hid hR1
 replace hR2:=Lib.hid hR2
 replace hw0:=Lib.hid hw0
 clear hR
 go_enter Try.func44,Try.ntmps44
 go_wp2_with fail
 rw [← hB]
 replace hB:=Lib.hid hB
 go_loopw [15] (fun v wr=>∃ i:Nat,v=.int .i64 (i:Int)∧i≤ts.length∧Hid (RW B (.slice pa picks.length pcap) drain ts.length n x wr 0 0 (fun _=>0) (fun t=>if t < i then (wa0 ts).ix t else 0) (fun _=>0) (fun t=>if t < i then !(wordG n ts).alive (wa0 ts) t else false))) (fun v _=>ts.length+1 - natOfV v)
 case atStart =>
  refine ⟨0,rfl,Nat.zero_le _,Lib.hid ?_⟩
  have e0:(fun t=>if t < 0 then (wa0 ts).ix t else 0)=fun _=>0:=by
   funext t
   rw [if_neg (Nat.not_lt_zero _)]
  have e1:(fun t=>if t < 0 then !(wordG n ts).alive (wa0 ts) t else false)=fun _=>false:=by
   funext t
   rw [if_neg (Nat.not_lt_zero _)]
  rw [e0,e1]
  exact hw0.out
 case round =>
  clear hw0
  obtain ⟨i,rfl,hi,hw⟩:=hrel
  by_cases hlt:i < ts.length
  ·obtain rfl:=hT.out.ta (by omega)
   have g1:(i:Int) < (ts.length:Int):=by omega
   have g2:(0:Int)≤(i:Int):=by omega
   have hiw:IntKind.i64.wrap ((i:Int)+1)=((i+1:Nat):Int):=by rw [IntKind.wrap_i64]; omega
   obtain ⟨l,hl⟩:∃ l,ts[i]?=some l:=⟨_,List.getElem?_eq_getElem hlt⟩
   have hgl:ts.getD i []=l:=getD_of hl
   have hll':=hll l (List.mem_of_getElem? hl)
   have c1:=hw.out.vis hB.out (hT.out.row i l hl)
   obtain ⟨lb,lo,hla,hops⟩:∃ lb lo,(l≠[]→LA i=some ⟨lb,lo,none⟩)∧∀ j op,l[j]?=some op→wr.cell? ⟨lb,lo+j * 3,none⟩=some (.int .i64 op.1):=by
    by_cases hl0:l=[]
    ·exact ⟨0,0,fun h=>absurd hl0 h,fun j op h=>by rw [hl0] at h; simp at h⟩
    ·obtain ⟨lb,lo,e1,e2⟩:=hT.out.ops i l hl hl0
     exact ⟨lb,lo,fun _=>e1,fun j op h=>hw.out.vis hB.out (e2 j op h).1⟩
   have haft:=after_any (la:=LA i) (cap:=LC i) hla hops (Nat.zero_le _) (Nat.le_trans hll' (by decide))
   obtain ⟨q,hq⟩:∃ q,q=aftI l 0:=⟨_,rfl⟩
   rw [← hq] at haft
   have hq':(wa0 ts).ix i=q:=by
    show aftI (ts.getD i []) 0=q
    rw [hgl,hq]
   have hql:q≤l.length:=by rw [hq]; exact aftI_le (Nat.zero_le _)
   obtain ⟨bv,hbv⟩:∃ b,b=((q:Int) == (l.length:Int)):=⟨_,rfl⟩
   have hal:bv = !(wordG n ts).alive (wa0 ts) i:=by
    have e1:(wordG n ts).alive (wa0 ts) i=decide (q < l.length):=by
     show decide ((wa0 ts).ix i < lenOf ts i)=_
     rw [hq',lenOf_eq,hgl]
    rw [e1,hbv]
    by_cases h0:q < l.length
    ·simp only [h0,decide_true,Bool.not_true,beq_eq_false_iff_ne]
     omega
    ·simp only [h0,decide_false,Bool.not_false,beq_iff_eq]
     omega
   have z1:=(hw.out.thaw i).2.1
   have ca:=hw.out.cellA hlt
   rw [if_neg (Nat.lt_irrefl _)] at ca
   have hwA:=hw.out.setA (u:=q) hlt
   have hwE:=fun kq=>(hwA.drewN kq).setE (u:=bv) hlt
   have hend:∀ kq,RW B (.slice pa picks.length pcap) drain ts.length n x (((wr.setCell ⟨B+1+1,i,none⟩ (.int .i64 (q:Int))).drewN kq).setCell ⟨B+1+1+1+1,i,none⟩ (.bool bv)) 0 0 (fun _=>0) (fun t=>if t < i+1 then (wa0 ts).ix t else 0) (fun _=>0) (fun t=>if t < i+1 then !(wordG n ts).alive (wa0 ts) t else false):=fun kq=>by
    have h:=hwE kq
    have e1:upd (fun t=>if t < i then (wa0 ts).ix t else 0) i q=fun t=>if t < i+1 then (wa0 ts).ix t else 0:=by
     funext t
     by_cases e:t=i
     ·subst e; rw [upd_same,if_pos (by omega),hq']
     ·rw [upd_ne _ _ e]
      by_cases h1:t < i
      ·rw [if_pos h1,if_pos (by omega)]
      ·rw [if_neg h1,if_neg (by omega)]
    have e2:upd (fun t=>if t < i then !(wordG n ts).alive (wa0 ts) t else false) i bv=fun t=>if t < i+1 then !(wordG n ts).alive (wa0 ts) t else false:=by
     funext t
     by_cases e:t=i
     ·subst e; rw [upd_same,if_pos (by omega),hal]
     ·rw [upd_ne _ _ e]
      by_cases h1:t < i
      ·rw [if_pos h1,if_pos (by omega)]
      ·rw [if_neg h1,if_neg (by omega)]
    rw [e1,e2] at h
    exact h
   have ca2:=hwA.cellA hlt
   rw [upd_same] at ca2
   have c2:(wr.setCell ⟨B+1+1,i,none⟩ (.int .i64 (q:Int))).cell? ⟨ba,bo+i,none⟩=some (.slice (LA i) l.length (LC i)):=hwA.vis hB.out (hT.out.row i l hl)
   have z2:∀ kq,((wr.setCell ⟨B+1+1,i,none⟩ (.int .i64 (q:Int))).drewN kq).frozen? ⟨B+1+1+1+1,i,none⟩=false:=fun kq=>((hwA.drewN kq).thaw i).2.2.2
   have ce:=hwA.cellE hlt
   rw [if_neg (Nat.lt_irrefl _)] at ce
   replace hend:=Lib.hid hend
   replace hwA:=Lib.hid hwA
   replace hal:=Lib.hid hal
   replace hops:=Lib.hid hops
   replace hq:=Lib.hid hq
   replace hq':=Lib.hid hq'
   replace hgl:=Lib.hid hgl
   replace hl:=Lib.hid hl
   replace hla:=Lib.hid hla
   clear hwE hps hw
   have hbv':=hbv.symm
   replace hbv:=Lib.hid hbv
   go_wp2_with fail
   refine haft.mono ?_
   rintro _ _ ⟨rfl,rfl⟩
   go_wp2_with fail
   refine region_quiet_last (n:=13) (by kernel_rfl) rfl (by kernel_rfl) (by kernel_rfl) ?_
   simp only [nopOf,List.set_cons_zero,List.set_cons_succ]
   repeat (go_big_quiet_step (fail))
   refine wpQuiet_nil ?_
   intro _ hw'
   obtain ⟨nq,rfl⟩:=hw'
   have z2':=z2 nq
   unfold LastQ
   go_simp
   go_wp2
   exact ⟨⟨i+1,by rw [Int.natCast_add]; rfl,by omega,hend.out _⟩,by simp [natOfV]; omega⟩
  ·obtain rfl:i=ts.length:=by omega
   have g1:¬ (ts.length:Int) < (ts.length:Int):=by omega
   have hpk:∀ y:World,Below B x y→∀ i p,picks[i]?=some p→y.cell? ⟨pb,po+i,none⟩=some (.int .i64 p):=fun y hy i p hi=>(hy.cell (by rw [hB.out]; exact World.block_lt_of_cell? x _ (hps i p hi))).trans (hps i p hi)
   have hrw0:RW B (.slice pa picks.length pcap) drain ts.length n x (wr.alloc (.cells #[] 37)) 0 0 (wa0 ts).vs (wa0 ts).ix (wa0 ts).cnt (fun t=>!(wordG n ts).alive (wa0 ts) t):=by
    have h:=hw.out.alloc (.cells #[] 37)
    refine ⟨h.base,h.sz,h.row,h.run,?_,h.rd,?_⟩
    ·rw [h.ra]
     congr 3
     refine List.map_congr_left fun t ht=>?_
     rw [if_pos (List.mem_range.1 ht)]
    ·rw [h.re]
     congr 3
     refine List.map_congr_left fun t ht=>?_
     rw [if_pos (List.mem_range.1 ht)]
   have hown0:(wr.alloc (.cells #[] 37)).ownsRow (B+5) 37 4 (.slice (some ⟨wr.heap.size,0,none⟩) 0 0) 0 (mksV (wa0 ts).ms):=World.ownsRow_made (e:=37) (size:=4) wr #[] 0 (base:=B+5) hw.out.sz (by decide) (by simp)
   have hnext0:=nextG (G:=wordG n ts) (n:=ts.length) rfl hrw0.run hrw0.re (rfg_start hz.out) hz2 hn hnp hp64.out hpa (hpk _ hrw0.base) (by omega)
   replace hnext0:=Lib.hid hnext0
   replace hrw0:=Lib.hid hrw0
   replace hown0:=Lib.hid hown0
   replace hpk:=Lib.hid hpk
   clear hps hw
   go_wp2_with fail
   refine hnext0.out.mono ?_
   rintro e w2 ⟨r,K',nxt',rfl,hrt,hnx,-,-⟩
   have hrw:=hrw0.out.next hrt
   have hown:w2.ownsRow (B+5) 37 4 (.slice (some ⟨wr.heap.size,0,none⟩) (wa0 ts).ms.length 0) (wa0 ts).ms.length (mksV (wa0 ts).ms):=ownsRow_same hown0.out fun g hg=>hrt.old g (fun e=>by have:=(hown0.out.lt g hg).1; omega)
   replace hrw:=Lib.hid hrw
   replace hnx:=Lib.hid hnx
   replace hown:=Lib.hid hown
   clear hnext0 hrt hrw0 hown0
   go_wp2_with fail
   go_loopw [16,17] (fun ov tv wx=>∃ (a:WA) (r:Int) (K nxt:Nat),tv=.int .i64 r∧Hid (GQ n ts a)∧Hid (RW B (.slice pa picks.length pcap) drain ts.length n x wx K nxt a.vs a.ix a.cnt (fun t=>!(wordG n ts).alive a t))∧Hid (wx.ownsRow (B+5) 37 4 ov a.ms.length (mksV a.ms))∧Hid (NxtG (wordG n ts) picks drain a r K nxt z)) (fun _ tv wx=>2 * (z.2.toNat+1 - kOf (B+1) wx)+rWt tv)
   case atStart=>exact ⟨wa0 ts,r,K',nxt',rfl,Lib.hid (gw_0 n ts),hrw,hown,hnx⟩
   case round =>
    clear hrw hnx hown
    obtain ⟨a,r,K,nxt,rfl,hgq,hrw,hown,hnx⟩:=hrel
    rcases hnx.out with ⟨rfl,hzz⟩ | ⟨rfl,hrf⟩ | ⟨t,rfl,ht,hal,hrf⟩
    ·have g2:((-2:Int) == -2)=true:=by decide
     have hfinal:Below B x wr∧wr.ownsRow (B+5) 37 4 u16 z.1.ms.length (mksV z.1.ms)∧wr.heap[B]?=some (.cells ((List.range n).map fun j=>Value.int .i64 (z.1.vs j)).toArray 2):=⟨hrw.out.base,by rw [hzz]; exact hown.out,by rw [hzz]; exact hrw.out.row⟩
     replace hfinal:=Lib.hid hfinal
     clear hpk hrw hnx hown hgq hzz
     go_wp2_with fail
     exact bodyPost_ret (results_tmp2 rfl _ _ _) rfl ⟨u16,rfl,hfinal.out⟩
    ·have g2:((-1:Int) == -2)=false:=by decide
     have g3:(-1:Int) < 0:=by decide
     have hnext:=nextG (G:=wordG n ts) (n:=ts.length) rfl hrw.out.run hrw.out.re hrf hz2 hn hnp hp64.out hpa (hpk.out _ hrw.out.base) (by omega)
     have hK0:=kOf_run hrw.out.run
     have hle:=rfg_le hrf
     replace hnext:=Lib.hid hnext
     replace hK0:=Lib.hid hK0
     clear hpk hnx hrf
     go_wp2_with fail
     refine hnext.out.mono ?_
     rintro e w2 ⟨r2,K2,nxt2,rfl,hrt,hnx2,hk2,hk2'⟩
     have hrw2:=hrw.out.next hrt
     have hown2:=ownsRow_same hown.out fun g hg=>hrt.old g (fun e=>by have:=(hown.out.lt g hg).1; omega)
     have hK2:=kOf_run hrw2.run
     have hm:=measG hk2 hk2' hle
     replace hrw2:=Lib.hid hrw2
     replace hown2:=Lib.hid hown2
     replace hnx2:=Lib.hid hnx2
     replace hK2:=Lib.hid hK2
     replace hm:=Lib.hid hm
     clear hnext hk2 hk2' hrt hrw hown
     go_wp2_with fail
     exact ⟨⟨a,r2,K2,nxt2,rfl,hgq,hrw2,hown2,hnx2⟩,by rw [hK2.out,hK0.out]; exact hm.out⟩
    ·have g2:((t:Int) == -2)=false:=by rw [beq_eq_false_iff_ne]; omega
     have g3:¬ (t:Int) < 0:=by omega
     have ht':t < ts.length:=ht
     obtain rfl:=hT.out.ta (by omega)
     obtain ⟨l,hl⟩:∃ l,ts[t]?=some l:=⟨_,List.getElem?_eq_getElem ht'⟩
     have hgl:ts.getD t []=l:=getD_of hl
     have hle:=rfg_le hrf
     have hal':a.ix t < lenOf ts t:=of_decide_eq_true hal
     have hcl:=hal'
     rw [lenOf_eq,hgl] at hcl
     have hlb:=hll l (List.mem_of_getElem? hl)
     have hopC:=hgq.out.op t ht' hal'
     obtain ⟨op,hop⟩:∃ op,l[a.ix t]?=some op:=⟨_,List.getElem?_eq_getElem hcl⟩
     have hopA:opAt ts t (a.ix t)=op:=by unfold opAt; rw [hgl,hop]; rfl
     obtain ⟨r1,r2,r3⟩:=ho64.out l (List.mem_of_getElem? hl) op (List.mem_of_getElem? hop)
     obtain ⟨la,lo,hLA,hops⟩:=hT.out.ops t l hl (fun e=>by rw [e] at hcl; exact absurd hcl (Nat.not_lt_zero _))
     have hxl:=hT.out.row t l hl
     rw [hLA] at hxl
     obtain ⟨p1,p2,p3⟩:=hops _ op hop
     have ops1:∀ j o,l[j]?=some o→x.cell? ⟨la,lo+j * 3,none⟩=some (.int .i64 o.1):=fun j o h=>(hops j o h).1
     obtain ⟨k,hkk⟩:∃ k,k=pickIx op.2.1 n:=⟨_,rfl⟩
     have hkn:k < n:=by rw [hkk]; exact pickIx_lt _ (by omega)
     have hrnd:=fun W=>round_any op.2.1 n (by omega) (by omega) r2 W
     rw [← hkk] at hrnd
     obtain ⟨nv,hnv⟩:∃ nv,nv=(doW (a.vs k) op.1 op.2.2).1:=⟨_,rfl⟩
     obtain ⟨an,han⟩:∃ an,an=(doW (a.vs k) op.1 op.2.2).2:=⟨_,rfl⟩
     have hdo:∀ W:World,Calls Try.prog 49 #[.int .i64 (a.vs k),.int .i64 op.1,.int .i64 op.2.2] W fun e W'=>e=.returned (.tuple #[.int .i64 nv,.int .i64 an])∧W'=W:=fun W=>by rw [hnv,han]; exact do_any
     obtain ⟨ix0,hix0⟩:∃ c,c=a.ix t:=⟨_,rfl⟩
     obtain ⟨cn,hcn⟩:∃ c,c=a.cnt t:=⟨_,rfl⟩
     have hcx:=hgq.out.cnt t ht'
     rw [← hix0,← hcn] at hcx
     rw [← hix0] at hcl hop hopA p1 p2 p3
     obtain ⟨q,hq⟩:∃ q,q=aftI l (ix0+1):=⟨_,rfl⟩
     have hql:q≤l.length:=by rw [hq]; exact aftI_le (by omega)
     have haft:∀ W:World,(∀ j o,l[j]?=some o→W.cell? ⟨la,lo+j * 3,none⟩=some (.int .i64 o.1))→Calls Try.prog 79 #[.slice (some ⟨la,lo,none⟩) l.length (LC t),.int .i64 ((ix0:Int)+1)] W fun e W'=>e=.returned (.int .i64 (q:Int))∧W'=W:=fun W hW=>by
      rw [hq]
      have h:=after_any (la:=some ⟨la,lo,none⟩) (cap:=LC t) (i:=ix0+1) (fun _=>rfl) hW (by omega) (Nat.le_trans hlb (by decide))
      rw [Int.natCast_add] at h
      exact h
     obtain ⟨bv,hbv⟩:∃ b,b=((q:Int) == (l.length:Int)):=⟨_,rfl⟩
     have e_ms:((wordG n ts).pick a t (K:Int)).ms=a.ms ++ [((t:Int),(K:Int),(cn:Int),an)]:=by
      show a.ms ++ [((t:Int),(K:Int),(a.cnt t:Int),(doW (a.vs (pickIx (opAt ts t (a.ix t)).2.1 n)) (opAt ts t (a.ix t)).1 (opAt ts t (a.ix t)).2.2).2)]=_
      rw [← hix0,← hcn,hopA,← hkk,← han]
     have e_vs:((wordG n ts).pick a t (K:Int)).vs=upd a.vs k nv:=by
      show upd a.vs (pickIx (opAt ts t (a.ix t)).2.1 n) (doW (a.vs (pickIx (opAt ts t (a.ix t)).2.1 n)) (opAt ts t (a.ix t)).1 (opAt ts t (a.ix t)).2.2).1=_
      rw [← hix0,hopA,← hkk,← hnv]
     have e_ix:((wordG n ts).pick a t (K:Int)).ix=upd a.ix t q:=by
      show upd a.ix t (aftI (ts.getD t []) (a.ix t+1))=_
      rw [← hix0,hgl,← hq]
     have e_cnt:((wordG n ts).pick a t (K:Int)).cnt=upd a.cnt t (cn+1):=by
      show upd a.cnt t (a.cnt t+1)=_
      rw [← hcn]
     have e_al:(fun s=>!(wordG n ts).alive ((wordG n ts).pick a t (K:Int)) s)=upd (fun s=>!(wordG n ts).alive a s) t bv:=by
      funext s
      have e0:(wordG n ts).alive ((wordG n ts).pick a t (K:Int)) s=decide (upd a.ix t q s < lenOf ts s):=by
       show decide (((wordG n ts).pick a t (K:Int)).ix s < lenOf ts s)=_
       rw [e_ix]
      rw [e0]
      by_cases e:s=t
      ·subst e
       rw [upd_same,upd_same,lenOf_eq,hgl,hbv]
       by_cases h0:q < l.length
       ·simp only [h0,decide_true,Bool.not_true]
        rw [eq_comm,beq_eq_false_iff_ne]
        omega
       ·simp only [h0,decide_false,Bool.not_false]
        rw [eq_comm,beq_iff_eq]
        omega
      ·rw [upd_ne _ _ e,upd_ne _ _ e]
       rfl
     have hgq2:GQ n ts ((wordG n ts).pick a t (K:Int)):=hgq.out.pick ho64.out ht' hal
     have hms':a.ms.length < z.1.ms.length:=by
      have h1:=rfg_ms (mu:=fun (a:WA)=>a.ms.length) (fun a t k=>by show _≤(_ ++ [_]).length; rw [List.length_append]; omega) hrf
      rw [e_ms,List.length_append] at h1
      have:[((t:Int),(K:Int),(cn:Int),an)].length=1:=rfl
      omega
     have hK0:=kOf_run hrw.out.run
     have gt1:(t:Int) < (ts.length:Int):=by omega
     have gt0:(0:Int)≤(t:Int):=by omega
     have gj1:(ix0:Int) < (l.length:Int):=by omega
     have gj0:(0:Int)≤(ix0:Int):=by omega
     have gk1:(k:Int) < (n:Int):=by omega
     have gk0:(0:Int)≤(k:Int):=by omega
     have hdw:IntKind.i64.wrap ((cn:Int)+1)=((cn+1:Nat):Int):=by rw [IntKind.wrap_i64]; omega
     have hjw:IntKind.i64.wrap ((ix0:Int)+1)=((ix0+1:Nat):Int):=by rw [IntKind.wrap_i64]; omega
     have s1:=hrw.out.cellA ht'
     rw [← hix0] at s1
     have s2:=hrw.out.vis hB.out hxl
     have s3:=hrw.out.vis hB.out p1
     have s4:=hrw.out.vis hB.out p2
     have s5:=hrw.out.vis hB.out p3
     have hix0':=hix0.symm
     have hcn':=hcn.symm
     replace hix0:=Lib.hid hix0
     replace hix0':=Lib.hid hix0'
     replace hcn:=Lib.hid hcn
     replace hcn':=Lib.hid hcn'
     replace hq:=Lib.hid hq
     replace hkk:=Lib.hid hkk
     replace hnv:=Lib.hid hnv
     replace han:=Lib.hid han
     have hbv':=hbv.symm
     replace hbv:=Lib.hid hbv
     replace e_ms:=Lib.hid e_ms
     replace e_vs:=Lib.hid e_vs
     replace e_ix:=Lib.hid e_ix
     replace e_cnt:=Lib.hid e_cnt
     replace e_al:=Lib.hid e_al
     replace hgq2:=Lib.hid hgq2
     replace hgl:=Lib.hid hgl
     replace hl:=Lib.hid hl
     replace hop:=Lib.hid hop
     replace hopA:=Lib.hid hopA
     replace hops:=Lib.hid hops
     replace ops1:=Lib.hid ops1
     replace hLA:=Lib.hid hLA
     replace hrf:=Lib.hid hrf
     replace hms':=Lib.hid hms'
     replace hms:=Lib.hid hms
     replace hal':=Lib.hid hal'
     replace hK0:=Lib.hid hK0
     replace p1:=Lib.hid p1
     replace p2:=Lib.hid p2
     replace p3:=Lib.hid p3
     replace hxl:=Lib.hid hxl
     clear hnx hgq hal hopC r1 r3
     go_wp2_with fail
     refine rq18_T (ab:=B+1+1) (ba:=ba) (bo:=bo) (cap:=cap) (nt:=ts.length) (t:=t) (la:=la) (lo:=lo) (N:=l.length) (lc:=LC t) (j:=ix0) (by kernel_rfl) (by simp) (by simp) (by simp) (by simp) ht' hcl ⟨s1,s2,s3,s4,s5⟩ (fun T3 w3 sz3 j3 v18 hw3 hio3=>?_)
     obtain ⟨f3,hf3,fz3⟩:=arrfv T3 sz3
     have kk:∀ z u,z < 164→(z≠18∧¬ (86≤z∧z < 96))→_→f3 z=u:=fun z u h1 h2 (h3:(_:Array Value)[z]?=some u)=>fz3 z u ((j3 z h1 h2).trans h3)
     have k0:=kk 0 _ (by decide) (by decide) (by simp; rfl)
     have k1:=kk 1 _ (by decide) (by decide) (by simp; rfl)
     have k2:=kk 2 _ (by decide) (by decide) (by simp; rfl)
     have k3:=kk 3 _ (by decide) (by decide) (by simp; rfl)
     have k4:=kk 4 _ (by decide) (by decide) (by simp; rfl)
     have k5:=kk 5 _ (by decide) (by decide) (by simp; rfl)
     have k6:=kk 6 _ (by decide) (by decide) (by simp; rfl)
     have k7:=kk 7 _ (by decide) (by decide) (by simp; rfl)
     have k8:=kk 8 _ (by decide) (by decide) (by simp; rfl)
     have k9:=kk 9 _ (by decide) (by decide) (by simp; rfl)
     have k10:=kk 10 _ (by decide) (by decide) (by simp; rfl)
     have k11:=kk 11 _ (by decide) (by decide) (by simp; rfl)
     have k12:=kk 12 _ (by decide) (by decide) (by simp; rfl)
     have k13:=kk 13 _ (by decide) (by decide) (by simp; rfl)
     have k14:=kk 14 _ (by decide) (by decide) (by simp; rfl)
     have k15:=kk 15 _ (by decide) (by decide) (by simp; rfl)
     have k16:=kk 16 _ (by decide) (by decide) (by simp; rfl)
     have k17:=kk 17 _ (by decide) (by decide) (by simp; rfl)
     have k19:=kk 19 _ (by decide) (by decide) (by simp; rfl)
     have k20:=kk 20 _ (by decide) (by decide) (by simp; rfl)
     have k21:=kk 21 _ (by decide) (by decide) (by simp; rfl)
     have k22:=kk 22 _ (by decide) (by decide) (by simp; rfl)
     have k23:=kk 23 _ (by decide) (by decide) (by simp; rfl)
     have k24:=kk 24 _ (by decide) (by decide) (by simp; rfl)
     have k25:=kk 25 _ (by decide) (by decide) (by simp; rfl)
     have k26:=kk 26 _ (by decide) (by decide) (by simp; rfl)
     have k27:=kk 27 _ (by decide) (by decide) (by simp; rfl)
     have k28:=kk 28 _ (by decide) (by decide) (by simp; rfl)
     have k29:=kk 29 _ (by decide) (by decide) (by simp; rfl)
     have k30:=kk 30 _ (by decide) (by decide) (by simp; rfl)
     have k31:=kk 31 _ (by decide) (by decide) (by simp; rfl)
     have k32:=kk 32 _ (by decide) (by decide) (by simp; rfl)
     have k33:=kk 33 _ (by decide) (by decide) (by simp; rfl)
     have k34:=kk 34 _ (by decide) (by decide) (by simp; rfl)
     have k35:=kk 35 _ (by decide) (by decide) (by simp; rfl)
     have k36:=kk 36 _ (by decide) (by decide) (by simp; rfl)
     have k37:=kk 37 _ (by decide) (by decide) (by simp; rfl)
     have k38:=kk 38 _ (by decide) (by decide) (by simp; rfl)
     have k39:=kk 39 _ (by decide) (by decide) (by simp; rfl)
     have k40:=kk 40 _ (by decide) (by decide) (by simp; rfl)
     have k41:=kk 41 _ (by decide) (by decide) (by simp; rfl)
     have k42:=kk 42 _ (by decide) (by decide) (by simp; rfl)
     have k43:=kk 43 _ (by decide) (by decide) (by simp; rfl)
     have k44:=kk 44 _ (by decide) (by decide) (by simp; rfl)
     have k45:=kk 45 _ (by decide) (by decide) (by simp; rfl)
     have k46:=kk 46 _ (by decide) (by decide) (by simp; rfl)
     have k47:=kk 47 _ (by decide) (by decide) (by simp; rfl)
     have k48:=kk 48 _ (by decide) (by decide) (by simp; rfl)
     have k49:=kk 49 _ (by decide) (by decide) (by simp; rfl)
     have k50:=kk 50 _ (by decide) (by decide) (by simp; rfl)
     have k51:=kk 51 _ (by decide) (by decide) (by simp; rfl)
     have k52:=kk 52 _ (by decide) (by decide) (by simp; rfl)
     have k53:=kk 53 _ (by decide) (by decide) (by simp; rfl)
     have k54:=kk 54 _ (by decide) (by decide) (by simp; rfl)
     have k55:=kk 55 _ (by decide) (by decide) (by simp; rfl)
     have k56:=kk 56 _ (by decide) (by decide) (by simp; rfl)
     have k57:=kk 57 _ (by decide) (by decide) (by simp; rfl)
     have k58:=kk 58 _ (by decide) (by decide) (by simp; rfl)
     have k59:=kk 59 _ (by decide) (by decide) (by simp; rfl)
     have k60:=kk 60 _ (by decide) (by decide) (by simp; rfl)
     have k61:=kk 61 _ (by decide) (by decide) (by simp; rfl)
     have k62:=kk 62 _ (by decide) (by decide) (by simp; rfl)
     have k63:=kk 63 _ (by decide) (by decide) (by simp; rfl)
     have k64:=kk 64 _ (by decide) (by decide) (by simp; rfl)
     have k65:=kk 65 _ (by decide) (by decide) (by simp; rfl)
     have k66:=kk 66 _ (by decide) (by decide) (by simp; rfl)
     have k67:=kk 67 _ (by decide) (by decide) (by simp; rfl)
     have k68:=kk 68 _ (by decide) (by decide) (by simp; rfl)
     have k69:=kk 69 _ (by decide) (by decide) (by simp; rfl)
     have k70:=kk 70 _ (by decide) (by decide) (by simp; rfl)
     have k71:=kk 71 _ (by decide) (by decide) (by simp; rfl)
     have k72:=kk 72 _ (by decide) (by decide) (by simp; rfl)
     have k73:=kk 73 _ (by decide) (by decide) (by simp; rfl)
     have k74:=kk 74 _ (by decide) (by decide) (by simp; rfl)
     have k75:=kk 75 _ (by decide) (by decide) (by simp; rfl)
     have k76:=kk 76 _ (by decide) (by decide) (by simp; rfl)
     have k77:=kk 77 _ (by decide) (by decide) (by simp; rfl)
     have k78:=kk 78 _ (by decide) (by decide) (by simp; rfl)
     have k162:=kk 162 _ (by decide) (by decide) (by simp; rfl)
     have k163:=kk 163 _ (by decide) (by decide) (by simp; rfl)
     have k18:=fz3 18 _ v18
     clear kk fz3 j3 v18 sz3
     subst hf3
     have hrw3:=hrw.out.push hw3 hio3
     have hown3:w3.ownsRow (B+5) 37 4 u16 a.ms.length (mksV a.ms):=ownsRow_same hown.out fun g hg=>by rw [hw3,Array.getElem?_push,if_neg (Nat.ne_of_lt (hown.out.lt g hg).2)]
     obtain ⟨bx,hbx⟩:∃ b,b=wr.heap.size:=⟨_,rfl⟩
     rw [← hbx] at k18
     have hBo:w3.heap[bx]?=some (.cells #[.int .i64 op.1,.int .i64 op.2.1,.int .i64 op.2.2] 34):=by rw [hw3,Array.getElem?_push,if_pos hbx]
     have b0:=obj_cell hBo (o:=0) rfl
     have b1:=obj_cell hBo (o:=1) rfl
     have b2:=obj_cell hBo (o:=2) rfl
     have cw3:=hrw3.cellW hkn
     have hrw4:∀ kq,RW B (.slice pa picks.length pcap) drain ts.length n x ((w3.drewN kq).setCell ⟨B,k,none⟩ (.int .i64 nv)) K nxt (upd a.vs k nv) a.ix a.cnt (fun t=>!(wordG n ts).alive a t):=fun kq=>(hrw3.drewN kq).setW hkn
     have hown4:∀ kq,((w3.drewN kq).setCell ⟨B,k,none⟩ (.int .i64 nv)).ownsRow (B+5) 37 4 u16 a.ms.length (mksV a.ms):=fun kq=>ownsRow_same hown3 fun g hg=>heap_setCell_ne (a:=⟨B,k,none⟩) (by have:=(hown3.lt g hg).1; dsimp only; omega)
     have zh:∀ kq,(w3.drewN kq).frozen? ⟨B,k,none⟩=false:=fun kq=>((hrw3.drewN kq).thaw k).1
     clear hBo hw3 hio3 s1 s2 s3 s4 s5 hrw hown
     replace hbx:=Lib.hid hbx
     replace hrw3:=Lib.hid hrw3
     replace hown3:=Lib.hid hown3
     replace hrw4:=Lib.hid hrw4
     replace hown4:=Lib.hid hown4
     simp only [List.range,List.range.loop,List.map_cons,List.map_nil,k0,k1,k2,k3,k4,k5,k6,k7,k8,k9,k10,k11,k12,k13,k14,k15,k16,k17,k19,k20,k21,k22,k23,k24,k25,k26,k27,k28,k29,k30,k31,k32,k33,k34,k35,k36,k37,k38,k39,k40,k41,k42,k43,k44,k45,k46,k47,k48,k49,k50,k51,k52,k53,k54,k55,k56,k57,k58,k59,k60,k61,k62,k63,k64,k65,k66,k67,k68,k69,k70,k71,k72,k73,k74,k75,k76,k77,k78,k162,k163,k18]
     clear k0 k1 k2 k3 k4 k5 k6 k7 k8 k9 k10 k11 k12 k13 k14 k15 k16 k17 k19 k20 k21 k22 k23 k24 k25 k26 k27 k28 k29 k30 k31 k32 k33 k34 k35 k36 k37 k38 k39 k40 k41 k42 k43 k44 k45 k46 k47 k48 k49 k50 k51 k52 k53 k54 k55 k56 k57 k58 k59 k60 k61 k62 k63 k64 k65 k66 k67 k68 k69 k70 k71 k72 k73 k74 k75 k76 k77 k78 k162 k163 k18
     go_wp2_with fail
     refine Calls.mono (hrnd _) ?_
     rintro _ w3 ⟨rfl,rfl⟩
     go_wp2_with fail
     go_quiet ((go_at_call 49; exact Calls.quiet_of_same (hdo _)))
     go_wp2_with fail
     have h4:=hrw4.out nq
     have o4:=hown4.out nq
     generalize (w3.drewN nq).setCell ⟨B,k,none⟩ (.int .i64 nv)=W4 at h4 o4 ⊢
     clear hrw4 hown4 hrw3 hown3 cw3 zh b0 b1 b2 hrnd hdo
     have c3:=h4.cellK
     have c4:=h4.cellD ht'
     rw [hcn'.out] at c4
     have hsz4:=h4.sz
     obtain ⟨i0,hinf,hz0,hz1,hz2'⟩:=info37
     have hup:∀ k,u16.ownBlock=some k→B+5≤k:=fun k hk=>(o4.lt _ hk).1
     have n1:u16.ownBlock≠some (B+1):=fun e=>by have:=hup _ e; omega
     have n2:u16.ownBlock≠some (B+1+1+1):=fun e=>by have:=hup _ e; omega
     have w3':B+1≠W4.heap.size:=by omega
     have w4':B+1+1+1≠W4.heap.size:=by omega
     replace h4:=Lib.hid h4
     replace hup:=Lib.hid hup
     go_region_held3 (fun w'=>w'.cell? ⟨B+1,2,none⟩=some (.int .i64 (K:Int))∧w'.cell? ⟨B+1+1+1,t,none⟩=some (.int .i64 (cn:Int))) (first | go_keep | (go_split_ands; refine ⟨?_,?_⟩ <;> first | (rw [hgrow.cell_far _ (by simp; omega) (Ne.symm n1)]; assumption) | (rw [hgrow.cell_far _ (by simp; omega) (Ne.symm n2)]; assumption)))
      ((refine step_append_lies _ (by rfl) _ _ _ (by rfl) (B+5) 37 i0 _ 4 32 Try.underlying27 hinf hz0 hz1 hz2' rfl (by decide) u16 a.ms.length (mksV a.ms) (by rfl) ((o4.alloc _).drew) ⟨W4.heap.size,0,none⟩ 1 1 (mkV ((t:Int),(K:Int),(cn:Int),an)) (by rfl) (by rfl) (World.news_of_block (cs:=#[.int .i64 (t:Int),.int .i64 (K:Int),.int .i64 (cn:Int),.int .i64 an]) (t:=37) (fr:=(0,0)) (heap_alloc_new _ _)) (by simp [mkV,Value.oneCell']) (by omega) (by have:=hms'.out; have:=hms.out; unfold maxLen; omega) (by have:=hms'.out; have:=hms.out; omega) (by simp; omega) _ rfl ?_; intro gg cap w1 hown1 hgrow hat hlt1))
     rename_i hHeld
     obtain ⟨q1,q2⟩:=hHeld
     have hgg:B+5≤gg:=by
      rcases hat with e | e
      ·exact hup.out _ e
      ·have:gg=W4.heap.size+1:=by rw [e]; simp
       omega
     have h5:=((h4.out.alloc _).drew).grown hgrow hup.out
     have z5:=(h5.thaw t).2.2.1
     have h6:RW B (.slice pa picks.length pcap) drain ts.length n x (w1.setCell ⟨B+1+1+1,t,none⟩ (.int .i64 ((cn:Int)+1))) K nxt (upd a.vs k nv) a.ix (upd a.cnt t (cn+1)) (fun t=>!(wordG n ts).alive a t):=by
      have h:=h5.setD (u:=cn+1) ht'
      rw [Int.natCast_add] at h
      exact h
     have o6:(w1.setCell ⟨B+1+1+1,t,none⟩ (.int .i64 ((cn:Int)+1))).ownsRow (B+5) 37 4 (.slice (some ⟨gg,0,none⟩) (a.ms.length+1) cap) (a.ms.length+1) (mksV a.ms ++ mkV ((t:Int),(K:Int),(cn:Int),an)):=ownsRow_same hown1 fun g hg=>heap_setCell_ne (a:=⟨B+1+1+1,t,none⟩) (by simp [Value.ownBlock] at hg; dsimp only; omega)
     clear h4 o4 hgrow hat hup c3 c4 n1 n2 w3' w4' q1 h5 hown1 hlt1
     replace h6:=Lib.hid h6
     replace o6:=Lib.hid o6
     go_wp2_with fail
     replace h6:=h6.out
     replace o6:=o6.out
     generalize w1.setCell ⟨B+1+1+1,t,none⟩ (.int .i64 ((cn:Int)+1))=W6 at h6 o6 ⊢
     clear z5 q2
     have s6:=h6.cellA ht'
     rw [hix0'.out] at s6
     have t6:=h6.vis hB.out hxl.out
     have haft6:∀ kq,Calls Try.prog 79 #[.slice (some ⟨la,lo,none⟩) l.length (LC t),.int .i64 ((ix0:Int)+1)] (W6.drewN kq) fun e W'=>e=.returned (.int .i64 (q:Int))∧W'=W6.drewN kq:=fun kq=>haft _ (fun j o h=>(h6.drewN kq).vis hB.out (ops1.out j o h))
     have z6:∀ kq,(W6.drewN kq).frozen? ⟨B+1+1,t,none⟩=false:=fun kq=>((h6.drewN kq).thaw t).2.1
     have h7:∀ kq,RW B (.slice pa picks.length pcap) drain ts.length n x ((W6.drewN kq).setCell ⟨B+1+1,t,none⟩ (.int .i64 (q:Int))) K nxt (upd a.vs k nv) (upd a.ix t q) (upd a.cnt t (cn+1)) (fun t=>!(wordG n ts).alive a t):=fun kq=>(h6.drewN kq).setA ht'
     have o7:∀ kq,((W6.drewN kq).setCell ⟨B+1+1,t,none⟩ (.int .i64 (q:Int))).ownsRow (B+5) 37 4 (.slice (some ⟨gg,0,none⟩) (a.ms.length+1) cap) (a.ms.length+1) (mksV a.ms ++ mkV ((t:Int),(K:Int),(cn:Int),an)):=fun kq=>ownsRow_same o6 fun g hg=>heap_setCell_ne (a:=⟨B+1+1,t,none⟩) (by simp [Value.ownBlock] at hg; dsimp only; omega)
     replace h6:=Lib.hid h6
     replace o6:=Lib.hid o6
     replace h7:=Lib.hid h7
     replace o7:=Lib.hid o7
     clear haft
     refine region_quiet_last (n:=13) (by kernel_rfl) rfl (by kernel_rfl) (by kernel_rfl) ?_
     simp only [nopOf,List.set_cons_zero,List.set_cons_succ]
     repeat (go_big_quiet_step ((go_at_call 79; exact Calls.quiet_of_same (haft6 _))))
     refine wpQuiet_nil ?_
     intro _ hw'
     obtain ⟨nq,rfl⟩:=hw'
     have z7:=z6 nq
     unfold LastQ
     go_simp
     replace h7:=h7.out nq
     replace o7:=o7.out nq
     generalize (W6.drewN nq).setCell ⟨B+1+1,t,none⟩ (.int .i64 (q:Int))=W7 at h7 o7 ⊢
     clear z6 z7 h6 o6 haft6 s6 t6
     have s7:=h7.cellA ht'
     rw [upd_same] at s7
     have t7:=h7.vis hB.out hxl.out
     have z8:∀ kq,(W7.drewN kq).frozen? ⟨B+1+1+1+1,t,none⟩=false:=fun kq=>((h7.drewN kq).thaw t).2.2.2
     have e8:=h7.cellE ht'
     have h8:∀ kq,RW B (.slice pa picks.length pcap) drain ts.length n x ((W7.drewN kq).setCell ⟨B+1+1+1+1,t,none⟩ (.bool bv)) K nxt ((wordG n ts).pick a t (K:Int)).vs ((wordG n ts).pick a t (K:Int)).ix ((wordG n ts).pick a t (K:Int)).cnt (fun s=>!(wordG n ts).alive ((wordG n ts).pick a t (K:Int)) s):=fun kq=>by
      rw [e_vs.out,e_ix.out,e_cnt.out,e_al.out]
      exact (h7.drewN kq).setE ht'
     have o8:∀ kq,((W7.drewN kq).setCell ⟨B+1+1+1+1,t,none⟩ (.bool bv)).ownsRow (B+5) 37 4 (.slice (some ⟨gg,0,none⟩) (a.ms.length+1) cap) ((wordG n ts).pick a t (K:Int)).ms.length (mksV ((wordG n ts).pick a t (K:Int)).ms):=fun kq=>by
      rw [e_ms.out,mksV_snoc,List.length_append]
      exact ownsRow_same o7 fun g hg=>heap_setCell_ne (a:=⟨B+1+1+1+1,t,none⟩) (by simp [Value.ownBlock] at hg; dsimp only; omega)
     replace h7:=Lib.hid h7
     replace o7:=Lib.hid o7
     replace h8:=Lib.hid h8
     replace o8:=Lib.hid o8
     go_wp2_with fail
     refine region_quiet_last (n:=13) (by kernel_rfl) rfl (by kernel_rfl) (by kernel_rfl) ?_
     simp only [nopOf,List.set_cons_zero,List.set_cons_succ]
     repeat (go_big_quiet_step (fail))
     refine wpQuiet_nil ?_
     intro _ hw'
     obtain ⟨nq2,rfl⟩:=hw'
     have z9:=z8 nq2
     unfold LastQ
     go_simp
     replace h8:=h8.out nq2
     replace o8:=o8.out nq2
     generalize (W7.drewN nq2).setCell ⟨B+1+1+1+1,t,none⟩ (.bool bv)=W8 at h8 o8 ⊢
     clear z8 z9 h7 o7 s7 t7 e8
     have hnext:=nextG (G:=wordG n ts) (n:=ts.length) rfl h8.run h8.re hrf.out hz2 hn hnp hp64.out hpa (hpk.out _ h8.base) (by omega)
     replace hnext:=Lib.hid hnext
     replace h8:=Lib.hid h8
     replace o8:=Lib.hid o8
     go_wp2_with fail
     refine hnext.out.mono ?_
     rintro e w2 ⟨r2,K2,nxt2,rfl,hrt,hnx2,hk2,hk2'⟩
     have hrw2:=h8.out.next hrt
     have hown2:=ownsRow_same o8.out fun g hg=>hrt.old g (fun e=>by have:=(o8.out.lt g hg).1; omega)
     have hK2:=kOf_run hrw2.run
     have hm:=measG hk2 hk2' hle
     have hwt:rWt (.int .i64 (t:Int))=1:=by
      unfold rWt
      dsimp only
      rw [if_neg (by omega)]
     replace hwt:=Lib.hid hwt
     replace hrw2:=Lib.hid hrw2
     replace hown2:=Lib.hid hown2
     replace hnx2:=Lib.hid hnx2
     replace hK2:=Lib.hid hK2
     replace hm:=Lib.hid hm
     clear hnext hk2 hk2' hrt h8 o8
     go_wp2_with fail
     exact ⟨⟨_,r2,K2,nxt2,rfl,hgq2,hrw2,hown2,hnx2⟩,by rw [hK2.out,hK0.out,hwt.out]; exact hm.out⟩
theorem info34:∃ i:TypeInfo,Try.prog.info? 34=some i∧i.zero=some (.agg #[.int .i64 0,.int .i64 0,.int .i64 0])∧i.size=3∧i.bytes=24:=by
 have h:(Try.prog.info? 34).isSome=true:=by kernel_rfl
 obtain ⟨i,hi⟩:=Option.isSome_iff_exists.1 h
 have h2:(Try.prog.info? 34).map (fun i=>(i.zero,i.size,i.bytes))=some (some (.agg #[.int .i64 0,.int .i64 0,.int .i64 0]),3,24):=by kernel_rfl
 rw [hi] at h2
 simp only [Option.map_some,Option.some.injEq,Prod.mk.injEq] at h2
 exact ⟨i,hi,h2.1,h2.2.1,h2.2.2⟩
theorem info32:∃ i:TypeInfo,Try.prog.info? 32=some i∧i.zero=some (.slice none 0 0)∧i.size=1∧i.bytes=24:=by
 have h:(Try.prog.info? 32).isSome=true:=by kernel_rfl
 obtain ⟨i,hi⟩:=Option.isSome_iff_exists.1 h
 have h2:(Try.prog.info? 32).map (fun i=>(i.zero,i.size,i.bytes))=some (some (.slice none 0 0),1,24):=by kernel_rfl
 rw [hi] at h2
 simp only [Option.map_some,Option.some.injEq,Prod.mk.injEq] at h2
 exact ⟨i,hi,h2.1,h2.2.1,h2.2.2⟩
def opV (o:Op3):List Value:=[.int .i64 o.1,.int .i64 o.2.1,.int .i64 o.2.2]
def opsV (l:List Op3):List Value:=(l.map opV).flatten
theorem opsV_len:∀ l:List Op3,(opsV l).length=l.length * 3
 | []=>rfl
 | o :: l=>by
   have e:opsV (o :: l)=opV o ++ opsV l:=by simp [opsV]
   rw [e,List.length_append,opsV_len l,List.length_cons]
   show 3+_=_
   omega
theorem opsV_get:∀ {l:List Op3} {i:Nat} {o:Op3},l[i]?=some o→∀ {j:Nat},j < 3→(opsV l)[i * 3+j]?=(opV o)[j]?
 | [],i,o,h,j,hj=>by simp at h
 | o0 :: l,0,o,h,j,hj=>by
   have e:opsV (o0 :: l)=opV o0 ++ opsV l:=by simp [opsV]
   have h':o0=o:=by simpa using h
   rw [e,h',Nat.zero_mul,Nat.zero_add,List.getElem?_append_left (by show j < 3; exact hj)]
 | o0 :: l,i+1,o,h,j,hj=>by
   have e:opsV (o0 :: l)=opV o0 ++ opsV l:=by simp [opsV]
   have h':l[i]?=some o:=by simpa using h
   rw [e,List.getElem?_append_right (by show 3≤_; omega),← opsV_get h' hj]
   congr 1
   show (i+1) * 3+j - 3=_
   omega
theorem opsV_in {l:List Op3} {k:Nat} {v:Value} (h:(opsV l)[k]?=some v):∃ i j o,l[i]?=some o∧j < 3∧k=i * 3+j∧(opV o)[j]?=some v:=by
 have hk:=(List.getElem?_eq_some_iff.1 h).1
 rw [opsV_len] at hk
 obtain ⟨o,ho⟩:∃ o,l[k / 3]?=some o:=⟨_,List.getElem?_eq_getElem (by omega)⟩
 have e:k=k / 3 * 3+k % 3:=by omega
 refine ⟨k / 3,k % 3,o,ho,by omega,e,?_⟩
 rw [← opsV_get ho (by omega),← e]
 exact h
def ownO (l:List Op3):List Value:=opsV l ++ [.int .i64 91,.int .i64 0,.int .i64 0,.int .i64 92,.int .i64 0,.int .i64 0]
theorem made_o (n:Nat):madeCells (Value.agg #[.int .i64 0,.int .i64 0,.int .i64 0]).cells (n * 3)=(List.replicate (n * 3) (Value.int .i64 0)).toArray:=by
 apply Array.ext
 ·simp [madeCells]
 ·intro i h1 h2
  simp [madeCells,Value.cells]
  have h3:i % 3=0∨i % 3=1∨i % 3=2:=by omega
  rcases h3 with h | h | h <;> simp [h]
theorem make_o (n:Nat) (hn:n≤1000000000000) (x:World):(Instr.makeSlice 32 (.int .i64 ((n:Int)+2)) (.int .i64 ((n:Int)+2))).run Try.prog x=.ok (.slice (some ⟨x.heap.size,0,none⟩) (n+2) (n+2)) (x.alloc (.cells (List.replicate ((n+2) * 3) (Value.int .i64 0)).toArray 34)):=by
 obtain ⟨i0,hi,hz,hs,hb⟩:=info34
 have h:=run_make (P:=Try.prog) x 32 34 i0 _ Try.underlying32 hi hz .i64 .i64 ((n:Int)+2) ((n:Int)+2) (by omega) (Int.le_refl _) (by rw [hb]; push_cast; omega) (by omega)
 have e:((n:Int)+2).toNat=n+2:=by omega
 rw [e,hs,made_o] at h
 exact h
theorem store_run {P:Program} {w:World} {g o:Nat} {T t:TypeId} {i:TypeInfo} {cur:List Value} (a b c:Value) (hi:P.info? T=some i) (hs:i.size=3) (hg:w.heap[g]?=some (.cells cur.toArray t (0,0))) (hfit:o+3≤cur.length) (h1:a.oneCell'=true) (h2:b.oneCell'=true) (h3:c.oneCell'=true) :
  (Instr.storeAt T (.pointer (some ⟨g,o,none⟩)) (.agg #[a,b,c])).run P w=.ok () (w.setRow g (cur.take o ++ [a,b,c] ++ cur.drop (o+3)).toArray):=by
 have hst:=run_storeCells_at P g o t [a,b,c] 0 cur.toArray w hg (by simpa using hfit) (by simp [h1,h2,h3])
 simp only [Nat.add_zero] at hst
 have e:(Sem.run P (Go.sizeOf T) w)=.ok 3 w:=by simp [Go.sizeOf,typeInfo,hi,hs]
 have e2:(Sem.run P (Instr.sureAddr (Value.pointer (some ⟨g,o,none⟩))) w)=.ok ⟨g,o,none⟩ w:=rfl
 unfold Instr.storeAt storeVar
 simp only [Sem.run_bind,Result.andThen_ok,Value.cells,e,e2]
 exact hst
theorem wpList_store {P:Program} {w w':World} {ops:Array Oper} {rest:List Oper} {o:Oper} {a:Act} {Q:Exit→Act→World→Prop} (hgd:o.guard=none) (hdst:o.dst=none) (d s:Operand) (T:TypeId) (ho:o.op=.store T d s) {u v:Value} (hd:a.eval d=u) (hs:a.eval s=v) (hrun:(Instr.storeAt T u v).run P w=.ok () w') (h:wpList P ops Q rest a w'):wpList P ops Q (o :: rest) a w:=by
 refine wpList_plain hgd fun K hK=>?_
 unfold Oper.wp
 simp [execOp,ho,hd,hs,hrun,Result.andThen]
 refine hK _ _ ?_
 rw [hdst]
 exact h
def rowO (LB:Nat→Nat) (ts:List (List Op3)) (n:Nat):List Value:=(List.range n).map fun i=>.slice (some ⟨LB i,0,none⟩) (lenOf ts i) (lenOf ts i+2)
structure OwnT (B:Nat) (x:World) (ov:Value) (LB:Nat→Nat) (ts:List (List Op3)) (n:Nat):Prop where
 row:x.ownsRow B 32 1 ov n (rowO LB ts n)
 up:∀ i,i < n→B≤LB i
 ne:∀ i,i < n→ov.ownBlock≠some (LB i)
 inj:∀ i j,i < n→j < n→LB i=LB j→i=j
 ops:∀ i l,i < n→ts[i]?=some l→x.heap[LB i]?=some (.cells (ownO l).toArray 34)
theorem ownO_op {l:List Op3} {j:Nat} {o:Op3} (h:l[j]?=some o):(ownO l)[j * 3]?=some (.int .i64 o.1)∧(ownO l)[j * 3+1]?=some (.int .i64 o.2.1)∧(ownO l)[j * 3+2]?=some (.int .i64 o.2.2):=by
 have hj:=(List.getElem?_eq_some_iff.1 h).1
 have e:∀ k,k < 3→(ownO l)[j * 3+k]?=(opV o)[k]?:=fun k hk=>by
  unfold ownO
  rw [List.getElem?_append_left (by rw [opsV_len]; omega)]
  exact opsV_get h hk
 exact ⟨e 0 (by decide),e 1 (by decide),e 2 (by decide)⟩
theorem ownO_end (l:List Op3) (k:Nat):(ownO l)[l.length * 3+k]?=[Value.int .i64 91,.int .i64 0,.int .i64 0,.int .i64 92,.int .i64 0,.int .i64 0][k]?:=by
 unfold ownO
 rw [List.getElem?_append_right (by rw [opsV_len]; omega),opsV_len]
 congr 1
 omega
theorem rowO_get {LB:Nat→Nat} {ts:List (List Op3)} {n i:Nat} (hi:i < n):(rowO LB ts n)[i]?=some (.slice (some ⟨LB i,0,none⟩) (lenOf ts i) (lenOf ts i+2)):=by
 unfold rowO
 rw [List.getElem?_map,List.getElem?_range hi]
 rfl
theorem owns_cells {x:World} {B e n:Nat} {v:Value} {xs:List Value} (h:x.ownsRow B e 1 v n xs):∃ (A:Option Addr) (g cap:Nat),v=.slice A n cap∧(0 < n→A=some ⟨g,0,none⟩)∧(0 < n→v.ownBlock=some g)∧∀ i u,xs[i]?=some u→x.cell? ⟨g,i,none⟩=some u:=by
 obtain ⟨h1,h2⟩:=h
 rcases h2 with ⟨rfl,h0⟩ | ⟨g,cap,cur,rfl,hb,hg,_,_,_,ht⟩
 ·have:xs=[]:=List.eq_nil_of_length_eq_zero (by rw [h1,h0])
  subst this
  exact ⟨none,0,0,by rw [h0],fun h=>by omega,fun h=>by omega,fun i u hu=>by simp at hu⟩
 ·refine ⟨_,g,cap,rfl,fun _=>rfl,fun _=>rfl,fun i u hu=>?_⟩
  rw [← ht] at hu
  refine obj_cell hg ?_
  rw [← Array.getElem?_toList]
  rw [List.getElem?_take] at hu
  split at hu
  ·exact hu
  ·cases hu
theorem copiedW_wp {x:World} {ta:Option Addr} {ba bo cap:Nat} {LA:Nat→Option Addr} {LC:Nat→Nat} {ts:List (List Op3)} (hT:OpsX x ta ba bo LA LC ts) (hn:ts.length≤1000000000000) (hll:∀ l ∈ ts,l.length≤100000000000) :
  Calls Try.prog 43 #[.slice ta ts.length cap] x fun e x'=>∃ ov LB,e=.returned ov∧Below x.heap.size x x'∧OwnT x.heap.size x' ov LB ts ts.length:=by
 replace hT:=Lib.hid hT
 obtain ⟨B,hB⟩:∃ B,B=x.heap.size:=⟨_,rfl⟩
 rw [← hB]
 replace hB:=Lib.hid hB
 obtain ⟨i3,hi3,hz3,hs3,hb3⟩:=info34
 obtain ⟨i2,hi2,hz2,hs2,hb2'⟩:=info32
 go_enter Try.func43,Try.ntmps43
 go_wp2_with fail
 go_loopw [3,4] (fun ov v wr=>∃ (i:Nat) (LB:Nat→Nat),v=.int .i64 (i:Int)∧i≤ts.length∧Hid (OwnT B wr ov LB ts i)∧Hid (Below B x wr)∧B≤wr.heap.size) (fun _ v _=>ts.length+1 - natOfV v)
 case atStart =>
  refine ⟨0,fun _=>0,rfl,Nat.zero_le _,⟨?_,fun i h=>absurd h (Nat.not_lt_zero _),fun i h=>absurd h (Nat.not_lt_zero _),fun i j h=>absurd h (Nat.not_lt_zero _),fun i l h=>absurd h (Nat.not_lt_zero _)⟩,?_,?_⟩
  ·exact World.ownsRow_made (e:=32) (size:=1) x #[] 0 (base:=B) (Nat.le_of_eq hB.out) (by decide) (by simp)
  ·exact (Below.refl _ _).alloc (Nat.le_of_eq hB.out) _
  ·have:=hB.out; rw [alloc_size]; omega
 case round =>
  obtain ⟨i,LB,rfl,hi,hO,hb,hbs⟩:=hrel
  by_cases hlt:i < ts.length
  ·obtain rfl:=hT.out.ta (by omega)
   have g1:(i:Int) < (ts.length:Int):=by omega
   have g2:(0:Int)≤(i:Int):=by omega
   obtain ⟨l,hl⟩:∃ l,ts[i]?=some l:=⟨_,List.getElem?_eq_getElem hlt⟩
   have hlb:=hll l (List.mem_of_getElem? hl)
   have hxl:=hT.out.row i l hl
   have hxlb:=World.block_lt_of_cell? x _ hxl
   have c1:=(hb.out.cell (by rw [hB.out]; exact hxlb)).trans hxl
   have hm:=make_o l.length (by omega)
   have q1:IntKind.i64.wrap ((l.length:Int)+2)=(l.length:Int)+2:=by rw [IntKind.wrap_i64]; omega
   obtain ⟨Z,hZ⟩:∃ Z,Z=List.replicate ((l.length+2) * 3) (Value.int .i64 0):=⟨_,rfl⟩
   rw [← hZ] at hm
   have hZl:Z.length=(l.length+2) * 3:=by rw [hZ,List.length_replicate]
   have hZ0:(wr.alloc (.cells Z.toArray 34)).heap[wr.heap.size]?=some (.cells Z.toArray 34):=alloc_new
   have hrun:=copy_run (P:=Try.prog) (sT:=32) (ty:=3) (dLen:=l.length+2) (dCap:=l.length+2) (sLen:=l.length) (sp:=LA i) (sCap:=LC i) (cs:=opsV l) Try.underlying32 hi3 hZ0 (by rw [opsV_len,hs3,show Nat.min l.length (l.length+2)=l.length from Nat.min_eq_left (by omega)]) (fun e=>by
    by_cases h:l=[]
    ·rw [h]; rfl
    ·obtain ⟨la,lo,e1,_⟩:=hT.out.ops i l hl h
     rw [e1] at e; cases e) (fun ad ha j v hv=>by
    obtain ⟨i',j',o,ho,hj',rfl,hv'⟩:=opsV_in hv
    obtain ⟨la,lo,e1,e2⟩:=hT.out.ops i l hl (fun e=>by rw [e] at ho; cases ho)
    rw [e1] at ha
    cases ha
    have e:(⟨la,lo,none⟩:Addr).add (i' * 3+j')=⟨la,lo+i' * 3+j',none⟩:=by
     rw [Nat.add_assoc]
     unfold Addr.add; split <;> simp_all
    rw [e]
    have h:x.cell? ⟨la,lo+i' * 3+j',none⟩=some v:=by
     obtain ⟨k1,k2,k3⟩:=e2 i' o ho
     have h3:j'=0∨j'=1∨j'=2:=by omega
     rcases h3 with rfl | rfl | rfl
     ·rw [Nat.add_zero,k1]; exact hv'
     ·rw [k2]; exact hv'
     ·rw [k3]; exact hv'
    have h':=(hb.out.cell (by rw [hB.out]; exact World.block_lt_of_cell? x _ h)).trans h
    exact (World.cell?_alloc_some wr _ _ (by rw [h']; rfl)).trans h') (by rw [opsV_len,hZl]; omega) (fun v hv=>by
    obtain ⟨k,hk⟩:=List.getElem?_of_mem hv
    obtain ⟨i',j',o,ho,hj',rfl,hv'⟩:=opsV_in hk
    have h3:j'=0∨j'=1∨j'=2:=by omega
    rcases h3 with rfl | rfl | rfl <;> (simp [opV] at hv'; subst hv'; rfl))
   obtain ⟨W2,hW2⟩:∃ W,W=(wr.alloc (.cells Z.toArray 34)).setRow wr.heap.size ((opsV l) ++ Z.drop (opsV l).length).toArray:=⟨_,rfl⟩
   rw [← hW2] at hrun
   have hr2:W2.heap[wr.heap.size]?=some (.cells ((opsV l) ++ Z.drop (opsV l).length).toArray 34):=by rw [hW2]; exact setRow_heap _ _ _ _ _ _ hZ0
   have hl2:Z.drop (opsV l).length=[.int .i64 0,.int .i64 0,.int .i64 0,.int .i64 0,.int .i64 0,.int .i64 0]:=by
    rw [opsV_len,hZ,List.drop_replicate]
    have:(l.length+2) * 3 - l.length * 3=6:=by omega
    rw [this]
    rfl
   rw [hl2] at hr2
   have c3:(wr.alloc (.cells Z.toArray 34)).cell? ⟨ba,bo+i,none⟩=some (.slice (LA i) l.length (LC i)):=(World.cell?_alloc_some wr _ _ (by rw [c1]; rfl)).trans c1
   obtain ⟨G,hG⟩:∃ G,G=wr.heap.size:=⟨_,rfl⟩
   have c2:W2.cell? ⟨ba,bo+i,none⟩=some (.slice (LA i) l.length (LC i)):=by
    rw [hW2]
    refine (World.cell?_of_block ?_).trans c1
    rw [setRow_other _ _ _ _ (by have:=World.block_lt_of_cell? wr _ c1; dsimp only at this ⊢; omega)]
    exact alloc_old (World.block_lt_of_cell? wr _ c1)
   have hst1:=store_run (P:=Try.prog) (o:=l.length * 3) (.int .i64 91) (.int .i64 0) (.int .i64 0) hi3 hs3 hr2 (by rw [List.length_append,opsV_len]; simp) rfl rfl rfl
   have e1:List.take (l.length * 3) (opsV l ++ [Value.int .i64 0,.int .i64 0,.int .i64 0,.int .i64 0,.int .i64 0,.int .i64 0]) ++ [.int .i64 91,.int .i64 0,.int .i64 0] ++ List.drop (l.length * 3+3) (opsV l ++ [Value.int .i64 0,.int .i64 0,.int .i64 0,.int .i64 0,.int .i64 0,.int .i64 0])=opsV l ++ [.int .i64 91,.int .i64 0,.int .i64 0,.int .i64 0,.int .i64 0,.int .i64 0]:=by
    rw [← opsV_len l,List.take_left,List.drop_append]
    simp
   rw [e1] at hst1
   obtain ⟨W3,hW3⟩:∃ W,W=W2.setRow wr.heap.size (opsV l ++ [Value.int .i64 91,.int .i64 0,.int .i64 0,.int .i64 0,.int .i64 0,.int .i64 0]).toArray:=⟨_,rfl⟩
   rw [← hW3] at hst1
   have hr3:W3.heap[wr.heap.size]?=some (.cells (opsV l ++ [Value.int .i64 91,.int .i64 0,.int .i64 0,.int .i64 0,.int .i64 0,.int .i64 0]).toArray 34):=by rw [hW3]; exact setRow_heap _ _ _ _ _ _ hr2
   have hst2:=store_run (P:=Try.prog) (o:=(l.length+1) * 3) (.int .i64 92) (.int .i64 0) (.int .i64 0) hi3 hs3 hr3 (by rw [List.length_append,opsV_len]; simp; omega) rfl rfl rfl
   have e2:List.take ((l.length+1) * 3) (opsV l ++ [Value.int .i64 91,.int .i64 0,.int .i64 0,.int .i64 0,.int .i64 0,.int .i64 0]) ++ [.int .i64 92,.int .i64 0,.int .i64 0] ++ List.drop ((l.length+1) * 3+3) (opsV l ++ [Value.int .i64 91,.int .i64 0,.int .i64 0,.int .i64 0,.int .i64 0,.int .i64 0])=ownO l:=by
    have e3:(l.length+1) * 3=(opsV l).length+3:=by rw [opsV_len]; omega
    rw [e3,List.take_append,List.drop_append]
    unfold ownO
    have e4:(opsV l).length+3 - (opsV l).length=3:=by omega
    have e5:(opsV l).length+3+3 - (opsV l).length=6:=by omega
    rw [e4,e5,List.take_of_length_le (by omega),List.drop_eq_nil_of_le (by omega)]
    simp
   rw [e2] at hst2
   obtain ⟨W4,hW4⟩:∃ W,W=W3.setRow wr.heap.size (ownO l).toArray:=⟨_,rfl⟩
   rw [← hW4] at hst2
   have hr4:W4.heap[wr.heap.size]?=some (.cells (ownO l).toArray 34):=by rw [hW4]; exact setRow_heap _ _ _ _ _ _ hr3
   have hbl:=World.block_lt_of_cell? wr _ c1
   dsimp only at hbl
   have c4:W3.cell? ⟨ba,bo+i,none⟩=some (.slice (LA i) l.length (LC i)):=by
    rw [hW3]
    exact (World.cell?_of_block (setRow_other _ _ _ _ (by dsimp only; omega))).trans c2
   have c5:W4.cell? ⟨ba,bo+i,none⟩=some (.slice (LA i) l.length (LC i)):=by
    rw [hW4]
    exact (World.cell?_of_block (setRow_other _ _ _ _ (by dsimp only; omega))).trans c4
   have hb2:Below wr.heap.size wr W2:=by rw [hW2]; exact below_setRow ((Below.refl _ _).alloc (Nat.le_refl _) _) (Nat.le_refl _) _
   have hb4:Below wr.heap.size wr W4:=by rw [hW4,hW3]; exact below_setRow (below_setRow hb2 (Nat.le_refl _) _) (Nat.le_refl _) _
   have hs4:W4.heap.size=wr.heap.size+1:=by rw [hW4,hW3,hW2]; simp [World.setRow]
   have ho4:W4.ownsRow B 32 1 u3 i (rowO LB ts i):=ownsRow_same hO.out.row fun g hg=>hb4.block g (hO.out.row.lt g hg).2
   have g3:(0:Int)≤(l.length:Int)+1:=by omega
   have g4:((l.length:Int)+1).toNat=l.length+1:=by omega
   have g5:(l.length:Int) < (l.length:Int)+2:=by omega
   have g6:(l.length:Int)+1 < (l.length:Int)+2:=by omega
   have g7:IntKind.i64.wrap ((l.length:Int)+1)=(l.length:Int)+1:=by rw [IntKind.wrap_i64]; omega
   have g8:(0:Int)≤(l.length:Int):=by omega
   obtain ⟨nv,hnv⟩:∃ nv,nv=Value.slice (some ⟨wr.heap.size,0,none⟩) l.length (l.length+2):=⟨_,rfl⟩
   have hnews:∀ j u,[nv][j]?=some u→(W4.alloc (.cells #[nv] 32)).cell? ((⟨W4.heap.size,0,none⟩:Addr).add j)=some u:=World.news_of_block (cs:=#[nv]) (t:=32) (fr:=(0,0)) (heap_alloc_new _ _)
   have hone:∀ u ∈ [nv],u.oneCell'=true:=by intro u hu; simp at hu; subst hu; rw [hnv]; rfl
   have hbW:B≤W4.heap.size:=by omega
   rw [hnv] at hnews hone
   replace hnv:=Lib.hid hnv
   replace hr3:=Lib.hid hr3
   replace hr4:=Lib.hid hr4
   replace hW3:=Lib.hid hW3
   replace hW4:=Lib.hid hW4
   replace hb2:=Lib.hid hb2
   replace hb4:=Lib.hid hb4
   replace ho4:=Lib.hid ho4
   replace hs4:=Lib.hid hs4
   clear e1 e2
   replace hr2:=Lib.hid hr2
   replace hW2:=Lib.hid hW2
   replace hZ:=Lib.hid hZ
   replace hZ0:=Lib.hid hZ0
   replace hl2:=Lib.hid hl2
   replace hG:=Lib.hid hG
   clear hxl
   go_wp2_with (first | (refine wpList_store rfl rfl (.tmp 33) (.tmp 32) 34 rfl rfl rfl hst1 ?_) | (refine wpList_store rfl rfl (.tmp 42) (.tmp 41) 34 rfl rfl rfl hst2 ?_) | (at_builtin; refine wpList_append_lies _ rfl _ _ _ rfl B 32 i2 _ 1 24 Try.underlying22 hi2 hz2 hs2 hb2' rfl (by decide) u3 i _ (by rfl) (ho4.out.alloc _) ⟨W4.heap.size,0,none⟩ 1 1 [_] (by rfl) (by rfl) hnews hone (by omega) (by unfold maxLen; omega) (by omega) (by rw [alloc_size]; omega) _ rfl ?_; intro gg cp w5 ho5 hgrow hat hlt5))
   have hO1:=hO.out
   have hlt':∀ k,k < i→LB k < wr.heap.size:=fun k hk=>by
    have:=hO1.ops k _ hk (List.getElem?_eq_getElem (by omega))
    exact (Array.getElem?_eq_some_iff.1 this).1
   have hub:∀ g,u3.ownBlock=some g→g < wr.heap.size:=fun g hg=>(hO1.row.lt g hg).2
   have hs4':=hs4.out
   have hblk:∀ (b:Nat),b < W4.heap.size→u3.ownBlock≠some b→w5.heap[b]?=W4.heap[b]?:=fun b h1 h2=>by
    rw [hgrow.block b (by rw [alloc_size]; omega) (Ne.symm h2)]
    exact alloc_old h1
   have hgg:∀ k,k < i→gg≠LB k:=fun k hk e=>by
    rcases hat with h | h
    ·exact hO1.ne k hk (by rw [h,e])
    ·have:=hlt' k hk
     rw [alloc_size] at h
     omega
   have hgi:gg≠wr.heap.size:=fun e=>by
    rcases hat with h | h
    ·have:=hub _ h
     omega
    ·rw [alloc_size] at h
     omega
   have hlen:lenOf ts i=l.length:=by unfold lenOf; rw [hl]; rfl
   have hn:OwnT B w5 (.slice (some ⟨gg,0,none⟩) (i+1) cp) (fun k=>if k=i then wr.heap.size else LB k) ts (i+1):=by
    refine ⟨?_,fun k hk=>?_,fun k hk=>?_,fun k k' hk hk' e=>?_,fun k l' hk hl'=>?_⟩
    ·have e:rowO (fun k=>if k=i then wr.heap.size else LB k) ts (i+1)=rowO LB ts i ++ [.slice (some ⟨wr.heap.size,0,none⟩) l.length (l.length+2)]:=by
      unfold rowO
      rw [List.range_succ,List.map_append]
      congr 1
      ·refine List.map_congr_left fun k hk=>?_
       have:=List.mem_range.1 hk
       show Value.slice (some ⟨if k=i then wr.heap.size else LB k,0,none⟩) _ _=_
       rw [if_neg (by omega)]
      ·simp [hlen]
     rw [e]
     exact ho5
    ·split
     ·exact hbs
     ·exact hO1.up k (by omega)
    ·intro e
     have e':gg=if k=i then wr.heap.size else LB k:=by simpa [Value.ownBlock] using e
     by_cases h:k=i
     ·rw [if_pos h] at e'; exact hgi e'
     ·rw [if_neg h] at e'; exact hgg k (by omega) e'
    ·by_cases h:k=i
     ·by_cases h':k'=i
      ·omega
      ·rw [if_pos h,if_neg h'] at e
       have:=hlt' k' (by omega)
       omega
     ·by_cases h':k'=i
      ·rw [if_neg h,if_pos h'] at e
       have:=hlt' k (by omega)
       omega
      ·rw [if_neg h,if_neg h'] at e
       exact hO1.inj k k' (by omega) (by omega) e
    ·by_cases h:k=i
     ·subst h
      rw [if_pos rfl]
      rw [hl] at hl'
      cases hl'
      rw [hblk _ (by omega) (fun e=>Nat.lt_irrefl _ (hub _ e))]
      exact hr4.out
     ·rw [if_neg h]
      have h1:=hlt' k (by omega)
      rw [hblk _ (by omega) (hO1.ne k (by omega)),hb4.out.block _ h1]
      exact hO1.ops k l' (by omega) hl'
   have hb5:Below B x w5:=((hb.out.trans (hb4.out.mono hbs)).alloc hbW _).grown hgrow (by rw [alloc_size]; omega) (fun k hk=>(hO1.row.lt k hk).1)
   have hs5:B≤w5.heap.size:=by have:=hb5.size; have:=hgrow.size; rw [alloc_size] at this; omega
   have e9:natOfV (.int .i64 ((i:Int)+1))=i+1:=by simp [natOfV]
   exact ⟨⟨i+1,_,by rw [Int.natCast_add]; rfl,by omega,hn,hb5,hs5⟩,by rw [e9]; simp [natOfV]; omega⟩
  ·obtain rfl:i=ts.length:=by omega
   have g1:¬ (ts.length:Int) < (ts.length:Int):=by omega
   go_wp2
   go_ret
   exact ⟨_,rfl,hb.out,LB,hO.out⟩
theorem stayedW_wp {x:World} {B:Nat} {ov:Value} {LB:Nat→Nat} {ta:Option Addr} {ba bo cap:Nat} {LA:Nat→Option Addr} {LC:Nat→Nat} {ts:List (List Op3)} (hO:OwnT B x ov LB ts ts.length) (hT:OpsX x ta ba bo LA LC ts) (hn:ts.length≤1000000000000) (hll:∀ l ∈ ts,l.length≤100000000000) :
  Calls Try.prog 47 #[ov,.slice ta ts.length cap] x fun e x'=>e=.returned (.bool true)∧∃ k,x'=x.drewN k:=by
 obtain ⟨A,g,ocap,rfl,hA,hAb,hcs⟩:=owns_cells hO.row
 have hops:=hO.ops
 replace hT:=Lib.hid hT
 replace hO:=Lib.hid hO
 replace hcs:=Lib.hid hcs
 replace hops:=Lib.hid hops
 go_enter Try.func47,Try.ntmps47
 go_wp2_with fail
 go_loopw [5] (fun v wr=>∃ i:Nat,v=.int .i64 (i:Int)∧i≤ts.length∧∃ k,wr=x.drewN k) (fun v _=>ts.length+1 - natOfV v)
 case atStart=>exact ⟨0,rfl,Nat.zero_le _,0,rfl⟩
 case round =>
  obtain ⟨i,rfl,hi,k0,rfl⟩:=hrel
  by_cases hlt:i < ts.length
  ·obtain rfl:=hT.out.ta (by omega)
   obtain rfl:=hA (by omega)
   have g1:(i:Int) < (ts.length:Int):=by omega
   have g2:(0:Int)≤(i:Int):=by omega
   have hiw:IntKind.i64.wrap ((i:Int)+1)=((i+1:Nat):Int):=by rw [IntKind.wrap_i64]; omega
   obtain ⟨l,hl⟩:∃ l,ts[i]?=some l:=⟨_,List.getElem?_eq_getElem hlt⟩
   have hlen:lenOf ts i=l.length:=by unfold lenOf; rw [hl]; rfl
   have hlb:=hll l (List.mem_of_getElem? hl)
   have c1:=hT.out.row i l hl
   have c2:=hcs.out i _ (rowO_get hlt)
   rw [hlen] at c2
   have hrow:=hops.out i l hlt hl
   have oc:∀ j u,(ownO l)[j]?=some u→x.cell? ⟨LB i,j,none⟩=some u:=fun j u hu=>obj_cell hrow (by rw [← Array.getElem?_toList]; exact hu)
   have q1:IntKind.i64.wrap ((l.length:Int)+2)=((l.length+2:Nat):Int):=by rw [IntKind.wrap_i64]; omega
   have q2:(0:Int)≤((l.length+2:Nat):Int):=by omega
   replace hrow:=Lib.hid hrow
   replace oc:=Lib.hid oc
   replace hlen:=Lib.hid hlen
   go_wp2_with fail
   go_loopw [8] (fun v wr=>∃ j:Nat,v=.int .i64 (j:Int)∧j≤l.length∧∃ k,wr=x.drewN k) (fun v _=>l.length+1 - natOfV v)
   case atStart=>exact ⟨0,rfl,Nat.zero_le _,k0,rfl⟩
   case round =>
    obtain ⟨j,rfl,hj,k1,rfl⟩:=hrel
    by_cases hjl:j < l.length
    ·obtain ⟨⟨o1,o2,o3⟩,ho⟩:∃ o,l[j]?=some o:=⟨_,List.getElem?_eq_getElem hjl⟩
     obtain ⟨la,lo,e1,e2⟩:=hT.out.ops i l hl (fun e=>by rw [e] at hjl; exact absurd hjl (Nat.not_lt_zero _))
     rw [e1] at c1
     obtain ⟨a1,a2,a3⟩:=e2 j _ ho
     obtain ⟨b1,b2,b3⟩:=ownO_op ho
     replace b1:=oc.out _ _ b1
     replace b2:=oc.out _ _ b2
     replace b3:=oc.out _ _ b3
     dsimp only at a1 a2 a3 b1 b2 b3
     have g3:(j:Int) < (l.length:Int):=by omega
     have g4:(0:Int)≤(j:Int):=by omega
     have g5:(j:Int) < (l.length:Int)+2:=by omega
     have g6:(j:Int) < ((l.length+2:Nat):Int):=by omega
     have hjw:IntKind.i64.wrap ((j:Int)+1)=((j+1:Nat):Int):=by rw [IntKind.wrap_i64]; omega
     replace e2:=Lib.hid e2
     go_wp2
     go_quiet (fail)
     go_wp2
     have e9:natOfV (.int .i64 ((j:Int)+1))=j+1:=by simp [natOfV]
     exact ⟨⟨j+1,by rw [Int.natCast_add]; rfl,by omega,_,rfl⟩,by rw [e9]; simp [natOfV]; omega⟩
    ·obtain rfl:j=l.length:=by omega
     have g3:¬ (l.length:Int) < (l.length:Int):=by omega
     have e1:=fun k u h=>oc.out (l.length * 3+k) u ((ownO_end l k).trans h)
     have a1:=e1 0 _ rfl
     have a2:=e1 1 _ rfl
     have a3:=e1 2 _ rfl
     have a4:=e1 3 _ rfl
     have a5:=e1 4 _ rfl
     have a6:=e1 5 _ rfl
     rw [Nat.add_zero] at a1
     rw [show l.length * 3+3=(l.length+1) * 3 by omega] at a4
     rw [show l.length * 3+4=(l.length+1) * 3+1 by omega] at a5
     rw [show l.length * 3+5=(l.length+1) * 3+2 by omega] at a6
     have g4:(0:Int)≤(l.length:Int)+1:=by omega
     have g5:((l.length:Int)+1).toNat=l.length+1:=by omega
     have g6:(l.length:Int) < (l.length:Int)+2:=by omega
     have g7:(l.length:Int)+1 < (l.length:Int)+2:=by omega
     have g8:IntKind.i64.wrap ((l.length:Int)+1)=(l.length:Int)+1:=by rw [IntKind.wrap_i64]; omega
     have g9:(0:Int)≤(l.length:Int):=by omega
     clear e1
     go_wp2
     have e9:natOfV (.int .i64 ((i:Int)+1))=i+1:=by simp [natOfV]
     exact ⟨⟨i+1,by rw [Int.natCast_add]; rfl,by omega,_,rfl⟩,by rw [e9]; simp [natOfV]; omega⟩
  ·obtain rfl:i=ts.length:=by omega
   have g1:¬ (ts.length:Int) < (ts.length:Int):=by omega
   go_wp2
   go_ret
   exact ⟨rfl,k0,rfl⟩
end Go.Proofs.Ytimlbbleblijnaa.Co
