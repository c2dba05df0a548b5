/- Lemmas for the laws of this seat, laid together of PSl, POi, PGek, PGem, POj, PGep. -/
import Derived.Test.YtimlbbleblijnaaX19
import Derived.Test.YtimlbbleblijnaaX25
import Derived.Test.YtimlbbleblijnaaX26
import Derived.Test.YtimlbbleblijnaaX27
import Derived.Test.YtimlbbleblijnaaX28
import Derived.WalkKit
import Derived.WalkSmall
import Derived.Maps.AppendAt
import Derived.Deep.AppendLies
import Derived.Deep.Draws
import Derived.RangeFuncBox

set_option linter.unusedVariables false
set_option linter.unusedSimpArgs false
set_option maxRecDepth 100000
set_option maxHeartbeats 4000000
namespace Go.Proofs.Ytimlbbleblijnaa.Sl
open Go.RowKit
structure Rd (w:World) (B s:Nat) (A:Option Addr) (xs:List Value) (n:Nat):Prop where
 len:xs.length=n * s
 cells:0 < n→∃ b off,A=some ⟨b,off,none⟩∧b < B∧∀ j u,xs[j]?=some u→w.cell? ⟨b,off+j,none⟩=some u
section
variable {w w':World} {B B' s n:Nat} {A:Option Addr} {xs:List Value}
theorem Rd.nil (w:World) (B s:Nat) (A:Option Addr):Rd w B s A [] 0:=⟨by simp,fun h=>absurd h (by omega)⟩
theorem Rd.below (h:Rd w B s A xs n) (hb:Below B w w'):Rd w' B s A xs n :=
 ⟨h.len,fun hn=>by
  obtain ⟨b,off,e,hB,hc⟩:=h.cells hn
  exact ⟨b,off,e,hB,fun j u hu=>(hb.cell (p:=⟨b,off+j,none⟩) hB).trans (hc j u hu)⟩⟩
theorem Rd.mono (h:Rd w B s A xs n) (hB:B≤B'):Rd w B' s A xs n :=
 ⟨h.len,fun hn=>by
  obtain ⟨b,off,e,h1,hc⟩:=h.cells hn
  exact ⟨b,off,e,by omega,hc⟩⟩
theorem Rd.kept (h:Rd w B s A xs n) {row:Option Nat} (hg:w.grownBy w' row) (hB:B≤w.heap.size) (hr:∀ k,row=some k→B≤k):Rd w' B s A xs n :=
 h.below ((Below.refl B w).grown hg hB hr)
theorem Rd.take (h:Rd w B s A xs n) {k:Nat} (hk:k≤n):Rd w B s A (xs.take (k * s)) k :=
 ⟨by rw [List.length_take,h.len]; have:=Nat.mul_le_mul_right s hk; omega,fun hn=>by
  obtain ⟨b,off,e,h1,hc⟩:=h.cells (by omega)
  exact ⟨b,off,e,h1,fun j u hu=>hc j u (by
   rw [List.getElem?_take] at hu
   by_cases hj:j < k * s
   ·rw [if_pos hj] at hu; exact hu
   ·rw [if_neg hj] at hu; cases hu)⟩⟩
def cutA (A:Option Addr) (k cap s:Nat):Option Addr:=if cap=k then A else A.map (·.add (k * s))
theorem Rd.cut (h:Rd w B s A xs n) {k cap:Nat} (hk:k≤n) (hc:n≤cap):Rd w B s (cutA A k cap s) (xs.drop (k * s)) (n - k) :=
 ⟨by rw [List.length_drop,h.len,Nat.sub_mul],fun hn=>by
  obtain ⟨b,off,rfl,h1,hcell⟩:=h.cells (by omega)
  unfold cutA
  rw [if_neg (by omega)]
  refine ⟨b,off+k * s,?_,h1,fun j u hu=>?_⟩
  ·simp only [Option.map_some,Addr.add]
   by_cases hz:k * s=0
   ·rw [if_pos hz,hz,Nat.add_zero]
   ·rw [if_neg hz]
  ·rw [List.getElem?_drop] at hu
   have:=hcell _ _ hu
   rwa [show off+k * s+j=off+(k * s+j) by omega]⟩
end
theorem Rd.new (w:World) (cs:List Value) (t:TypeId) (s n:Nat) (h:cs.length=n * s):Rd (w.alloc (.cells cs.toArray t)) (w.heap.size+1) s (some ⟨w.heap.size,0,none⟩) cs n :=
 ⟨h,fun _=>⟨w.heap.size,0,rfl,Nat.lt_succ_self _,fun j u hu=>by
  have e:(w.alloc (.cells cs.toArray t)).heap[w.heap.size]?=some (.cells cs.toArray t (0,0)):=heap_alloc_new w _
  simp only [World.cell?,e,Nat.zero_add]
  simpa using hu⟩⟩
theorem own_form {w:World} {base n s:Nat} {e:TypeId} {v:Value} {xs:List Value} (h:w.ownsRow base e s v n xs):∃ A c,v=.slice A n c∧n≤c∧c≤maxLen∧(∀ g,A=some g→base≤g.block∧g.block < w.heap.size∧g=⟨g.block,0,none⟩):=by
 rcases h.2 with ⟨rfl,rfl⟩ | ⟨g,cap,cur,rfl,hb,hh,h1,h2,_⟩
 ·exact ⟨none,0,rfl,by omega,by simp [maxLen],fun g hg=>by cases hg⟩
 ·exact ⟨_,cap,rfl,h1,h2,fun g' hg=>by cases hg; exact ⟨hb,(Array.getElem?_eq_some_iff.1 hh).1,rfl⟩⟩
section
variable {P:Program}
theorem run_append_nothing {w:World} (base:Nat) (t ty e:TypeId) {i:TypeInfo} (s:Nat) (ht:P.underlying t=some (.slice e)) (hi:P.info? e=some i)
  {v:Value} {n:Nat} {xs:List Value} (h:w.ownsRow base e s v n xs) (c:Nat):(Builtin.append_ #[t,t] ty #[v,.slice none 0 c]).run P w=.ok v w:=by
 rcases h.2 with ⟨rfl,rfl⟩ | ⟨g,cap,cur,rfl,_,_,hc,_⟩
 ·simp [Builtin.append_,run_underlying ht,sizeOf,typeInfo,hi,Builtin.lenOf,Builtin.firstCells]
 ·simp [Builtin.append_,run_underlying ht,sizeOf,typeInfo,hi,Builtin.lenOf,Builtin.firstCells,hc,storeCells]
theorem run_append_rd {w:World} (base:Nat) (t ty e:TypeId) {i:TypeInfo} {z:Value} {s bytes:Nat} (ht:P.underlying t=some (.slice e)) (hi:P.info? e=some i) (hz:i.zero=some z)
  (hs:i.size=s) (hby:i.bytes=bytes) (hzs:z.cells.size=s) (hsz:0 < s) {v:Value} {n:Nat} {xs:List Value} (h:w.ownsRow base e s v n xs)
  {B:Nat} {A:Option Addr} {m:Nat} (c:Nat) {ys:List Value} (hr:Rd w B s A ys m) (h1:∀ u ∈ ys,u.oneCell'=true) (h63:n+m≤maxLen) (hb:(n+m) * bytes≤140737488355328) (hbase:base≤w.heap.size) :
  ∃ v' w',(Builtin.append_ #[t,t] ty #[v,.slice A m c]).run P w=.ok v' w'∧w'.ownsRow base e s v' (n+m) (xs ++ ys)∧w.grownBy w' v.ownBlock∧(v'.ownBlock=v.ownBlock∨v'.ownBlock=some w.heap.size):=by
 cases A with
 | none =>
   have hm:m=0:=by
    rcases Nat.eq_zero_or_pos m with h0 | h0
    ·exact h0
    ·obtain ⟨b,off,e,_⟩:=hr.cells h0; cases e
   subst hm
   obtain rfl:ys=[]:=List.eq_nil_of_length_eq_zero (by simpa using hr.len)
   exact ⟨v,w,run_append_nothing base t ty e s ht hi h c,by simpa using h,World.grownBy.refl w _,.inl rfl⟩
 | some ad =>
   have hc:∀ j u,ys[j]?=some u→w.cell? (ad.add j)=some u:=by
    intro j u hu
    rcases Nat.eq_zero_or_pos m with h0 | h0
    ·subst h0
     obtain rfl:ys=[]:=List.eq_nil_of_length_eq_zero (by simpa using hr.len)
     simp at hu
    ·obtain ⟨b,off,e,_,hcc⟩:=hr.cells h0
     cases e
     have:=hcc j u hu
     simp only [Addr.add]
     by_cases hj:j=0
     ·subst hj; simpa using this
     ·simpa [hj] using this
   obtain ⟨v',w',x1,x2,x3,_,x5⟩:=run_append_own_at (P:=P) w base t ty e i z s bytes ht hi hz hs hby hzs hsz v n xs h ad m c ys hr.len hc h1 h63 hb hbase
   exact ⟨v',w',x1,x2,x3,x5⟩
theorem wpList_append_rd {w:World} {ops:Array Oper} {rest:List Oper} {o:Oper} {a:Act} {Q:Exit→Act→World→Prop} (hgd:o.guard=none) (x y:Operand) (t:TypeId)
  (ho:o.op=.call { callee:=.builtin .append,args:=#[x,y],argTypes:=#[t,t] })
  (base:Nat) (e:TypeId) {i:TypeInfo} {z:Value} {s bytes:Nat} (ht:P.underlying t=some (.slice e)) (hi:P.info? e=some i) (hz:i.zero=some z)
  (hs:i.size=s) (hby:i.bytes=bytes) (hzs:z.cells.size=s) (hsz:0 < s) {v:Value} {n:Nat} {xs:List Value} (hx:a.eval x=v) (h:w.ownsRow base e s v n xs)
  {B:Nat} {A:Option Addr} {m c:Nat} {ys:List Value} (hy:a.eval y=.slice A m c) (hr:Rd w B s A ys m) (h1:∀ u ∈ ys,u.oneCell'=true) (h63:n+m≤maxLen) (hb:(n+m) * bytes≤140737488355328) (hbase:base≤w.heap.size)
  (hk:∀ A' c' w',w'.ownsRow base e s (.slice A' (n+m) c') (n+m) (xs ++ ys)→Below base w w'→w.heap.size≤w'.heap.size→wpList P ops Q rest (a.put o.dst (.slice A' (n+m) c')) w'):wpList P ops Q (o :: rest) a w:=by
 refine wpList_plain hgd fun _ hK=>?_
 obtain ⟨v',w',x1,x2,x3,x4⟩:=run_append_rd base t o.type e ht hi hz hs hby hzs hsz h c hr h1 h63 hb hbase
 obtain ⟨A',c',rfl,_⟩:=own_form x2
 unfold Oper.wp execOp
 simp only [ho,resolve,invoke,builtin,Sem.run_bind,Sem.run_pure,Result.andThen_ok,List.map_toArray,List.map_cons,List.map_nil,hx,hy,x1]
 exact hK _ _ (hk A' c' w' x2 ((Below.refl base w).grown x3 hbase fun k hk=>(h.lt k hk).1) x3.size)
end
end Go.Proofs.Ytimlbbleblijnaa.Sl

namespace Go.Proofs.Ytimlbbleblijnaa.Co
open Go Go.Conc Go.RowKit
open Go.ConcN (sumTo upd sumTo_upd upd_ne upd_same sumTo_congr le_sumTo)
noncomputable def pwT0:Code:=Try.f9.body.getD .skip
noncomputable def pwS0:Code:=match pwT0 with | .seq x _=>x | _=>.skip
noncomputable def pwT1:Code:=match pwT0 with | .seq _ x=>x | _=>.skip
noncomputable def pwS1:Code:=match pwT1 with | .seq x _=>x | _=>.skip
noncomputable def pwT2:Code:=match pwT1 with | .seq _ x=>x | _=>.skip
noncomputable def pwS2:Code:=match pwT2 with | .seq x _=>x | _=>.skip
noncomputable def pwT3:Code:=match pwT2 with | .seq _ x=>x | _=>.skip
noncomputable def pwS3:Code:=match pwT3 with | .seq x _=>x | _=>.skip
noncomputable def pwT4:Code:=match pwT3 with | .seq _ x=>x | _=>.skip
noncomputable def pwS4:Code:=match pwT4 with | .seq x _=>x | _=>.skip
noncomputable def pwT5:Code:=match pwT4 with | .seq _ x=>x | _=>.skip
noncomputable def pwS5:Code:=match pwT5 with | .seq x _=>x | _=>.skip
noncomputable def pwT6:Code:=match pwT5 with | .seq _ x=>x | _=>.skip
noncomputable def pwS6:Code:=match pwT6 with | .seq x _=>x | _=>.skip
noncomputable def pwT7:Code:=match pwT6 with | .seq _ x=>x | _=>.skip
noncomputable def pwS7:Code:=match pwT7 with | .seq x _=>x | _=>.skip
noncomputable def pwT8:Code:=match pwT7 with | .seq _ x=>x | _=>.skip
noncomputable def pwS8:Code:=match pwT8 with | .seq x _=>x | _=>.skip
noncomputable def pwT9:Code:=match pwT8 with | .seq _ x=>x | _=>.skip
noncomputable def pwS9:Code:=match pwT9 with | .seq x _=>x | _=>.skip
noncomputable def pwT10:Code:=match pwT9 with | .seq _ x=>x | _=>.skip
noncomputable def pwS10:Code:=match pwT10 with | .seq x _=>x | _=>.skip
noncomputable def pwT14:Code:=match pwT10 with | .seq _ x=>x | _=>.skip
noncomputable def pwS14:Code:=match pwT14 with | .seq x _=>x | _=>.skip
noncomputable def pwT16:Code:=match pwT14 with | .seq _ x=>x | _=>.skip
noncomputable def pwS16:Code:=match pwT16 with | .seq x _=>x | _=>.skip
noncomputable def pwT23:Code:=match pwT16 with | .seq _ x=>x | _=>.skip
noncomputable def pwS23:Code:=match pwT23 with | .seq x _=>x | _=>.skip
noncomputable def pwT24:Code:=match pwT23 with | .seq _ x=>x | _=>.skip
noncomputable def pwS24:Code:=match pwT24 with | .seq x _=>x | _=>.skip
noncomputable def pwT25:Code:=match pwT24 with | .seq _ x=>x | _=>.skip
noncomputable def pwS25:Code:=match pwT25 with | .seq x _=>x | _=>.skip
noncomputable def pwT26:Code:=match pwT25 with | .seq _ x=>x | _=>.skip
noncomputable def pwS26:Code:=match pwT26 with | .seq x _=>x | _=>.skip
noncomputable def pwT27:Code:=match pwT26 with | .seq _ x=>x | _=>.skip
noncomputable def pwS27:Code:=match pwT27 with | .seq x _=>x | _=>.skip
noncomputable def pwT28:Code:=match pwT27 with | .seq _ x=>x | _=>.skip
noncomputable def pwS28:Code:=match pwT28 with | .seq x _=>x | _=>.skip
theorem pw_parts:pwT0=.seq pwS0 pwT1∧pwT1=.seq pwS1 pwT2∧pwT2=.seq pwS2 pwT3∧pwT3=.seq pwS3 pwT4∧pwT4=.seq pwS4 pwT5∧pwT5=.seq pwS5 pwT6∧pwT6=.seq pwS6 pwT7∧pwT7=.seq pwS7 pwT8∧pwT8=.seq pwS8 pwT9∧pwT9=.seq pwS9 pwT10∧pwT10=.seq pwS10 pwT14∧pwT14=.seq pwS14 pwT16∧pwT16=.seq pwS16 pwT23∧pwT23=.seq pwS23 pwT24∧pwT24=.seq pwS24 pwT25∧pwT25=.seq pwS25 pwT26∧pwT26=.seq pwS26 pwT27∧pwT27=.seq pwS27 pwT28∧pwT28=.seq pwS28 .ret:=⟨by kernel_rfl,by kernel_rfl,by kernel_rfl,by kernel_rfl,by kernel_rfl,by kernel_rfl,by kernel_rfl,by kernel_rfl,by kernel_rfl,by kernel_rfl,by kernel_rfl,by kernel_rfl,by kernel_rfl,by kernel_rfl,by kernel_rfl,by kernel_rfl,by kernel_rfl,by kernel_rfl,by kernel_rfl⟩
theorem pwS2_wp {f:Nat→Value} {x:World} {v0:Value} {PC:Ending→World→Prop} {Q:Exit→Act→World→Prop} (h0:f 1=v0) (hc:Calls Try.prog 43 #[v0] x PC) (hr:∀ e x',PC e x'→∃ rv,e=.returned rv)
  (hQ:∀ T' x' rv,T'.size=182→(∀ j,j < 31→j≠10→T'[j]?=some (f j))→T'[10]?=some rv→PC (.returned rv) x'→Q .normal ⟨T',[]⟩ x'):pwS2.wp Try.prog Q ⟨(List.map f (List.range 182)).toArray,[]⟩ x:=by
 simp only [List.range,List.range.loop,List.map_cons,List.map_nil,h0]
 simp only [pwS2,pwT2,pwT1,pwT0,Try.f9,Option.getD_some]
 go_wp2_with fail
 refine hc.mono ?_
 rintro e x' he
 obtain ⟨rv,rfl⟩:=hr e x' he
 replace he:=Lib.hid he
 go_wp2_with fail
 exact hQ _ _ rv (by simp) (fun j hj h9=>by
  match j,hj with
  | 0,_ | 1,_ | 2,_ | 3,_ | 4,_ | 5,_ | 6,_ | 7,_ | 8,_ | 9,_ | 11,_ | 12,_ | 13,_ | 14,_ | 15,_ | 16,_ | 17,_ | 18,_ | 19,_ | 20,_ | 21,_ | 22,_ | 23,_ | 24,_ | 25,_ | 26,_ | 27,_ | 28,_ | 29,_ | 30,_=>simp [h0]
  | 10,_=>exact absurd rfl h9
  | j+31,h=>exact absurd h (by omega)) (by simp) he.out
theorem pwS9_wp {f:Nat→Value} {x:World} {v0 v1:Value} {PC:Ending→World→Prop} {Q:Exit→Act→World→Prop} (h0:f 10=v0) (h1:f 1=v1) (hc:Calls Try.prog 47 #[v0,v1] x PC) (hr:∀ e x',PC e x'→∃ rv,e=.returned rv)
  (hQ:∀ T' x' rv,T'.size=182→(∀ j,j < 31→j≠20→T'[j]?=some (f j))→T'[20]?=some rv→PC (.returned rv) x'→Q .normal ⟨T',[]⟩ x'):pwS9.wp Try.prog Q ⟨(List.map f (List.range 182)).toArray,[]⟩ x:=by
 simp only [List.range,List.range.loop,List.map_cons,List.map_nil,h0,h1]
 simp only [pwS9,pwT9,pwT8,pwT7,pwT6,pwT5,pwT4,pwT3,pwT2,pwT1,pwT0,Try.f9,Option.getD_some]
 go_wp2_with fail
 refine hc.mono ?_
 rintro e x' he
 obtain ⟨rv,rfl⟩:=hr e x' he
 replace he:=Lib.hid he
 go_wp2_with fail
 exact hQ _ _ rv (by simp) (fun j hj h9=>by
  match j,hj with
  | 0,_ | 1,_ | 2,_ | 3,_ | 4,_ | 5,_ | 6,_ | 7,_ | 8,_ | 9,_ | 10,_ | 11,_ | 12,_ | 13,_ | 14,_ | 15,_ | 16,_ | 17,_ | 18,_ | 19,_ | 21,_ | 22,_ | 23,_ | 24,_ | 25,_ | 26,_ | 27,_ | 28,_ | 29,_ | 30,_=>simp [h0,h1]
  | 20,_=>exact absurd rfl h9
  | j+31,h=>exact absurd h (by omega)) (by simp) he.out
theorem pwS27_wp {f:Nat→Value} {x:World} {v0 v1 v2 v3:Value} {PC:Ending→World→Prop} {Q:Exit→Act→World→Prop} (h0:f 14=v0) (h1:f 16=v1) (h2:f 15=v2) (h3:f 17=v3) (hc:Calls Try.prog 48 #[v0,v1,v2,v3] x PC) (hr:∀ e x',PC e x'→∃ rv,e=.returned rv)
  (hQ:∀ T' x' rv,T'.size=182→(∀ j,j < 31→j≠30→T'[j]?=some (f j))→T'[30]?=some rv→PC (.returned rv) x'→Q .normal ⟨T',[]⟩ x'):pwS27.wp Try.prog Q ⟨(List.map f (List.range 182)).toArray,[]⟩ x:=by
 simp only [List.range,List.range.loop,List.map_cons,List.map_nil,h0,h1,h2,h3]
 simp only [pwS27,pwT27,pwT26,pwT25,pwT24,pwT23,pwT16,pwT14,pwT10,pwT9,pwT8,pwT7,pwT6,pwT5,pwT4,pwT3,pwT2,pwT1,pwT0,Try.f9,Option.getD_some]
 go_wp2_with fail
 refine hc.mono ?_
 rintro e x' he
 obtain ⟨rv,rfl⟩:=hr e x' he
 replace he:=Lib.hid he
 go_wp2_with fail
 exact hQ _ _ rv (by simp) (fun j hj h9=>by
  match j,hj with
  | 0,_ | 1,_ | 2,_ | 3,_ | 4,_ | 5,_ | 6,_ | 7,_ | 8,_ | 9,_ | 10,_ | 11,_ | 12,_ | 13,_ | 14,_ | 15,_ | 16,_ | 17,_ | 18,_ | 19,_ | 20,_ | 21,_ | 22,_ | 23,_ | 24,_ | 25,_ | 26,_ | 27,_ | 28,_ | 29,_=>simp [h0,h1,h2,h3]
  | 30,_=>exact absurd rfl h9
  | j+31,h=>exact absurd h (by omega)) (by simp) he.out
theorem pwS4_wp {f:Nat→Value} {x:World} {v0 v1 v2 v3:Value} {PC:Ending→World→Prop} {Q:Exit→Act→World→Prop} (h0:f 0=v0) (h1:f 1=v1) (h2:f 2=v2) (h3:f 3=v3) (hc:Calls Try.prog 44 #[v0,v1,v2,v3] x PC) (hr:∀ e x',PC e x'→∃ av bv,e=.returned (.tuple #[av,bv]))
  (hQ:∀ T' x' av bv,T'.size=182→(∀ j,j < 31→j≠12→j≠13→T'[j]?=some (f j))→T'[12]?=some av→T'[13]?=some bv→PC (.returned (.tuple #[av,bv])) x'→Q .normal ⟨T',[]⟩ x'):pwS4.wp Try.prog Q ⟨(List.map f (List.range 182)).toArray,[]⟩ x:=by
 simp only [List.range,List.range.loop,List.map_cons,List.map_nil,h0,h1,h2,h3]
 simp only [pwS4,pwT4,pwT3,pwT2,pwT1,pwT0,Try.f9,Option.getD_some]
 go_wp2_with fail
 refine hc.mono ?_
 rintro e x' he
 obtain ⟨av,bv,rfl⟩:=hr e x' he
 replace he:=Lib.hid he
 go_wp2_with fail
 exact hQ _ _ av bv (by simp) (fun j hj h9 h8=>by
  match j,hj with
  | 0,_ | 1,_ | 2,_ | 3,_ | 4,_ | 5,_ | 6,_ | 7,_ | 8,_ | 9,_ | 10,_ | 11,_ | 14,_ | 15,_ | 16,_ | 17,_ | 18,_ | 19,_ | 20,_ | 21,_ | 22,_ | 23,_ | 24,_ | 25,_ | 26,_ | 27,_ | 28,_ | 29,_ | 30,_=>simp [h0,h1,h2,h3]
  | 12,_=>exact absurd rfl h9
  | 13,_=>exact absurd rfl h8
  | j+31,h=>exact absurd h (by omega)) (by simp) (by simp) he.out
theorem pwS23_wp {f:Nat→Value} {x:World} {v0 v1 v2 v3:Value} {PC:Ending→World→Prop} {Q:Exit→Act→World→Prop} (h0:f 0=v0) (h1:f 10=v1) (h2:f 11=v2) (h3:f 3=v3) (hc:Calls Try.prog 44 #[v0,v1,v2,v3] x PC) (hr:∀ e x',PC e x'→∃ av bv,e=.returned (.tuple #[av,bv]))
  (hQ:∀ T' x' av bv,T'.size=182→(∀ j,j < 31→j≠24→j≠25→T'[j]?=some (f j))→T'[24]?=some av→T'[25]?=some bv→PC (.returned (.tuple #[av,bv])) x'→Q .normal ⟨T',[]⟩ x'):pwS23.wp Try.prog Q ⟨(List.map f (List.range 182)).toArray,[]⟩ x:=by
 simp only [List.range,List.range.loop,List.map_cons,List.map_nil,h0,h1,h2,h3]
 simp only [pwS23,pwT23,pwT16,pwT14,pwT10,pwT9,pwT8,pwT7,pwT6,pwT5,pwT4,pwT3,pwT2,pwT1,pwT0,Try.f9,Option.getD_some]
 go_wp2_with fail
 refine hc.mono ?_
 rintro e x' he
 obtain ⟨av,bv,rfl⟩:=hr e x' he
 replace he:=Lib.hid he
 go_wp2_with fail
 exact hQ _ _ av bv (by simp) (fun j hj h9 h8=>by
  match j,hj with
  | 0,_ | 1,_ | 2,_ | 3,_ | 4,_ | 5,_ | 6,_ | 7,_ | 8,_ | 9,_ | 10,_ | 11,_ | 12,_ | 13,_ | 14,_ | 15,_ | 16,_ | 17,_ | 18,_ | 19,_ | 20,_ | 21,_ | 22,_ | 23,_ | 26,_ | 27,_ | 28,_ | 29,_ | 30,_=>simp [h0,h1,h2,h3]
  | 24,_=>exact absurd rfl h9
  | 25,_=>exact absurd rfl h8
  | j+31,h=>exact absurd h (by omega)) (by simp) (by simp) he.out
theorem pwS7_wp {f:Nat→Value} {x:World} {v0 v1 v2 v3:Value} {Q:Exit→Act→World→Prop} (h0:f 14=v0) (h1:f 12=v1) (h2:f 15=v2) (h3:f 13=v3) (hc:Calls Try.prog 22 #[v0,v1] x fun e x'=>e=.returned (.bool true)∧∃ k,x'=x.drewN k) (hd:∀ k,Calls Try.prog 46 #[v2,v3] (x.drewN k) fun e x'=>e=.returned (.bool true)∧∃ k',x'=(x.drewN k).drewN k')
  (hQ:∀ T' x',T'.size=182→(∀ j,j < 31→j≠18→T'[j]?=some (f j))→T'[18]?=some (.bool true)→x'.heap=x.heap→Q .normal ⟨T',[]⟩ x'):pwS7.wp Try.prog Q ⟨(List.map f (List.range 182)).toArray,[]⟩ x:=by
 simp only [List.range,List.range.loop,List.map_cons,List.map_nil,h0,h1,h2,h3]
 simp only [pwS7,pwT7,pwT6,pwT5,pwT4,pwT3,pwT2,pwT1,pwT0,Try.f9,Option.getD_some]
 go_wp2_with fail
 refine hc.mono ?_
 rintro e x' ⟨rfl,k,rfl⟩
 go_wp2_with fail
 refine (hd k).mono ?_
 rintro e x' ⟨rfl,k',rfl⟩
 go_wp2_with fail
 refine hQ _ _ (by simp) (fun j hj h9=>by
  match j,hj with
  | 0,_ | 1,_ | 2,_ | 3,_ | 4,_ | 5,_ | 6,_ | 7,_ | 8,_ | 9,_ | 10,_ | 11,_ | 12,_ | 13,_ | 14,_ | 15,_ | 16,_ | 17,_ | 19,_ | 20,_ | 21,_ | 22,_ | 23,_ | 24,_ | 25,_ | 26,_ | 27,_ | 28,_ | 29,_ | 30,_=>simp [h0,h1,h2,h3]
  | 18,_=>exact absurd rfl h9
  | j+31,h=>exact absurd h (by omega)) (by simp) rfl
theorem pwS8_wp {f:Nat→Value} {x:World} {v0 v1 v2 v3:Value} {Q:Exit→Act→World→Prop} (h0:f 16=v0) (h1:f 12=v1) (h2:f 17=v2) (h3:f 13=v3) (hc:Calls Try.prog 22 #[v0,v1] x fun e x'=>e=.returned (.bool true)∧∃ k,x'=x.drewN k) (hd:∀ k,Calls Try.prog 46 #[v2,v3] (x.drewN k) fun e x'=>e=.returned (.bool true)∧∃ k',x'=(x.drewN k).drewN k')
  (hQ:∀ T' x',T'.size=182→(∀ j,j < 31→j≠19→T'[j]?=some (f j))→T'[19]?=some (.bool true)→x'.heap=x.heap→Q .normal ⟨T',[]⟩ x'):pwS8.wp Try.prog Q ⟨(List.map f (List.range 182)).toArray,[]⟩ x:=by
 simp only [List.range,List.range.loop,List.map_cons,List.map_nil,h0,h1,h2,h3]
 simp only [pwS8,pwT8,pwT7,pwT6,pwT5,pwT4,pwT3,pwT2,pwT1,pwT0,Try.f9,Option.getD_some]
 go_wp2_with fail
 refine hc.mono ?_
 rintro e x' ⟨rfl,k,rfl⟩
 go_wp2_with fail
 refine (hd k).mono ?_
 rintro e x' ⟨rfl,k',rfl⟩
 go_wp2_with fail
 refine hQ _ _ (by simp) (fun j hj h9=>by
  match j,hj with
  | 0,_ | 1,_ | 2,_ | 3,_ | 4,_ | 5,_ | 6,_ | 7,_ | 8,_ | 9,_ | 10,_ | 11,_ | 12,_ | 13,_ | 14,_ | 15,_ | 16,_ | 17,_ | 18,_ | 20,_ | 21,_ | 22,_ | 23,_ | 24,_ | 25,_ | 26,_ | 27,_ | 28,_ | 29,_ | 30,_=>simp [h0,h1,h2,h3]
  | 19,_=>exact absurd rfl h9
  | j+31,h=>exact absurd h (by omega)) (by simp) rfl
theorem pwS25_wp {f:Nat→Value} {x:World} {v0 v1 v2 v3:Value} {Q:Exit→Act→World→Prop} (h0:f 26=v0) (h1:f 24=v1) (h2:f 27=v2) (h3:f 25=v3) (hc:Calls Try.prog 22 #[v0,v1] x fun e x'=>e=.returned (.bool true)∧∃ k,x'=x.drewN k) (hd:∀ k,Calls Try.prog 46 #[v2,v3] (x.drewN k) fun e x'=>e=.returned (.bool true)∧∃ k',x'=(x.drewN k).drewN k')
  (hQ:∀ T' x',T'.size=182→(∀ j,j < 31→j≠28→T'[j]?=some (f j))→T'[28]?=some (.bool true)→x'.heap=x.heap→Q .normal ⟨T',[]⟩ x'):pwS25.wp Try.prog Q ⟨(List.map f (List.range 182)).toArray,[]⟩ x:=by
 simp only [List.range,List.range.loop,List.map_cons,List.map_nil,h0,h1,h2,h3]
 simp only [pwS25,pwT25,pwT24,pwT23,pwT16,pwT14,pwT10,pwT9,pwT8,pwT7,pwT6,pwT5,pwT4,pwT3,pwT2,pwT1,pwT0,Try.f9,Option.getD_some]
 go_wp2_with fail
 refine hc.mono ?_
 rintro e x' ⟨rfl,k,rfl⟩
 go_wp2_with fail
 refine (hd k).mono ?_
 rintro e x' ⟨rfl,k',rfl⟩
 go_wp2_with fail
 refine hQ _ _ (by simp) (fun j hj h9=>by
  match j,hj with
  | 0,_ | 1,_ | 2,_ | 3,_ | 4,_ | 5,_ | 6,_ | 7,_ | 8,_ | 9,_ | 10,_ | 11,_ | 12,_ | 13,_ | 14,_ | 15,_ | 16,_ | 17,_ | 18,_ | 19,_ | 20,_ | 21,_ | 22,_ | 23,_ | 24,_ | 25,_ | 26,_ | 27,_ | 29,_ | 30,_=>simp [h0,h1,h2,h3]
  | 28,_=>exact absurd rfl h9
  | j+31,h=>exact absurd h (by omega)) (by simp) rfl
theorem pwS26_wp {f:Nat→Value} {x:World} {v0 v1 v2 v3:Value} {Q:Exit→Act→World→Prop} (h0:f 14=v0) (h1:f 12=v1) (h2:f 15=v2) (h3:f 13=v3) (hc:Calls Try.prog 22 #[v0,v1] x fun e x'=>e=.returned (.bool true)∧∃ k,x'=x.drewN k) (hd:∀ k,Calls Try.prog 46 #[v2,v3] (x.drewN k) fun e x'=>e=.returned (.bool true)∧∃ k',x'=(x.drewN k).drewN k')
  (hQ:∀ T' x',T'.size=182→(∀ j,j < 31→j≠29→T'[j]?=some (f j))→T'[29]?=some (.bool true)→x'.heap=x.heap→Q .normal ⟨T',[]⟩ x'):pwS26.wp Try.prog Q ⟨(List.map f (List.range 182)).toArray,[]⟩ x:=by
 simp only [List.range,List.range.loop,List.map_cons,List.map_nil,h0,h1,h2,h3]
 simp only [pwS26,pwT26,pwT25,pwT24,pwT23,pwT16,pwT14,pwT10,pwT9,pwT8,pwT7,pwT6,pwT5,pwT4,pwT3,pwT2,pwT1,pwT0,Try.f9,Option.getD_some]
 go_wp2_with fail
 refine hc.mono ?_
 rintro e x' ⟨rfl,k,rfl⟩
 go_wp2_with fail
 refine (hd k).mono ?_
 rintro e x' ⟨rfl,k',rfl⟩
 go_wp2_with fail
 refine hQ _ _ (by simp) (fun j hj h9=>by
  match j,hj with
  | 0,_ | 1,_ | 2,_ | 3,_ | 4,_ | 5,_ | 6,_ | 7,_ | 8,_ | 9,_ | 10,_ | 11,_ | 12,_ | 13,_ | 14,_ | 15,_ | 16,_ | 17,_ | 18,_ | 19,_ | 20,_ | 21,_ | 22,_ | 23,_ | 24,_ | 25,_ | 26,_ | 27,_ | 28,_ | 30,_=>simp [h0,h1,h2,h3]
  | 29,_=>exact absurd rfl h9
  | j+31,h=>exact absurd h (by omega)) (by simp) rfl
def incO (o:Op3):Op3:=(o.1,o.2.1,IntKind.i64.wrap (o.2.2+1))
theorem opsV_set:∀ (l:List Op3) (k:Nat) (o:Op3) (v:Int),l[k]?=some o→(opsV l).set (k * 3+2) (.int .i64 v)=opsV (l.set k (o.1,o.2.1,v))
 | [],k,o,v,h=>by simp at h
 | o0 :: l,0,o,v,h=>by
   have h':o0=o:=by simpa using h
   subst h'
   simp [opsV,opV]
 | o0 :: l,k+1,o,v,h=>by
   have e:∀ l,opsV (o0 :: l)=opV o0 ++ opsV l:=fun l=>by simp [opsV]
   have e0:(opV o0).length=3:=rfl
   rw [List.set_cons_succ,e,e,List.set_append_right _ _ (by rw [e0]; omega),e0,← opsV_set l k o v (by simpa using h)]
   congr 2
   omega
theorem ownO_set {l:List Op3} {k:Nat} {o:Op3} {v:Int} (h:l[k]?=some o):(ownO l).set (k * 3+2) (.int .i64 v)=ownO (l.set k (o.1,o.2.1,v)):=by
 have hk:=(List.getElem?_eq_some_iff.1 h).1
 unfold ownO
 rw [List.set_append_left _ _ (by rw [opsV_len]; omega),opsV_set l k o v h]
structure W1 (x wr:World) (LB:Nat→Nat) (ts:List (List Op3)) (i:Nat):Prop where
 ops:∀ j l,j < ts.length→ts[j]?=some l→wr.heap[LB j]?=some (.cells (ownO (if j < i then l.map incO else l)).toArray 34)
 old:∀ b,(∀ j,j < ts.length→b≠LB j)→wr.heap[b]?=x.heap[b]?
 size:wr.heap.size=x.heap.size
theorem OpsAt.toX {E:Env} {w x:World} {tv:Value} {ts:List (List Op3)} (h:OpsAt E w tv ts) (hx:∀ b,E.H b=none→x.heap[b]?=w.heap[b]?):∃ (ta:Option Addr) (ba bo cap:Nat) (LA:Nat→Option Addr) (LC:Nat→Nat),tv=.slice ta ts.length cap∧OpsX x ta ba bo LA LC ts:=by
 obtain ⟨ta,ba,bo,cap,LA,LC,h1,h2,h3⟩:=h.at_
 refine ⟨ta,ba,bo,cap,LA,LC,h1,h2,fun i l hi=>?_,fun i l hi hne=>?_⟩
 ·obtain ⟨⟨q1,q2⟩,_⟩:=h3 i l hi
  exact (World.cell?_of_block (a:=⟨ba,bo+i,none⟩) (hx ba q2)).trans q1
 ·obtain ⟨_,q3⟩:=h3 i l hi
  obtain ⟨la,lo,e1,e2,e3⟩:=q3 hne
  refine ⟨la,lo,e1,fun j op hj=>?_⟩
  obtain ⟨k1,k2,k3⟩:=e3 j op hj
  exact ⟨(World.cell?_of_block (a:=⟨la,lo+j * 3,none⟩) (hx la e2)).trans k1,(World.cell?_of_block (a:=⟨la,lo+j * 3+1,none⟩) (hx la e2)).trans k2,(World.cell?_of_block (a:=⟨la,lo+j * 3+2,none⟩) (hx la e2)).trans k3⟩
theorem IntsAt.toX {E:Env} {w x:World} {pv:Value} {ps:List Int} (h:IntsAt E w pv ps) (hx:∀ b,E.H b=none→x.heap[b]?=w.heap[b]?):IntsX x pv ps:=by
 obtain ⟨pa,pb,po,cap,h1,h2,h3⟩:=h.at_
 exact ⟨pa,pb,po,cap,h1,h2,fun i p hi=>(World.cell?_of_block (a:=⟨pb,po+i,none⟩) (hx pb (h3 i p hi).2)).trans (h3 i p hi).1⟩
theorem OwnT.same {B n:Nat} {x w:World} {ov:Value} {LB:Nat→Nat} {ts:List (List Op3)} (h:OwnT B x ov LB ts n) (hs:∀ b,(ov.ownBlock=some b∨∃ i,i < n∧b=LB i)→w.heap[b]?=x.heap[b]?):OwnT B w ov LB ts n :=
 ⟨ownsRow_same h.row fun g hg=>hs g (.inl hg),h.up,h.ne,h.inj,fun i l h1 h2=>(hs _ (.inr ⟨i,h1,rfl⟩)).trans (h.ops i l h1 h2)⟩
theorem OwnT.lower {B n:Nat} {x:World} {ov:Value} {LB:Nat→Nat} {ts:List (List Op3)} (h:OwnT B x ov LB ts n):OwnT 0 x ov LB ts n :=
 ⟨owns_lower h.row (Nat.zero_le _),fun _ _=>Nat.zero_le _,h.ne,h.inj,h.ops⟩
structure OwnV (E:Env) (w:World) (ov:Value) (LB:Nat→Nat) (ts:List (List Op3)):Prop where
 own:OwnT 0 w ov LB ts ts.length
 oH:∀ g,ov.ownBlock=some g→E.H g=none
 lH:∀ i,i < ts.length→E.H (LB i)=none
theorem OwnV.of_new {E E1:Env} {x' w':World} {B:Nat} {ov:Value} {LB:Nat→Nat} {ts:List (List Op3)} (h:OwnT B x' ov LB ts ts.length) (hn:∀ b,B≤b→E.H b=none) (hv:∀ b,E.H b=none→w'.heap[b]?=x'.heap[b]?) (hH:E1.H=E.H):OwnV E1 w' ov LB ts:=by
 have h1:∀ g,ov.ownBlock=some g→E.H g=none:=fun g hg=>hn g (h.row.lt g hg).1
 have h2:∀ i,i < ts.length→E.H (LB i)=none:=fun i hi=>hn _ (h.up i hi)
 refine ⟨(h.same fun b hb=>?_).lower,fun g hg=>by rw [hH]; exact h1 g hg,fun i hi=>by rw [hH]; exact h2 i hi⟩
 rcases hb with hb | ⟨i,hi,rfl⟩
 ·exact hv b (h1 b hb)
 ·exact hv _ (h2 i hi)
theorem OwnV.stands {E E':Env} {w w':World} {ov:Value} {LB:Nat→Nat} {ts:List (List Op3)} (h:OwnV E w ov LB ts) (S:Stands E w E' w'):OwnV E' w' ov LB ts:=by
 have k1:∀ g,ov.ownBlock=some g→E'.H g=none∧w'.heap[g]?=w.heap[g]?:=fun g hg=>by
  have hl:=(h.own.row.lt g hg).2
  obtain ⟨s1,s2⟩:=S g _ (h.oH g hg) (Array.getElem?_eq_getElem hl)
  exact ⟨s1,by rw [s2,Array.getElem?_eq_getElem hl]⟩
 have k2:∀ i,i < ts.length→E'.H (LB i)=none∧w'.heap[LB i]?=w.heap[LB i]?:=fun i hi=>by
  have ho:=h.own.ops i _ hi (List.getElem?_eq_getElem hi)
  obtain ⟨s1,s2⟩:=S _ _ (h.lH i hi) ho
  exact ⟨s1,by rw [s2,ho]⟩
 refine ⟨h.own.same fun b hb=>?_,fun g hg=>(k1 g hg).1,fun i hi=>(k2 i hi).1⟩
 rcases hb with hb | ⟨i,hi,rfl⟩
 ·exact (k1 b hb).2
 ·exact (k2 i hi).2
theorem OwnV.toX {E:Env} {w x:World} {ov:Value} {LB:Nat→Nat} {ts:List (List Op3)} (h:OwnV E w ov LB ts) (hx:∀ b,E.H b=none→x.heap[b]?=w.heap[b]?):OwnT 0 x ov LB ts ts.length :=
 h.own.same fun b hb=>by
  rcases hb with hb | ⟨i,hi,rfl⟩
  ·exact hx b (h.oH b hb)
  ·exact hx _ (h.lH i hi)
theorem lenOf_get {ts:List (List Op3)} {i:Nat} {l:List Op3} (h:ts[i]?=some l):lenOf ts i=l.length:=by unfold lenOf; rw [h]; rfl
theorem OwnV.at {E:Env} {w:World} {ov:Value} {LB:Nat→Nat} {ts:List (List Op3)} (h:OwnV E w ov LB ts):OpsAt E w ov ts:=by
 obtain ⟨A,g,cap,e1,e2,e3,e4⟩:=owns_cells h.own.row
 refine ⟨⟨A,g,0,cap,fun i=>some ⟨LB i,0,none⟩,fun i=>lenOf ts i+2,e1,e2,fun i l hi=>?_⟩⟩
 have hlt:=(List.getElem?_eq_some_iff.1 hi).1
 refine ⟨⟨?_,h.oH g (e3 (by omega))⟩,fun hne=>⟨LB i,0,rfl,h.lH i hlt,fun j op hj=>?_⟩⟩
 ·have:=e4 i _ (rowO_get hlt)
  show w.cell? ⟨g,0+i,none⟩=some (.slice (some ⟨LB i,0,none⟩) l.length (lenOf ts i+2))
  rw [lenOf_get hi] at this ⊢
  rw [Nat.zero_add]
  exact this
 ·obtain ⟨k1,k2,k3⟩:=ownO_op hj
  have hb:=h.own.ops i l hlt hi
  rw [Nat.zero_add]
  exact ⟨obj_cell hb (by rw [← Array.getElem?_toList]; exact k1),obj_cell hb (by rw [← Array.getElem?_toList]; exact k2),obj_cell hb (by rw [← Array.getElem?_toList]; exact k3)⟩
def incT (ts:List (List Op3)):List (List Op3):=ts.map (·.map incO)
theorem incT_len (ts:List (List Op3)):(incT ts).length=ts.length:=by simp [incT]
theorem incT_lenOf (ts:List (List Op3)) (i:Nat):lenOf (incT ts) i=lenOf ts i:=by
 unfold lenOf incT
 rw [List.getElem?_map]
 cases ts[i]? <;> simp
theorem W1.own {B:Nat} {x x':World} {ov:Value} {LB:Nat→Nat} {ts:List (List Op3)} (h:OwnT B x ov LB ts ts.length) (k:W1 x x' LB ts ts.length):OwnT B x' ov LB (incT ts) (incT ts).length:=by
 rw [incT_len]
 have er:rowO LB (incT ts) ts.length=rowO LB ts ts.length:=by
  unfold rowO
  refine List.map_congr_left fun i _=>?_
  rw [incT_lenOf]
 refine ⟨?_,h.up,h.ne,h.inj,fun i l hi hl=>?_⟩
 ·rw [er]
  exact ownsRow_same h.row fun g hg=>k.old g fun j hj e=>h.ne j hj (by rw [hg,e])
 ·unfold incT at hl
  rw [List.getElem?_map,List.getElem?_eq_getElem hi] at hl
  have:=k.ops i _ hi (List.getElem?_eq_getElem hi)
  rw [if_pos hi] at this
  rw [← Option.some.inj hl]
  exact this
structure PickV (E:Env) (w:World) (b:Nat) (ps:List Int):Prop where
 row:w.heap[b]?=some (.cells (ownI ps).toArray 3)
 H:E.H b=none
theorem PickV.stands {E E':Env} {w w':World} {b:Nat} {ps:List Int} (h:PickV E w b ps) (S:Stands E w E' w'):PickV E' w' b ps:=by
 obtain ⟨s1,s2⟩:=S b _ h.H h.row
 exact ⟨s2,s1⟩
theorem PickV.at {E:Env} {w:World} {b:Nat} {ps:List Int} (h:PickV E w b ps):IntsAt E w (.slice (some ⟨b,0,none⟩) ps.length (ps.length+2)) ps :=
 ⟨⟨_,b,0,_,rfl,fun _=>rfl,fun i p hi=>⟨obj_cell h.row (by rw [← Array.getElem?_toList,Nat.zero_add]; exact ownI_get hi),h.H⟩⟩⟩
structure MarkV (E:Env) (w:World) (v:Value) (ms:List Mk):Prop where
 row:w.ownsRow 0 37 4 v ms.length (mksV ms)
 H:∀ g,v.ownBlock=some g→E.H g=none
theorem MarkV.stands {E E':Env} {w w':World} {v:Value} {ms:List Mk} (h:MarkV E w v ms) (S:Stands E w E' w'):MarkV E' w' v ms:=by
 have k1:∀ g,v.ownBlock=some g→E'.H g=none∧w'.heap[g]?=w.heap[g]?:=fun g hg=>by
  have hl:=(h.row.lt g hg).2
  obtain ⟨s1,s2⟩:=S g _ (h.H g hg) (Array.getElem?_eq_getElem hl)
  exact ⟨s1,by rw [s2,Array.getElem?_eq_getElem hl]⟩
 exact ⟨ownsRow_same h.row fun g hg=>(k1 g hg).2,fun g hg=>(k1 g hg).1⟩
theorem MarkV.toX {E:Env} {w x:World} {v:Value} {ms:List Mk} (h:MarkV E w v ms) (hx:∀ b,E.H b=none→x.heap[b]?=w.heap[b]?):x.ownsRow 0 37 4 v ms.length (mksV ms):=ownsRow_same h.row fun g hg=>hx g (h.H g hg)
theorem MarkV.of_new {E E1:Env} {x' w':World} {B:Nat} {v:Value} {ms:List Mk} (h:x'.ownsRow B 37 4 v ms.length (mksV ms)) (hn:∀ b,B≤b→E.H b=none) (hv:∀ b,E.H b=none→w'.heap[b]?=x'.heap[b]?) (hH:E1.H=E.H):MarkV E1 w' v ms :=
 ⟨owns_lower (ownsRow_same h fun g hg=>hv g (hn g (h.lt g hg).1)) (Nat.zero_le _),fun g hg=>by rw [hH]; exact hn g (h.lt g hg).1⟩
def gO (g:Int→Int) (o:Op3):Op3:=(o.1,o.2.1,g o.2.2)
def fillG (g:Int→Int) (l:List Op3) (k:Nat):List Op3:=(l.take k).map (gO g) ++ l.drop k
theorem fillG_0 {g:Int→Int} (l:List Op3):fillG g l 0=l:=by simp [fillG]
theorem fillG_all {g:Int→Int} (l:List Op3):fillG g l l.length=l.map (gO g):=by simp [fillG]
theorem fillG_get {g:Int→Int} {l:List Op3} {k:Nat} {o:Op3} (h:l[k]?=some o):(fillG g l k)[k]?=some o:=by
 have hk:=(List.getElem?_eq_some_iff.1 h).1
 unfold fillG
 rw [List.getElem?_append_right (by simp; omega)]
 simp only [List.length_map,List.length_take,List.getElem?_drop]
 rw [← h]
 congr 1
 omega
theorem fillG_set {g:Int→Int} {l:List Op3} {k:Nat} {o:Op3} (h:l[k]?=some o):(fillG g l k).set k (gO g o)=fillG g l (k+1):=by
 obtain ⟨hk,he⟩:=List.getElem?_eq_some_iff.1 h
 unfold fillG
 have e0:((l.take k).map (gO g)).length=k:=by simp; omega
 rw [List.set_append_right _ _ (by omega),e0,Nat.sub_self,List.drop_eq_getElem_cons hk,List.set_cons_zero,List.take_add_one,h]
 simp [he]
structure W1g (g:Int→Int) (x wr:World) (LB:Nat→Nat) (ts:List (List Op3)) (i:Nat):Prop where
 ops:∀ j l,j < ts.length→ts[j]?=some l→wr.heap[LB j]?=some (.cells (ownO (if j < i then l.map (gO g) else l)).toArray 34)
 old:∀ b,(∀ j,j < ts.length→b≠LB j)→wr.heap[b]?=x.heap[b]?
 size:wr.heap.size=x.heap.size
def gT (g:Int→Int) (ts:List (List Op3)):List (List Op3):=ts.map (·.map (gO g))
theorem gT_len (g:Int→Int) (ts:List (List Op3)):(gT g ts).length=ts.length:=by simp [gT]
theorem gT_lenOf (g:Int→Int) (ts:List (List Op3)) (i:Nat):lenOf (gT g ts) i=lenOf ts i:=by
 unfold lenOf gT
 rw [List.getElem?_map]
 cases ts[i]? <;> simp
theorem gT_lens {g:Int→Int} {ts:List (List Op3)} {N:Nat} (h:∀ l ∈ ts,l.length≤N):∀ l ∈ gT g ts,l.length≤N:=fun l hl=>by
 unfold gT at hl
 obtain ⟨l',h1,rfl⟩:=List.mem_map.1 hl
 rw [List.length_map]
 exact h l' h1
theorem W1g.own {g:Int→Int} {B:Nat} {x x':World} {ov:Value} {LB:Nat→Nat} {ts:List (List Op3)} (h:OwnT B x ov LB ts ts.length) (k:W1g g x x' LB ts ts.length):OwnT B x' ov LB (gT g ts) (gT g ts).length:=by
 rw [gT_len]
 have er:rowO LB (gT g ts) ts.length=rowO LB ts ts.length:=by
  unfold rowO
  refine List.map_congr_left fun i _=>?_
  rw [gT_lenOf]
 refine ⟨?_,h.up,h.ne,h.inj,fun i l hi hl=>?_⟩
 ·rw [er]
  exact ownsRow_same h.row fun g hg=>k.old g fun j hj e=>h.ne j hj (by rw [hg,e])
 ·unfold gT at hl
  rw [List.getElem?_map,List.getElem?_eq_getElem hi] at hl
  have:=k.ops i _ hi (List.getElem?_eq_getElem hi)
  rw [if_pos hi] at this
  rw [← Option.some.inj hl]
  exact this
def xorV (n:Int):Int:=bits .xor .i64 n 1
theorem xorV_64 (n:Int):I64 (xorV n):=by
 unfold xorV bits I64
 dsimp only
 rw [IntKind.wrap_i64]
 omega
theorem gT_64 {ts:List (List Op3)} (h:∀ l ∈ ts,∀ op ∈ l,I64 op.1∧I64 op.2.1∧I64 op.2.2):∀ l ∈ gT xorV ts,∀ op ∈ l,I64 op.1∧I64 op.2.1∧I64 op.2.2:=fun l hl op ho=>by
 unfold gT at hl
 obtain ⟨l',h1,rfl⟩:=List.mem_map.1 hl
 obtain ⟨o',h2,rfl⟩:=List.mem_map.1 ho
 obtain ⟨k1,k2,k3⟩:=h l' h1 o' h2
 exact ⟨k1,k2,xorV_64 _⟩
theorem pwS16_wp {f:Nat→Value} {x:World} {B:Nat} {ov:Value} {LB:Nat→Nat} {ts:List (List Op3)} {Q:Exit→Act→World→Prop} (h8:f 10=ov) (hO:OwnT B x ov LB ts ts.length) (hn:ts.length≤1000000000000) (hll:∀ l ∈ ts,l.length≤100000000000)
  (hQ:∀ T' x',T'.size=182→(∀ j,j < 31→j≠22→j≠23→T'[j]?=some (f j))→W1g xorV x x' LB ts ts.length→Q .normal ⟨T',[]⟩ x'):pwS16.wp Try.prog Q ⟨(List.map f (List.range 182)).toArray,[]⟩ x:=by
 obtain ⟨A,g,ocap,rfl,hA,hAb,hcs⟩:=owns_cells hO.row
 have h00:W1g xorV x x LB ts 0:=⟨fun j l h1 h2=>by rw [if_neg (Nat.not_lt_zero _)]; exact hO.ops j l h1 h2,fun _ _=>rfl,rfl⟩
 replace hO:=Lib.hid hO
 replace hcs:=Lib.hid hcs
 simp only [List.range,List.range.loop,List.map_cons,List.map_nil,h8]
 simp only [pwS16,pwT16,pwT14,pwT10,pwT9,pwT8,pwT7,pwT6,pwT5,pwT4,pwT3,pwT2,pwT1,pwT0,Try.f9,Option.getD_some]
 go_wp2_with fail
 go_loopw [22] (fun v wr=>∃ i:Nat,v=.int .i64 (i:Int)∧i≤ts.length∧Hid (W1g xorV x wr LB ts i)) (fun v _=>ts.length+1 - natOfV v)
 case atStart=>exact ⟨0,rfl,Nat.zero_le _,h00⟩
 case round =>
  rename World=>wo
  obtain ⟨i,rfl,hi,hw⟩:=hrel
  by_cases hlt:i < ts.length
  ·obtain rfl:=hA (by omega)
   have g1:(i:Int) < (ts.length:Int):=by omega
   have g2:(0:Int)≤(i:Int):=by omega
   have hiw:IntKind.i64.wrap ((i:Int)+1)=((i+1:Nat):Int):=by rw [IntKind.wrap_i64]; omega
   have e9:natOfV (.int .i64 ((i:Int)+1))=i+1:=by simp [natOfV]
   obtain ⟨l,hl⟩:∃ l,ts[i]?=some l:=⟨_,List.getElem?_eq_getElem hlt⟩
   have hlen:lenOf ts i=l.length:=by unfold lenOf; rw [hl]; rfl
   have hlb:=hll l (List.mem_of_getElem? hl)
   have hgn:∀ j,j < ts.length→g≠LB j:=fun j hj e=>hO.out.ne j hj (by rw [hAb (by omega),e])
   have c2:=hcs.out i _ (rowO_get hlt)
   rw [hlen] at c2
   have hb0:=hw.out.ops i l hlt hl
   have c3:wo.cell? ⟨g,i,none⟩=some (.slice (some ⟨LB i,0,none⟩) l.length (l.length+2)):=(World.cell?_of_block (a:=⟨g,i,none⟩) (hw.out.old g hgn)).trans c2
   rw [if_neg (Nat.lt_irrefl _)] at hb0
   replace hlen:=Lib.hid hlen
   go_wp2_with fail
   go_loopw [23] (fun v w2=>∃ k:Nat,v=.int .i64 (k:Int)∧k≤l.length∧Hid (w2.heap[LB i]?=some (.cells (ownO (fillG xorV l k)).toArray 34))∧Hid (∀ b,b≠LB i→w2.heap[b]?=wo.heap[b]?)∧Hid (w2.heap.size=wo.heap.size)) (fun v _=>l.length+1 - natOfV v)
   case atStart=>exact ⟨0,rfl,Nat.zero_le _,by rw [fillG_0]; exact hb0,fun _ _=>rfl,rfl⟩
   case round =>
    obtain ⟨k,rfl,hk,hr,ho,hz⟩:=hrel
    have c4:wr.cell? ⟨g,i,none⟩=some (.slice (some ⟨LB i,0,none⟩) l.length (l.length+2)):=(World.cell?_of_block (a:=⟨g,i,none⟩) (ho.out g (hgn i hlt))).trans c3
    by_cases hkl:k < l.length
    ·obtain ⟨o,hop⟩:∃ o,l[k]?=some o:=⟨_,List.getElem?_eq_getElem hkl⟩
     have g3:(k:Int) < (l.length:Int):=by omega
     have g4:(0:Int)≤(k:Int):=by omega
     have hkw:IntKind.i64.wrap ((k:Int)+1)=((k+1:Nat):Int):=by rw [IntKind.wrap_i64]; omega
     have e8:natOfV (.int .i64 ((k:Int)+1))=k+1:=by simp [natOfV]
     have c5:wr.cell? ⟨LB i,k * 3+2,none⟩=some (.int .i64 o.2.2):=obj_cell hr.out (by rw [← Array.getElem?_toList]; exact (ownO_op (fillG_get (g:=xorV) hop)).2.2)
     have z5:=obj_thaw hr.out (k * 3+2)
     obtain ⟨nv,hnv⟩:∃ nv,nv=bits .xor .i64 o.2.2 1:=⟨_,rfl⟩
     have hs:(wr.setCell ⟨LB i,k * 3+2,none⟩ (.int .i64 nv)).heap[LB i]?=some (.cells (ownO (fillG xorV l (k+1))).toArray 34):=by
      have h1:=heap_set (a:=⟨LB i,k * 3+2,none⟩) (v:=.int .i64 nv) (w:=wr) rfl hr.out
      rw [h1]
      have h2:=ownO_set (v:=nv) (fillG_get (g:=xorV) hop)
      rw [show nv=xorV o.2.2 from hnv] at h2
      have h3:=fillG_set (g:=xorV) hop
      unfold gO at h3
      rw [h3] at h2
      rw [← h2,show nv=xorV o.2.2 from hnv]
      congr 2
      apply Array.ext'
      simp
     have ho2:∀ b,b≠LB i→(wr.setCell ⟨LB i,k * 3+2,none⟩ (.int .i64 nv)).heap[b]?=wo.heap[b]?:=fun b hb=>(heap_setCell_ne (a:=⟨LB i,k * 3+2,none⟩) (fun e=>hb e.symm)).trans (ho.out b hb)
     have hz2:(wr.setCell ⟨LB i,k * 3+2,none⟩ (.int .i64 nv)).heap.size=wo.heap.size:=by rw [← hz.out]; simp [World.setCell]
     have hnv':=hnv.symm
     replace hnv:=Lib.hid hnv
     replace hs:=Lib.hid hs
     replace ho2:=Lib.hid ho2
     replace hz2:=Lib.hid hz2
     go_wp2_with fail
     exact ⟨⟨k+1,by rw [Int.natCast_add]; rfl,by omega,hs.out,ho2.out,hz2.out⟩,by rw [e8]; simp [natOfV]; omega⟩
    ·obtain rfl:l.length=k:=by omega
     have g3:¬ (l.length:Int) < (l.length:Int):=by omega
     have hw2:W1g xorV x wr LB ts (i+1):=by
      refine ⟨fun j l' hj hl'=>?_,fun b hb=>(ho.out b (hb i hlt)).trans (hw.out.old b hb),hz.out.trans hw.out.size⟩
      by_cases e:j=i
      ·subst e
       rw [hl] at hl'
       cases hl'
       rw [if_pos (by omega),← fillG_all]
       exact hr.out
      ·have hne:LB j≠LB i:=fun h=>e (hO.out.inj j i hj hlt h)
       rw [ho.out _ hne,hw.out.ops j l' hj hl']
       by_cases h1:j < i
       ·rw [if_pos h1,if_pos (by omega)]
       ·rw [if_neg h1,if_neg (by omega)]
     replace hw2:=Lib.hid hw2
     go_wp2_with fail
     exact ⟨⟨i+1,by rw [Int.natCast_add]; rfl,by omega,hw2.out⟩,by rw [e9]; simp [natOfV]; omega⟩
  ·obtain rfl:ts.length=i:=by omega
   have g1:¬ (ts.length:Int) < (ts.length:Int):=by omega
   go_wp2_with fail
   exact hQ _ _ (by simp) (fun j hj h22 h23=>by
    match j,hj with
    | 22,_=>exact absurd rfl h22
    | 23,_=>exact absurd rfl h23
    | 0,_ | 1,_ | 2,_ | 3,_ | 4,_ | 5,_ | 6,_ | 7,_ | 8,_ | 9,_ | 10,_ | 11,_ | 12,_ | 13,_ | 14,_ | 15,_ | 16,_ | 17,_ | 18,_ | 19,_ | 20,_ | 21,_ | 24,_ | 25,_ | 26,_ | 27,_ | 28,_ | 29,_ | 30,_=>simp [h8]
    | j+31,h=>exact absurd h (by omega)) hw.out
theorem intsX_rd {x:World} {pv:Value} {ps:List Int} (h:IntsX x pv ps):∃ (A:Option Addr) (cap:Nat),pv=.slice A ps.length cap∧∀ y:World,(∀ a v,x.cell? a=some v→y.cell? a=some v)→Sl.Rd y x.heap.size 1 A (ps.map (Value.int .i64)) ps.length:=by
 obtain ⟨pa,pb,po,cap,rfl,h1,h2⟩:=h
 refine ⟨pa,cap,rfl,fun y hy=>⟨by simp,fun h0=>?_⟩⟩
 have hne:ps≠[]:=fun e=>by rw [e] at h0; exact absurd h0 (Nat.lt_irrefl _)
 have hlt:=World.block_lt_of_cell? x _ (h2 0 _ (List.getElem?_eq_getElem h0))
 refine ⟨pb,po,h1 hne,hlt,fun j u hu=>?_⟩
 rw [List.getElem?_map] at hu
 cases e:ps[j]? with
 | none=>rw [e] at hu; cases hu
 | some p =>
   rw [e] at hu
   cases hu
   exact hy _ _ (h2 j p e)
theorem pwS3_wp {f:Nat→Value} {x:World} {pv:Value} {ps:List Int} {Q:Exit→Act→World→Prop} (h2:f 2=pv) (hP:IntsX x pv ps) (hpl:ps.length≤1000000000000)
  (hQ:∀ T' x' rv,T'.size=182→(∀ j,j < 31→j≠11→T'[j]?=some (f j))→T'[11]?=some rv→Below x.heap.size x x'→x'.ownsRow x.heap.size 3 1 rv ps.length (ps.map (Value.int .i64))→Q .normal ⟨T',[]⟩ x'):pwS3.wp Try.prog Q ⟨(List.map f (List.range 182)).toArray,[]⟩ x:=by
 obtain ⟨A,cap,rfl,hrd⟩:=intsX_rd hP
 obtain ⟨i0,hi,hz,hs,hb⟩:=info3
 replace hP:=Lib.hid hP
 replace hQ:=Lib.hid hQ
 have hrd':=hrd (x.alloc (.cells #[] 3)) (fun a v h=>(World.cell?_alloc_some x _ _ (by rw [h]; rfl)).trans h)
 have hone:∀ u ∈ ps.map (Value.int .i64),u.oneCell'=true:=fun u hu=>by
  obtain ⟨p,_,rfl⟩:=List.mem_map.1 hu
  rfl
 have hown:(x.alloc (.cells #[] 3)).ownsRow x.heap.size 3 1 (.slice (some ⟨x.heap.size,0,none⟩) 0 0) 0 []:=World.ownsRow_made (e:=3) (size:=1) x #[] 0 (base:=x.heap.size) (Nat.le_refl _) (by decide) (by simp)
 replace hrd':=Lib.hid hrd'
 replace hone:=Lib.hid hone
 replace hown:=Lib.hid hown
 clear hrd
 simp only [List.range,List.range.loop,List.map_cons,List.map_nil,h2]
 simp only [pwS3,pwT3,pwT2,pwT1,pwT0,Try.f9,Option.getD_some]
 go_wp2_with (at_builtin; refine Sl.wpList_append_rd rfl (.tmp 34) (.tmp 35) 23 rfl x.heap.size 3 Try.underlying23 hi hz hs hb rfl (by decide) (by rfl) hown.out (by rfl) hrd'.out hone.out (by unfold maxLen; omega) (by omega) (by rw [alloc_size]; omega) ?_; intro A' c' w' hr hbl hsz; have hr2:=Lib.hid hr; have hbl2:=Lib.hid hbl; clear hr hbl)
 have hr3:=hr2.out
 rw [Nat.zero_add,List.nil_append] at hr3
 refine hQ.out _ _ _ (by simp) (fun j hj h9=>by
  match j,hj with
  | 0,_ | 1,_ | 2,_ | 3,_ | 4,_ | 5,_ | 6,_ | 7,_ | 8,_ | 9,_ | 10,_ | 12,_ | 13,_ | 14,_ | 15,_ | 16,_ | 17,_ | 18,_ | 19,_ | 20,_ | 21,_ | 22,_ | 23,_ | 24,_ | 25,_ | 26,_ | 27,_ | 28,_ | 29,_ | 30,_=>simp [h2]
  | 11,_=>exact absurd rfl h9
  | j+31,h=>exact absurd h (by omega)) (by simp) (((Below.refl _ _).alloc (Nat.le_refl _) _).trans hbl2.out) hr3
theorem pwS10_wp {f:Nat→Value} {x:World} {av bv:Value} {ps:List Int} {Q:Exit→Act→World→Prop} (h11:f 11=av) (h2:f 2=bv) (h20:f 20=.bool true) (ha:IntsX x av ps) (hb:IntsX x bv ps) (hpl:ps.length≤1000000000000)
  (hQ:∀ T' x',T'.size=182→(∀ j,j < 31→j≠21→T'[j]?=some (f j))→x'.heap=x.heap→Q .normal ⟨T',[]⟩ x'):pwS10.wp Try.prog Q ⟨(List.map f (List.range 182)).toArray,[]⟩ x:=by
 obtain ⟨A,g,go,cap,rfl,ha1,ha2⟩:=ha
 obtain ⟨A',g',go',cap',rfl,hb1,hb2⟩:=hb
 replace ha2:=Lib.hid ha2
 replace hb2:=Lib.hid hb2
 replace hQ:=Lib.hid hQ
 simp only [List.range,List.range.loop,List.map_cons,List.map_nil,h11,h2,h20]
 simp only [pwS10,pwT10,pwT9,pwT8,pwT7,pwT6,pwT5,pwT4,pwT3,pwT2,pwT1,pwT0,Try.f9,Option.getD_some]
 go_wp2_with fail
 go_loopw [20,21] (fun ok v wr=>ok=.bool true∧∃ i:Nat,v=.int .i64 (i:Int)∧i≤ps.length∧∃ k,wr=x.drewN k) (fun _ v _=>ps.length+1 - natOfV v)
 case atStart=>exact ⟨rfl,0,rfl,Nat.zero_le _,0,rfl⟩
 case round =>
  obtain ⟨rfl,i,rfl,hi,k0,rfl⟩:=hrel
  by_cases hlt:i < ps.length
  ·have hne:ps≠[]:=fun e=>by rw [e] at hlt; exact absurd hlt (Nat.not_lt_zero _)
   obtain rfl:=ha1 hne
   obtain rfl:=hb1 hne
   obtain ⟨p,hp⟩:∃ p,ps[i]?=some p:=⟨_,List.getElem?_eq_getElem hlt⟩
   have c1:=ha2.out i p hp
   have c2:=hb2.out i p hp
   have g1:(i:Int) < (ps.length:Int):=by omega
   have g2:(0:Int)≤(i:Int):=by omega
   have e9:natOfV (.int .i64 ((i:Int)+1))=i+1:=by simp [natOfV]
   have hiw:IntKind.i64.wrap ((i:Int)+1)=((i+1:Nat):Int):=by rw [IntKind.wrap_i64]; omega
   replace hp:=Lib.hid hp
   clear ha1 hb1
   go_wp2_with fail
   go_quiet (fail)
   go_wp2
   exact ⟨⟨rfl,i+1,by rw [Int.natCast_add]; rfl,by omega,_,rfl⟩,by rw [e9]; simp [natOfV]; omega⟩
  ·obtain rfl:i=ps.length:=by omega
   have g1:¬ (ps.length:Int) < (ps.length:Int):=by omega
   clear ha1 hb1
   go_wp2
   refine hQ.out _ _ (by simp) (fun j hj h9=>by
    match j,hj with
    | 0,_ | 1,_ | 2,_ | 3,_ | 4,_ | 5,_ | 6,_ | 7,_ | 8,_ | 9,_ | 10,_ | 11,_ | 12,_ | 13,_ | 14,_ | 15,_ | 16,_ | 17,_ | 18,_ | 19,_ | 20,_ | 22,_ | 23,_ | 24,_ | 25,_ | 26,_ | 27,_ | 28,_ | 29,_ | 30,_=>simp [h11,h2,h20]
    | 21,_=>exact absurd rfl h9
    | j+31,h=>exact absurd h (by omega)) rfl
theorem pwS14_wp {f:Nat→Value} {x:World} {Q:Exit→Act→World→Prop} (h9:f 9=.bool true) (h18:f 18=.bool true) (h19:f 19=.bool true) (h20:f 20=.bool true)
  (hQ:∀ T',T'.size=182→(∀ j,j < 31→T'[j]?=some (f j))→Q .normal ⟨T',[]⟩ x):pwS14.wp Try.prog Q ⟨(List.map f (List.range 182)).toArray,[]⟩ x:=by
 simp only [List.range,List.range.loop,List.map_cons,List.map_nil,h9,h18,h19,h20]
 simp only [pwS14,pwT14,pwT10,pwT9,pwT8,pwT7,pwT6,pwT5,pwT4,pwT3,pwT2,pwT1,pwT0,Try.f9,Option.getD_some]
 go_wp2
 exact hQ _ (by simp) (fun j hj=>by
  match j,hj with
  | 0,_ | 1,_ | 2,_ | 3,_ | 4,_ | 5,_ | 6,_ | 7,_ | 8,_ | 9,_ | 10,_ | 11,_ | 12,_ | 13,_ | 14,_ | 15,_ | 16,_ | 17,_ | 18,_ | 19,_ | 20,_ | 21,_ | 22,_ | 23,_ | 24,_ | 25,_ | 26,_ | 27,_ | 28,_ | 29,_ | 30,_=>simp [h9,h18,h19,h20]
  | j+31,h=>exact absurd h (by omega))
theorem pwS28_wp {f:Nat→Value} {x:World} {Q:Exit→Act→World→Prop} (h28:f 28=.bool true) (h29:f 29=.bool true) (h30:f 30=.bool true)
  (hQ:∀ T',T'.size=182→T'[8]?=some (.bool true)→Q .normal ⟨T',[]⟩ x):pwS28.wp Try.prog Q ⟨(List.map f (List.range 182)).toArray,[]⟩ x:=by
 simp only [List.range,List.range.loop,List.map_cons,List.map_nil,h28,h29,h30]
 simp only [pwS28,pwT28,pwT27,pwT26,pwT25,pwT24,pwT23,pwT16,pwT14,pwT10,pwT9,pwT8,pwT7,pwT6,pwT5,pwT4,pwT3,pwT2,pwT1,pwT0,Try.f9,Option.getD_some]
 go_wp2
 exact hQ _ (by simp) (by simp)
def StandsBut (S:Nat→Prop) (E:Env) (w:World) (E':Env) (w':World):Prop:=∀ b o,¬ S b→E.H b=none→w.heap[b]?=some o→E'.H b=none∧w'.heap[b]?=some o
theorem MarkV.but {S:Nat→Prop} {E E':Env} {w w':World} {v:Value} {ms:List Mk} (h:MarkV E w v ms) (hS:StandsBut S E w E' w') (hd:∀ g,v.ownBlock=some g→¬ S g):MarkV E' w' v ms:=by
 have k1:∀ g,v.ownBlock=some g→E'.H g=none∧w'.heap[g]?=w.heap[g]?:=fun g hg=>by
  have hl:=(h.row.lt g hg).2
  obtain ⟨s1,s2⟩:=hS g _ (hd g hg) (h.H g hg) (Array.getElem?_eq_getElem hl)
  exact ⟨s1,by rw [s2,Array.getElem?_eq_getElem hl]⟩
 exact ⟨ownsRow_same h.row fun g hg=>(k1 g hg).2,fun g hg=>(k1 g hg).1⟩
theorem PickV.but {S:Nat→Prop} {E E':Env} {w w':World} {b:Nat} {ps:List Int} (h:PickV E w b ps) (hS:StandsBut S E w E' w') (hd:¬ S b):PickV E' w' b ps:=by
 obtain ⟨s1,s2⟩:=hS b _ hd h.H h.row
 exact ⟨s2,s1⟩
theorem OwnV.but {S:Nat→Prop} {E E':Env} {w w':World} {ov:Value} {LB:Nat→Nat} {ts:List (List Op3)} (h:OwnV E w ov LB ts) (hS:StandsBut S E w E' w') (hd:∀ g,ov.ownBlock=some g→¬ S g) (hd2:∀ i,i < ts.length→¬ S (LB i)):OwnV E' w' ov LB ts:=by
 have k1:∀ g,ov.ownBlock=some g→E'.H g=none∧w'.heap[g]?=w.heap[g]?:=fun g hg=>by
  have hl:=(h.own.row.lt g hg).2
  obtain ⟨s1,s2⟩:=hS g _ (hd g hg) (h.oH g hg) (Array.getElem?_eq_getElem hl)
  exact ⟨s1,by rw [s2,Array.getElem?_eq_getElem hl]⟩
 have k2:∀ i,i < ts.length→E'.H (LB i)=none∧w'.heap[LB i]?=w.heap[LB i]?:=fun i hi=>by
  have ho:=h.own.ops i _ hi (List.getElem?_eq_getElem hi)
  obtain ⟨s1,s2⟩:=hS _ _ (hd2 i hi) (h.lH i hi) ho
  exact ⟨s1,by rw [s2,ho]⟩
 refine ⟨h.own.same fun b hb=>?_,fun g hg=>(k1 g hg).1,fun i hi=>(k2 i hi).1⟩
 rcases hb with hb | ⟨i,hi,rfl⟩
 ·exact (k1 b hb).2
 ·exact (k2 i hi).2
section
variable {F:Machine→Trace→Prop} {E:Env} {w:World} {fr:Frame} {k:List Item} {cs:List Frame}
end
end Go.Proofs.Ytimlbbleblijnaa.Co
