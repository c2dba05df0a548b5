/- Lemmas for the laws of this seat, laid together of PG6, PG7, PG8, PG8t, PG9. -/
import Derived.Test.YtimlbbleblijnaaX00
import Derived.Conc.Own

set_option linter.unusedVariables false
set_option linter.unusedSimpArgs false
set_option maxRecDepth 100000
set_option maxHeartbeats 4000000
namespace Go.Proofs.Ytimlbbleblijnaa.Co
section
variable {P:Program} {α β:Type}
theorem holds_eq (a:Addr) (n:Nat):Builtin.holdsCells a n=Sem.shape a.block fun s=>match s with
  | some (_,m)=>Sem.pure (a.spot.isNone && a.off+n≤m)
  | none=>Sem.pure false:=by
 unfold Builtin.holdsCells
 show Sem.shape a.block _=_
 congr 1
theorem dead_shape {r:Nat} {f:Option (TypeId × Nat)→Sem β} (h:∀ s,Dead P (f s)):CalmA P (Sem.shape r f):=fun S=>⟨fun s=>.inr (h s),fun e n n' _=>.inl (h _)⟩
theorem ca_holds {a:Addr} {n:Nat} {f:Bool→Sem β} (h:∀ b,Dead P (f b)):CalmA P ((Builtin.holdsCells a n).bind f):=by
 rw [holds_eq]
 refine dead_shape fun s=>?_
 cases s <;> exact h _
theorem dead_holds {a:Addr} {n:Nat} {f:Bool→Sem β} (h:∀ b,Dead P (f b)):Dead P ((Builtin.holdsCells a n).bind f):=by
 rw [holds_eq]
 intro s
 cases s <;> exact h _
theorem bind_assoc' {γ:Type} (s:Sem α) (f:α→Sem β) (g:β→Sem γ):(s.bind f).bind g=s.bind fun a=>(f a).bind g:=by
 induction s with
 | pure a=>rfl
 | halt h=>rfl
 | load m a k ih=>exact congrArg _ (funext ih)
 | store m a u k ih=>exact congrArg _ ih
 | new o k ih=>exact congrArg _ (funext ih)
 | shape r k ih=>exact congrArg _ (funext ih)
 | freeze a n k ih=>exact congrArg _ ih
 | frozen a k ih=>exact congrArg _ (funext ih)
 | getObj r k ih=>exact congrArg _ (funext ih)
 | setObj r o k ih=>exact congrArg _ ih
 | choose q k ih=>exact congrArg _ (funext ih)
 | sys c k ih=>exact congrArg _ (funext ih)
 | program k ih=>exact congrArg _ (funext ih)
 | mark m k ih=>exact congrArg _ ih
def share2 (size n:Nat) (base:Option Addr) (x:Value):Sem Bool:=match x with
 | .slice (some b) _ _=>(Builtin.holdsCells b (n * size)).bind fun r=>Sem.pure (!r || base.any (·.block == b.block))
 | _=>Sem.pure false
theorem ca_mayShare {size sLen n:Nat} {base:Option Addr} {x:Value} {f:Bool→Sem β} (h:∀ b,Dead P (f b)) (hc:∀ b,CalmA P (f b)):CalmA P ((Builtin.mayShare size sLen n base x).bind f):=by
 have k1:CalmA P ((share2 size n base x).bind f):=by
  unfold share2
  split
  ·rw [bind_assoc']; exact ca_holds fun b=>h _
  ·exact hc _
 have k2:Dead P ((share2 size n base x).bind f):=by
  unfold share2
  split
  ·rw [bind_assoc']; exact dead_holds fun b=>h _
  ·exact h _
 cases base with
 | none=>exact k1
 | some a =>
   have e:Builtin.mayShare size sLen n (some a) x=(Builtin.holdsCells a (sLen * size)).bind fun r=>(frozen (a.add (sLen / 2 * size))).bind fun q=>(Sem.pure (r && !q)).bind fun there =>
     if (!there)=true then Sem.pure true else share2 size n (some a) x:=by
    cases x with
    | slice p l c=>cases p <;> rfl
    | _=>rfl
   rw [e,bind_assoc']
   refine ca_holds fun r=>?_
   intro q
   show Dead P (Sem.bind (if (!(r && !q))=true then _ else _) f)
   split
   ·exact h _
   ·exact k2
theorem ca_ite {c:Prop} [Decidable c] {a b:Sem α} (h1:CalmA P a) (h2:CalmA P b):CalmA P (if c then a else b):=by split <;> assumption
theorem ca_share {size sLen n:Nat} {base:Option Addr} {x:Value} {s:String}:CalmA P ((Builtin.mayShare size sLen n base x >>= fun b=>if (!b)=true then (mark .noRoom >>= fun _=>unsupported (.resourceLimit s)) else unsupported (.resourceLimit s)):Sem α) :=
 ca_mayShare (fun b=>by cases b <;> exact rfl) (fun b=>by
  cases b
  ·exact fun S=>⟨.inl rfl,rfl⟩
  ·exact ca_uns3 _)
theorem ca_mark:CalmA P (mark .noRoom):=fun _=>⟨.inl rfl,trivial⟩
theorem ca_lenOf (v:Value):CalmA P (Builtin.lenOf v):=by unfold Builtin.lenOf; split <;> first | exact ca_pure _ | exact ca_stuck _
theorem ca_firstCells (s n:Nat) (v:Value):CalmA P (Builtin.firstCells s n v):=by unfold Builtin.firstCells; split <;> first | exact ca_loadCells _ _ | exact ca_pure _ | exact ca_stuck _
theorem ca_append (ts:Array TypeId) (t:TypeId) (args:Array Value):CalmA P (Builtin.append_ ts t args):=by
 unfold Builtin.append_
 repeat' first
  | with_reducible exact ca_pure _
  | with_reducible exact ca_stuck _
  | with_reducible exact ca_rtPanic _
  | with_reducible exact ca_uns3 _
  | with_reducible exact ca_choose _
  | with_reducible exact ca_room _
  | with_reducible exact ca_typeInfo _
  | with_reducible exact ca_underlying _
  | with_reducible exact ca_sizeOf _
  | with_reducible exact ca_zero _
  | with_reducible exact ca_lenOf _
  | with_reducible exact ca_firstCells _ _ _
  | with_reducible exact ca_storeCells _ _ _
  | with_reducible exact ca_newRow _ _
  | with_reducible exact ca_asInt _
  | with_reducible exact ca_mark
  | with_reducible exact ca_share
  | with_reducible refine ca_ite ?_ ?_
  | with_reducible refine ca_bind ?_ fun _=>?_
  | split
  | dsimp only
theorem ca_copy (ts:Array TypeId) (t:TypeId) (args:Array Value):CalmA P (Builtin.copy_ ts t args):=by
 unfold Builtin.copy_
 repeat' first
  | with_reducible exact ca_pure _
  | with_reducible exact ca_stuck _
  | with_reducible exact ca_underlying _
  | with_reducible exact ca_sizeOf _
  | with_reducible exact ca_lenOf _
  | with_reducible exact ca_firstCells _ _ _
  | with_reducible exact ca_storeCells _ _ _
  | with_reducible refine ca_ite ?_ ?_
  | with_reducible refine ca_bind ?_ fun _=>?_
  | split
  | dsimp only
theorem ca_obj {r:Nat} {f:Obj→Sem β} (h:∀ o,CalmA P (f o)) (hv:∀ a t,Dead P (f (.view a t))) (hd:Dead P (f (.coro none))):CalmA P (getObj r >>= f) :=
 fun S=>⟨fun o=>h o _,fun a a' t=>.inl (hv a t),.inl hd⟩
theorem ca_len (ts:Array TypeId) (t:TypeId) (args:Array Value):CalmA P (Builtin.len_ ts t args):=by
 unfold Builtin.len_
 repeat' first
  | with_reducible exact ca_pure _
  | with_reducible exact ca_stuck _
  | with_reducible exact ca_underlying _
  | refine ca_obj (fun o=>?_) (fun _ _=>rfl) rfl
  | with_reducible refine ca_ite ?_ ?_
  | with_reducible refine ca_bind ?_ fun _=>?_
  | split
  | dsimp only
theorem ca_cap (ts:Array TypeId) (t:TypeId) (args:Array Value):CalmA P (Builtin.cap_ ts t args):=by
 unfold Builtin.cap_
 repeat' first
  | with_reducible exact ca_pure _
  | with_reducible exact ca_stuck _
  | with_reducible exact ca_underlying _
  | refine ca_obj (fun o=>?_) (fun _ _=>rfl) rfl
  | with_reducible refine ca_ite ?_ ?_
  | with_reducible refine ca_bind ?_ fun _=>?_
  | split
  | dsimp only
theorem ca_foldM (f:Value→Value→Sem Value) (h:∀ a b,CalmA P (f a b)):∀ (l:List Value) (a:Value),CalmA P (l.foldlM f a)
 | [],_=>ca_pure _
 | b :: l,a=>by rw [List.foldlM_cons]; exact ca_bind (h a b) fun _=>ca_foldM f h l _
theorem ca_max2 (a b:Value):CalmA P (Builtin.max2 a b):=by
 unfold Builtin.max2
 split <;> first
  | exact ca_pure _
  | exact ca_uns4
  | exact ca_stuck _
  | exact ca_bind (ca_stringOp _ _ _) fun _=>ca_bind (ca_asBool _) fun _=>ca_pure _
  | (split <;> first | exact ca_pure _ | exact ca_bind (ca_choose _) fun _=>ca_pure _)
theorem ca_min2 (a b:Value):CalmA P (Builtin.min2 a b):=by
 unfold Builtin.min2
 split <;> first
  | exact ca_pure _
  | exact ca_uns4
  | exact ca_stuck _
  | exact ca_bind (ca_stringOp _ _ _) fun _=>ca_bind (ca_asBool _) fun _=>ca_pure _
  | (split <;> first | exact ca_pure _ | exact ca_bind (ca_choose _) fun _=>ca_pure _)
theorem ca_max (ts:Array TypeId) (t:TypeId) (args:Array Value):CalmA P (Builtin.max_ ts t args):=by
 unfold Builtin.max_
 split
 ·exact ca_stuck _
 ·exact ca_foldM _ ca_max2 _ _
theorem ca_min (ts:Array TypeId) (t:TypeId) (args:Array Value):CalmA P (Builtin.min_ ts t args):=by
 unfold Builtin.min_
 split
 ·exact ca_stuck _
 ·exact ca_foldM _ ca_min2 _ _
theorem ca_read (t:Extern.Atomic.T) (a:Addr):CalmA P (Extern.Atomic.read t a):=by
 unfold Extern.Atomic.read
 refine ca_bind (ca_load _ _) fun v=>?_
 split
 ·split <;> first | exact ca_pure _ | exact ca_uns2 _
 ·exact ca_pure _
 ·exact ca_pure _
 ·exact ca_uns2 _
theorem ca_loadT (t:Extern.Atomic.T) (args:Array Value):CalmA P (Extern.Atomic.loadT t args):=by
 obtain ⟨l⟩:=args
 rcases l with _ | ⟨x,_ | ⟨y,l⟩⟩ <;> first
  | exact ca_bind (ca_asAddr _) fun _=>ca_read _ _
  | exact ca_stuck _
theorem ca_storeT (args:Array Value):CalmA P (Extern.Atomic.storeT args):=by
 obtain ⟨l⟩:=args
 rcases l with _ | ⟨x,_ | ⟨y,_ | ⟨z,l⟩⟩⟩ <;> first
  | exact ca_bind (ca_asAddr _) fun _=>ca_bind (ca_store _ _ _) fun _=>ca_pure _
  | exact ca_stuck _
theorem ca_swapT (t:Extern.Atomic.T) (args:Array Value):CalmA P (Extern.Atomic.swapT t args):=by
 obtain ⟨l⟩:=args
 rcases l with _ | ⟨x,_ | ⟨y,_ | ⟨z,l⟩⟩⟩ <;> first
  | exact ca_bind (ca_asAddr _) fun _=>ca_bind (ca_read _ _) fun _=>ca_bind (ca_store _ _ _) fun _=>ca_pure _
  | exact ca_stuck _
theorem ca_update (op:IntKind→Int→Int→Sem Value) (ho:∀ k x y,CalmA P (op k x y)) (k:IntKind) (b:Bool) (args:Array Value):CalmA P (Extern.Atomic.update op k b args):=by
 obtain ⟨l⟩:=args
 rcases l with _ | ⟨x,_ | ⟨y,_ | ⟨z,l⟩⟩⟩ <;> first
 | exact ca_bind (ca_asAddr _) fun _=>ca_bind (ca_read _ _) fun _=>ca_bind (ca_asInt _) fun _=>ca_bind (ca_asInt _) fun _=>ca_bind (ho _ _ _) fun _=>ca_bind (ca_store _ _ _) fun _=>ca_pure _
 | exact ca_stuck _
end
section
variable {P:Program} {α β:Type}
def Leaves (P:Program) {α:Type} (Q:α→Prop):Sem α→Prop
 | .pure a=>Q a
 | .load _ _ k=>∀ v,Leaves P Q (k v)
 | .store _ _ _ k=>Leaves P Q k
 | .new _ k=>∀ r,Leaves P Q (k r)
 | .shape _ k=>∀ s,Leaves P Q (k s)
 | .freeze _ _ k=>Leaves P Q k
 | .frozen _ k=>∀ b,Leaves P Q (k b)
 | .getObj _ k=>∀ o,Leaves P Q (k o)
 | .setObj _ _ k=>Leaves P Q k
 | .choose _ k=>∀ n,Leaves P Q (k n)
 | .sys _ k=>∀ r,Leaves P Q (k r)
 | .program k=>Leaves P Q (k P)
 | .mark _ k=>Leaves P Q k
 | .halt _=>True
theorem Leaves.bind {Q:β→Prop} {f:α→Sem β} (hf:∀ a,Leaves P Q (f a)) (s:Sem α):Leaves P Q (s.bind f):=by
 induction s with
 | pure a=>exact hf a
 | load m a k ih=>exact fun v=>ih v
 | store m a u k ih=>exact ih
 | new o k ih=>exact fun v=>ih v
 | shape r k ih=>exact fun v=>ih v
 | freeze a n k ih=>exact ih
 | frozen a k ih=>exact fun v=>ih v
 | getObj r k ih=>exact fun v=>ih v
 | setObj r o k ih=>exact ih
 | choose q k ih=>exact fun v=>ih v
 | sys c k ih=>exact fun v=>ih v
 | program k ih=>exact ih P
 | mark m k ih=>exact ih
 | halt h=>trivial
theorem Leaves.run {Q:α→Prop} (s:Sem α):∀ {w w':World} {es es':Array Event} {a:α},Leaves P Q s→s.runT P w es=(.ok a w',es')→Q a:=by
 induction s with
 | pure a=>intro w w' es es' b h e; simp only [Sem.runT] at e; cases e; exact h
 | load m a k ih =>
   intro w w' es es' b h e
   simp only [Sem.runT] at e
   split at e
   ·exact ih _ (h _) e
   ·split at e
    ·exact ih _ (h _) e
    ·cases e
 | store m a u k ih =>
   intro w w' es es' b h e
   by_cases hg:(∃ c,u=.agg c)∨∃ c,u=.tuple c
   ·rcases hg with ⟨c,rfl⟩ | ⟨c,rfl⟩
    ·cases (show ((Result.halt (.stuck "store: not the value of one cell") w:Result α),es)=(.ok b w',es') from e)
    ·cases (show ((Result.halt (.stuck "store: not the value of one cell") w:Result α),es)=(.ok b w',es') from e)
   ·rw [runT_store hg] at e
    split at e
    ·split at e
     ·cases e
     ·exact ih h e
    ·split at e
     ·exact ih h e
     ·cases e
 | new o k ih=>intro w w' es es' b h e; exact ih _ (h _) e
 | shape r k ih=>intro w w' es es' b h e; exact ih _ (h _) e
 | freeze a n k ih=>intro w w' es es' b h e; exact ih h e
 | frozen a k ih=>intro w w' es es' b h e; exact ih _ (h _) e
 | getObj r k ih =>
   intro w w' es es' b h e
   simp only [Sem.runT] at e
   split at e
   ·cases e
   ·exact ih _ (h _) e
   ·cases e
 | setObj r o k ih =>
   intro w w' es es' b h e
   simp only [Sem.runT] at e
   split at e
   ·cases e
   ·exact ih h e
   ·cases e
 | choose q k ih =>
   intro w w' es es' b h e
   simp only [Sem.runT] at e
   split at e
   ·exact ih _ (h _) e
   ·exact ih _ (h _) e
 | sys c k ih=>intro w w' es es' b h e; exact ih _ (h _) e
 | program k ih=>intro w w' es es' b h e; exact ih _ h e
 | mark m k ih=>intro w w' es es' b h e; exact ih h e
 | halt x=>intro w w' es es' b h e; simp only [Sem.runT] at e; cases e
theorem ca_floatToInt (s:FloatKind) (b:Nat) (d:IntKind):CalmA P (Conv.floatToInt s b d):=by
 unfold Conv.floatToInt
 dsimp only
 split
 ·exact ca_ite (ca_pure _) (ca_bind (ca_choose _) fun _=>ca_pure _)
 ·exact ca_bind (ca_choose _) fun _=>ca_pure _
theorem ca_followBlind:∀ (l:List FieldStep) (t:TypeId) (x:Option Value),CalmA P (followBlind l t x)
 | [],_,_=>ca_pure _
 | s :: l,t,x=>by
   unfold followBlind
   refine ca_bind (ca_underlying _) fun d=>?_
   split
   ·split
    ·split <;> first
      | exact ca_pure _
      | exact ca_followBlind l _ _
      | exact ca_stuck _
      | exact ca_bind (ca_part _ _ _) fun _=>ca_followBlind l _ _
    ·exact ca_stuck _
   ·exact ca_stuck _
theorem ca_nilAhead:∀ (n:Nat) (t:TypeId) (v:Value) (s:String),CalmA P (nilAhead n t v s)
 | 0,_,_,_=>ca_pure _
 | n+1,t,v,s=>by
   unfold nilAhead
   refine ca_bind (ca_typeInfo _) fun i=>?_
   split
   ·refine ca_bind (ca_followBlind _ _ _) fun r=>?_
    split
    ·exact ca_pure _
    ·split <;> first
      | exact ca_nilAhead n _ _ _
      | exact ca_pure _
      | exact ca_stuck _
      | (refine ca_bind (ca_underlying _) fun d=>?_; split <;> exact ca_pure _)
   ·exact ca_stuck _
theorem ca_movedNumber (t:TypeId) (x y:Value):CalmA P (movedNumber t x y):=by
 have key:∀ n:Addr,CalmA P (do
   let (a,lost) ← behindNumber n
   match ← Builtin.unsafeAdd_ #[] t #[.pointer (some a),y] with
   | .pointer (some b)=>asNumber b lost
   | v=>pure v:Sem Value):=fun n=>by
  refine ca_bind (ca_behind _) fun q=>ca_bind (ca_unsafeAdd _ _ _) fun r=>?_
  split
  ·exact ca_bind (fun _=>⟨rfl,fun _=>trivial⟩) fun _=>ca_pure _
  ·exact ca_pure _
 unfold movedNumber
 refine ca_bind (ca_underlying _) fun d=>?_
 cases x with
 | pointer p =>
   cases p with
   | none=>exact ca_ite (ca_bind (ca_uns2 _) fun _=>ca_unsafeAdd _ _ _) (ca_unsafeAdd _ _ _)
   | some n=>exact ca_ite (ca_bind (ca_uns2 _) fun _=>key n) (key n)
 | _=>exact ca_ite (ca_bind (ca_uns2 _) fun _=>ca_unsafeAdd _ _ _) (ca_unsafeAdd _ _ _)
theorem ca_movedPointer (t:TypeId) (x y:Value):CalmA P (movedPointer t x y):=by
 unfold movedPointer
 cases x with
 | pointer p =>
   cases p with
   | none=>exact ca_unsafeAdd _ _ _
   | some a =>
     refine ca_bind (ca_numberAt _) fun r=>?_
     exact ca_ite (ca_bind ca_uns4 fun _=>ca_unsafeAdd _ _ _) (ca_unsafeAdd _ _ _)
 | _=>exact ca_unsafeAdd _ _ _
theorem ca_twoPlaces (a b:Addr):CalmA P (Op.twoPlaces a b):=by
 unfold Op.twoPlaces
 refine ca_bind ca_program fun p=>?_
 exact ca_ite (ca_bind ca_uns4 fun _=>ca_bind (ca_byteOf _) fun _=>ca_bind (ca_byteOf _) fun _=>ca_pure _) (ca_bind (ca_byteOf _) fun _=>ca_bind (ca_byteOf _) fun _=>ca_pure _)
theorem ca_addrSub (k:IntKind) (a b:Addr):CalmA P (Op.addrSub k a b):=ca_bind (ca_twoPlaces _ _) fun _=>ca_pure _
theorem ca_addrCmp (o:BinOp) (a b:Addr):CalmA P (Op.addrCmp o a b):=by
 unfold Op.addrCmp
 refine ca_bind (ca_twoPlaces _ _) fun _=>?_
 dsimp only
 split <;> first | exact ca_pure _ | exact ca_uns4
theorem ca_addrMod (k:IntKind) (a:Addr) (n:Int):CalmA P (Op.addrMod k a n):=by
 unfold Op.addrMod
 refine ca_shape1 (fun s=>?_) (fun e n n'=>rfl)
 cases s with
 | none=>exact ca_uns4
 | some x =>
   refine ca_bind (ca_typeInfo _) fun i=>?_
   exact ca_ite (ca_bind ca_uns4 fun _=>ca_bind (ca_byteOf _) fun _=>ca_pure _) (ca_bind (ca_byteOf _) fun _=>ca_pure _)
theorem ca_floatToFloat (s:FloatKind) (b:Nat) (d:FloatKind):CalmA P (Conv.floatToFloat s b d):=by
 unfold Conv.floatToFloat
 repeat' first
  | with_reducible exact ca_pure _
  | with_reducible exact ca_choose _
  | with_reducible refine ca_ite ?_ ?_
  | with_reducible refine ca_bind ?_ fun _=>?_
  | split
  | dsimp only
theorem ca_cArith (o:BinOp) (k:FloatKind) (x y:Nat):CalmA P (Op.Complex.arith o k x y):=by
 unfold Op.Complex.arith
 refine ca_bind (ca_floatArith _ _ _ _) fun r=>?_
 split <;> first | exact ca_pure _ | exact ca_stuck _
theorem ca_cAdd (x y:Nat):CalmA P (Op.Complex.add x y):=ca_cArith _ _ _ _
theorem ca_cSub (x y:Nat):CalmA P (Op.Complex.sub x y):=ca_cArith _ _ _ _
theorem ca_cMul (x y:Nat):CalmA P (Op.Complex.mul x y):=ca_cArith _ _ _ _
theorem ca_cQuo (x y:Nat):CalmA P (Op.Complex.quo x y):=ca_cArith _ _ _ _
theorem ca_cCmp (o:BinOp) (k:FloatKind) (x y:Nat):CalmA P (Op.Complex.cmp o k x y):=ca_bind (ca_floatCmp _ _ _ _) fun _=>ca_asBool _
theorem ca_cConv (s:FloatKind) (x:Nat) (d:FloatKind):CalmA P (Op.Complex.conv s x d):=by
 unfold Op.Complex.conv
 refine ca_ite (ca_pure _) (ca_bind (ca_floatToFloat _ _ _) fun r=>?_)
 split <;> first | exact ca_pure _ | exact ca_stuck _
theorem ca_cProduct (a b c d:Nat):CalmA P (Op.Complex.product a b c d):=by
 unfold Op.Complex.product
 repeat' first
  | with_reducible exact ca_pure _
  | with_reducible exact ca_stuck _
  | with_reducible exact ca_cArith _ _ _ _
  | with_reducible exact ca_cAdd _ _
  | with_reducible exact ca_cSub _ _
  | with_reducible exact ca_cMul _ _
  | with_reducible exact ca_cQuo _ _
  | with_reducible exact ca_cCmp _ _ _ _
  | with_reducible exact ca_cConv _ _ _
  | with_reducible refine ca_bind ?_ fun _=>?_
theorem ca_cCorrected (s a b c d:Nat):CalmA P (Op.Complex.corrected s a b c d):=by
 unfold Op.Complex.corrected
 repeat' first
  | with_reducible exact ca_pure _
  | with_reducible exact ca_stuck _
  | with_reducible exact ca_cArith _ _ _ _
  | with_reducible exact ca_cAdd _ _
  | with_reducible exact ca_cSub _ _
  | with_reducible exact ca_cMul _ _
  | with_reducible exact ca_cQuo _ _
  | with_reducible exact ca_cCmp _ _ _ _
  | with_reducible exact ca_cConv _ _ _
  | with_reducible refine ca_bind ?_ fun _=>?_
theorem ca_cQuotient (a b c d:Nat):CalmA P (Op.Complex.quotient a b c d):=by
 unfold Op.Complex.quotient
 repeat' first
  | with_reducible exact ca_pure _
  | with_reducible exact ca_stuck _
  | with_reducible exact ca_cArith _ _ _ _
  | with_reducible exact ca_cAdd _ _
  | with_reducible exact ca_cSub _ _
  | with_reducible exact ca_cMul _ _
  | with_reducible exact ca_cQuo _ _
  | with_reducible exact ca_cCmp _ _ _ _
  | with_reducible exact ca_cConv _ _ _
  | with_reducible exact ca_cCorrected _ _ _ _ _
  | with_reducible refine ca_ite ?_ ?_
  | with_reducible refine ca_bind ?_ fun _=>?_
  | split
  | dsimp only
theorem ca_complexOp (o:BinOp) (k:FloatKind) (a b c d:Nat):CalmA P (Op.complexOp o k a b c d):=by
 unfold Op.complexOp
 repeat' first
  | with_reducible exact ca_pure _
  | with_reducible exact ca_stuck _
  | with_reducible exact ca_cArith _ _ _ _
  | with_reducible exact ca_cAdd _ _
  | with_reducible exact ca_cSub _ _
  | with_reducible exact ca_cMul _ _
  | with_reducible exact ca_cQuo _ _
  | with_reducible exact ca_cCmp _ _ _ _
  | with_reducible exact ca_cConv _ _ _
  | with_reducible exact ca_cProduct _ _ _ _
  | with_reducible exact ca_cQuotient _ _ _ _
  | with_reducible refine ca_ite ?_ ?_
  | with_reducible refine ca_bind ?_ fun _=>?_
  | split
  | dsimp only
theorem ca_equal {t:TypeId} (h:plainEq P Op.maxDepth t=true) (x y:Value):CalmA P (Op.equal t x y):=ca_equalIn _ _ _ _ h
theorem ca_equal_ptr {t e:TypeId} (h:P.underlying t=some (.pointer e)) (x:Value):∀ d,CalmA P (Op.equalIn d t x (.pointer none))
 | 0=>ca_uns3 _
 | d+1=>by
   unfold Op.equalIn
   refine ca_underlying_bind fun u hu=>?_
   rw [h] at hu
   cases hu
   cases x with
   | pointer a=>cases a <;> exact ca_pure _
   | _=>exact ca_stuck _
theorem ca_equal_iface {t:TypeId} {ms:Array (String × TypeId)} (h:P.underlying t=some (.interface ms)) (x:Value):∀ d,CalmA P (Op.equalIn d t x .nilIface)
 | 0=>ca_uns3 _
 | d+1=>by
   unfold Op.equalIn
   refine ca_underlying_bind fun u hu=>?_
   rw [h] at hu
   cases hu
   cases x <;> first | exact ca_pure _ | exact ca_stuck _
def plainCmp (P:Program) (t:TypeId) (y:Value):Bool:=plainEq P Op.maxDepth t || (match P.underlying t,y with
 | some (.pointer _),.pointer none=>true
 | some (.interface _),.nilIface=>true
 | _,_=>false)
theorem ca_equal' {t:TypeId} {y:Value} (h:plainCmp P t y=true) (x:Value):CalmA P (Op.equal t x y):=by
 unfold plainCmp at h
 rw [Bool.or_eq_true] at h
 rcases h with h | h
 ·exact ca_equal h _ _
 ·split at h
  ·rename_i h1; exact ca_equal_ptr h1 x _
  ·rename_i h1; exact ca_equal_iface h1 x _
  ·cases h
theorem ca_binOp (o:BinOp) (t:TypeId) (x y:Value) (h:o=.eql∨o=.neq→plainCmp P t y=true):CalmA P (binOp o t x y):=by
 unfold binOp
 split <;> first
  | exact ca_shift _ _ _ _ _
  | (refine ca_ite (ca_stuck _) ?_; split <;> first | exact ca_intArith _ _ _ _ | exact ca_intDiv _ _ _ _ | exact ca_intBits _ _ _ _ | exact ca_intCmp _ _ _)
  | (refine ca_ite (ca_stuck _) ?_; split <;> first | exact ca_floatArith _ _ _ _ | exact ca_floatCmp _ _ _ _)
  | exact ca_ite (ca_stuck _) (ca_complexOp _ _ _ _ _ _)
  | exact ca_stringOp _ _ _
  | exact ca_bind (ca_equal' (h (.inl rfl)) _) fun _=>ca_pure _
  | exact ca_bind (ca_equal' (h (.inr rfl)) _) fun _=>ca_pure _
  | exact ca_movedNumber _ _ _
  | exact ca_bind (ca_behind _) fun _=>ca_bind (ca_behind _) fun _=>ca_addrSub _ _ _
  | exact ca_bind (ca_behind _) fun _=>ca_bind (ca_behind _) fun _=>ca_addrCmp _ _ _
  | exact ca_bind (ca_behind _) fun _=>ca_addrMod _ _ _
  | exact ca_uns4
  | exact ca_stuck _
  | (refine ca_bind (ca_underlying _) fun d=>?_; refine ca_ite (ca_movedPointer _ _ _) (ca_movedNumber _ _ _))
  | skip
end
def intType (P:Program) (t:TypeId):Bool:=match P.underlying t with
 | some (.int _)=>true
 | _=>false
def quietB:Builtin→Bool
 | .append | .cap | .copy | .len | .max | .min=>true
 | _=>false
def quietCall (F:FuncId→Bool):Callee→Bool
 | .builtin b=>quietB b
 | .value (.func f)=>F f
 | _=>false
def mapOk (P:Program) (t:TypeId):Bool:=match P.underlying t with
 | some (.map k _)=>intType P k && plainEq P Op.maxDepth k
 | _=>false
def quietOp (P:Program) (F:FuncId→Bool):Op→Bool
 | .move _ | .assign _ | .pick .. | .alloc _ | .box .. | .build .. | .buildSlice .. | .load .. | .store .. | .unOp .. | .makeInterface .. | .makeFunc .. | .makeChan .. | .makeSlice .. | .slice ..=>true
 | .fieldAddr .. | .field .. | .indexAddr .. | .index .. | .extract .. | .nilCheck _=>true
 | .binOp b t _ y _=>!(b == .eql || b == .neq) || plainCmp P t (match y with | .const v=>v | _=>.bool false)
 | .convert s d _=>intType P s && intType P d
 | .makeMap _ r=>r.isNone
 | .lookup t ..=>mapOk P t
 | .insert t ..=>mapOk P t
 | .call c=>quietCall F c.callee
 | _=>false
structure GoodF (P:Program) (f:FuncId):Prop where
 has:∃ fn,P.funcs[f]?=some fn∧(fn.name == "runtime.NumGoroutine")=false∧(fn.body.isSome=true∨(Extern.findNext fn=none∧∃ e,Extern.find fn=some e∧∀ args,CalmA P (e args)))
def QuietNext (P:Program) (F:FuncId→Bool):Next→Prop
 | .value _=>True
 | .skip=>True
 | .enter f _=>F f=true∧∃ fn,P.funcs[f]?=some fn∧fn.body.isSome=true
 | _=>False
section
variable {P:Program} {F:FuncId→Bool}
def Qt (P:Program) (F:FuncId→Bool) (s:Sem Next):Prop:=CalmA P s∧Leaves P (QuietNext P F) s
theorem lv_v {s:Sem Value}:Leaves P (QuietNext P F) (do pure (.value (← s))):=by
 refine Leaves.bind (fun v=>?_) s
 trivial
theorem lv_u {s:Sem Unit}:Leaves P (QuietNext P F) (do s; pure .skip):=by
 refine Leaves.bind (fun v=>?_) s
 trivial
theorem qt_v {s:Sem Value} (h:CalmA P s):Qt P F (do pure (.value (← s))):=⟨ca_bind h fun _=>ca_pure _,lv_v⟩
theorem qt_u {s:Sem Unit} (h:CalmA P s):Qt P F (do s; pure .skip):=⟨ca_bind h fun _=>ca_pure _,lv_u⟩
theorem qt_val (v:Value):Qt P F (pure (.value v)):=⟨ca_pure _,trivial⟩
theorem lv_elemOf {α:Type} {Q:α→Prop} {t:TypeId} {f:TypeId→Sem α} (h:∀ a,Leaves P Q (f a)):Leaves P Q (elemOf t >>= f):=Leaves.bind h _
theorem lv_panic {α:Type} {Q:α→Prop} (e:RuntimeError):Leaves P Q (runtimePanic e:Sem α):=by
 unfold runtimePanic
 refine Leaves.bind (fun p=>?_) _
 cases e <;> first
  | exact trivial
  | (refine lv_elemOf fun a=>Leaves.bind (fun b=>?_) _; trivial)
theorem qt_panic (e:RuntimeError):Qt P F (runtimePanic e):=⟨ca_rtPanic e,lv_panic e⟩
theorem ca_program_bind {α:Type} {f:Program→Sem α} (h:CalmA P (f P)):CalmA P (program >>= f):=fun S=>h S
theorem lv_program_bind {α:Type} {Q:α→Prop} {f:Program→Sem α} (h:Leaves P Q (f P)):Leaves P Q (program >>= f):=h
theorem ca_markE {α:Type} {f:FuncId} {k:Unit→Sem α} (h:CalmA P (k ())):CalmA P (mark (.extern f) >>= k):=fun S=>⟨.inr ⟨f,rfl⟩,h S⟩
theorem qt_callFunc {f:FuncId} (hF:F f=true) (h:GoodF P f) (args:Array Value):Qt P F (callFunc f args):=by
 obtain ⟨fn,hf,hn,hb⟩:=h.has
 unfold callFunc
 refine ⟨ca_program_bind ?_,lv_program_bind ?_⟩
 ·simp only [hf,hn,Bool.false_eq_true,if_false]
  rcases hb with hb | ⟨hx,e,he,hc⟩
  ·have:fn.body.isNone=false:=by cases h:fn.body <;> simp_all
   simp only [this,Bool.false_eq_true,if_false]
   exact ca_pure _
  ·refine ca_ite ?_ (ca_pure _)
   refine ca_markE ?_
   simp only [hx,he]
   exact ca_bind (hc _) fun _=>ca_pure _
 ·simp only [hf,hn,Bool.false_eq_true,if_false]
  by_cases hbody:fn.body.isSome=true
  ·have:fn.body.isNone=false:=by cases h:fn.body <;> simp_all
   simp only [this,Bool.false_eq_true,if_false]
   exact ⟨hF,fn,hf,hbody⟩
  ·have:fn.body.isNone=true:=by cases h:fn.body <;> simp_all
   rcases hb with hb | ⟨hx,e,he,hc⟩
   ·exact absurd hb hbody
   ·simp only [this,if_true]
    refine Leaves.bind (fun _=>?_) _
    simp only [hx,he]
    exact lv_v
theorem ca_convert {s d:TypeId} (hs:intType P s=true) (hd:intType P d=true) (x:Value):CalmA P (convert s d x):=by
 unfold intType at hs hd
 unfold convert
 refine ca_underlying_bind fun a ha=>ca_underlying_bind fun b hb=>?_
 rw [ha] at hs
 rw [hb] at hd
 cases a <;> simp at hs
 cases b <;> simp at hd
 cases x with
 | int k n=>exact ca_pure _
 | float k b=>exact ca_floatToInt _ _ _
 | pointer p=>cases p <;> first | exact ca_uns4 | exact ca_uns1 _
 | _=>exact ca_uns1 _
theorem qt_nilCheck (x:Value):Qt P F (match x with
  | .pointer none | .nilIface | .nilFunc=>runtimePanic .nilDeref
  | .func (.method name) first captured =>
    match (first[0]?:Option Value) with
    | some .nilIface=>runtimePanic .nilDeref
    | some (.iface t w)=>do
      if (← nilAhead ((← program).types.size+Made.depth) t w name) != some false then
       unsupported (.noEntry "op/nilCheck.the method's receiver behind this interface value is a nil pointer, or cannot be seen to be none, and the arguments act or may panic (ledger 612)")
      pure (.value (.func (.method name) first captured))
    | _=>pure (.value (.func (.method name) first captured))
  | x=>pure (.value x):Sem Next):=by
 split
 ·exact qt_panic _
 ·exact qt_panic _
 ·exact qt_panic _
 ·split
  ·exact qt_panic _
  ·refine ⟨ca_program_bind (ca_bind (ca_nilAhead _ _ _ _) fun r=>?_),lv_program_bind (Leaves.bind (fun r=>?_) _)⟩
   ·exact ca_ite (ca_bind (ca_uns1 _) fun _=>ca_pure _) (ca_pure _)
   ·dsimp only
    split
    ·trivial
    ·trivial
  ·exact qt_val _
 ·exact qt_val _
theorem ca_checkKey {t:TypeId} (ht:intType P t=true) (e:Bool) (v:Value):∀ n,CalmA P (Instr.checkKey e n t v)
 | 0=>ca_uns3 _
 | n+1=>by
   unfold intType at ht
   unfold Instr.checkKey
   refine ca_underlying_bind fun u hu=>?_
   rw [hu] at ht
   cases u <;> simp at ht
   exact ca_pure _
theorem ca_findAsking {t:TypeId} (ht:plainEq P Op.maxDepth t=true) (k:Value):∀ (es:List MapEntry) (i:Nat),CalmA P (Instr.findAsking t k es i)
 | [],_=>ca_pure _
 | e :: es,i=>by
   unfold Instr.findAsking
   refine ca_bind (ca_equal ht _ _) fun b=>?_
   exact ca_ite (ca_pure _) (ca_findAsking ht k es (i+1))
theorem ca_findKey {t:TypeId} (ht:plainEq P Op.maxDepth t=true) (k:Value) (es:List MapEntry):CalmA P (Instr.findKey t k es):=by
 unfold Instr.findKey
 refine ca_underlying_bind fun u hu=>?_
 split
 ·exact ca_pure _
 ·exact ca_findAsking ht k es 0
theorem ca_lookup {t key elem:TypeId} (hu:P.underlying t=some (.map key elem)) (hk:intType P key=true) (he:plainEq P Op.maxDepth key=true) (x ix:Value) (ok:Bool):CalmA P (Instr.lookup t x ix ok):=by
 unfold Instr.lookup
 refine ca_underlying_bind fun u hu'=>?_
 rw [hu] at hu'
 obtain rfl:=Option.some.inj hu'
 have fin:∀ es:Array MapEntry,CalmA P (do
   Instr.checkKey es.isEmpty 10000 key ix
   let (v,ok') ← match ← Instr.findKey key ix es.toList with
    | some (_,v)=>pure (v,true)
    | none=>pure (← zeroValue elem,false)
   pure (if ok then Value.tuple #[v,.bool ok'] else v)):=fun es=>by
  refine ca_bind (ca_checkKey hk _ _ _) fun _=>ca_bind (ca_findKey he _ _) fun r=>?_
  cases r with
  | some p=>exact ca_bind (ca_pure _) fun _=>ca_pure _
  | none=>exact ca_bind (ca_zero _) fun _=>ca_bind (ca_pure _) fun _=>ca_pure _
 cases x with
 | map r =>
   cases r with
   | none=>exact fin #[]
   | some r =>
     refine ca_obj (fun o=>?_) (fun a t=>rfl) rfl
     cases o with
     | map es c=>exact fin es
     | _=>exact ca_bind (ca_stuck _) fun es=>fin es
 | _=>exact ca_bind (ca_stuck _) fun es=>fin es
theorem ca_makeMap (t:TypeId):CalmA P (Instr.makeMap t none):=ca_bind ca_map0 fun _=>ca_pure _
theorem ca_keyThatStays (a b:Value):CalmA P (Instr.keyThatStays a b):=by
 unfold Instr.keyThatStays
 exact ca_ite (ca_pure _) (ca_bind (ca_choose _) fun _=>ca_pure _)
theorem ca_mapUpdate {t key elem:TypeId} (hu:P.underlying t=some (.map key elem)) (hk:intType P key=true) (he:plainEq P Op.maxDepth key=true) (m k v:Value):CalmA P (Instr.mapUpdate t m k v):=by
 unfold Instr.mapUpdate
 refine ca_underlying_bind fun u hu'=>?_
 rw [hu] at hu'
 obtain rfl:=Option.some.inj hu'
 cases m with
 | map r =>
   cases r with
   | none=>exact ca_rtPanic _
   | some r =>
     refine fun S=>⟨fun o=>?_,fun a a' t=>.inl rfl,.inl rfl⟩
     cases o with
     | map es clock =>
       refine Calm.bind (Instr.checkKey false 10000 key k) (fun _=>(Instr.findKey key k es.toList).bind _) (ca_checkKey hk _ _ _ _) (fun _ S1 h1=>Calm.bind (Instr.findKey key k es.toList) _ (ca_findKey he _ _ _) (fun res S2 h2=>?_))
       have hr:=h2 _ (h1 _ (List.mem_cons_self ..))
       cases res with
       | none=>exact ⟨hr,rfl,trivial⟩
       | some p=>exact Calm.bind _ _ (ca_keyThatStays _ _ _) (fun _ S3 h3=>⟨h3 _ hr,rfl,trivial⟩)
     | _=>rfl
 | _=>exact ca_stuck _
theorem mapOk_of {t:TypeId} (h:mapOk P t=true):∃ k e,P.underlying t=some (.map k e)∧intType P k=true∧plainEq P Op.maxDepth k=true:=by
 unfold mapOk at h
 split at h
 ·rename_i k e hu
  rw [Bool.and_eq_true] at h
  exact ⟨k,e,hu,h.1,h.2⟩
 ·cases h
theorem qt_execOp {o:Oper} (hq:quietOp P F o.op=true) (hF:∀ f,F f=true→GoodF P f) (ρ:Operand→Value) (hρ:∀ f,ρ (.func f)=.func (.func f) #[] #[]) (hc:∀ v,ρ (.const v)=v):Qt P F (execOp ρ o):=by
 unfold execOp
 unfold quietOp at hq
 generalize o.op=op at hq
 cases op with
 | move x=>exact qt_val _
 | assign x=>exact qt_val _
 | pick c a b=>exact ⟨ca_bind (ca_asBool _) fun _=>ca_pure _,by refine Leaves.bind (fun v=>?_) _; trivial⟩
 | alloc e=>exact qt_v (ca_alloc _ _)
 | box e x=>exact qt_v (ca_box _ _)
 | build t ps=>exact qt_v (ca_build _ _)
 | buildSlice t n ps=>exact qt_v (ca_buildSlice _ _ _)
 | load t a=>exact qt_v (ca_loadAt _ _)
 | store t a x=>exact qt_u (ca_storeAt _ _ _)
 | nilCheck x=>exact qt_nilCheck (ρ x)
 | binOp b t x y u =>
   refine qt_v (ca_bind (ca_eqGuard _ _ _ _ _ _) fun _=>ca_binOp _ _ _ _ fun hb=>?_)
   simp only [Bool.or_eq_true,Bool.not_eq_true',Bool.or_eq_false_iff,beq_eq_false_iff_ne] at hq
   rcases hq with ⟨h1,h2⟩ | h
   ·rcases hb with hb | hb
    ·exact absurd hb h1
    ·exact absurd hb h2
   ·cases y with
    | const v=>rw [hc]; exact h
    | _ =>
      unfold plainCmp at h ⊢
      rw [Bool.or_eq_true] at h
      rcases h with h | h
      ·rw [h]; rfl
      ·split at h
       ·rename_i e; cases e
       ·rename_i e; cases e
       ·cases h
 | unOp u t x=>exact qt_v (ca_unary _ _)
 | convert s d x =>
   simp only [Bool.and_eq_true] at hq
   exact qt_v (ca_convert hq.1 hq.2 _)
 | makeInterface t x=>exact qt_v (ca_makeInterface _ _)
 | makeMap t r =>
   cases r with
   | none=>exact qt_v (ca_makeMap _)
   | some r=>cases hq
 | lookup t x i ok =>
   obtain ⟨k,e,hu,h1,h2⟩:=mapOk_of hq
   exact qt_v (ca_lookup hu h1 h2 _ _ _)
 | insert t m i x =>
   obtain ⟨k,e,hu,h1,h2⟩:=mapOk_of hq
   exact qt_u (ca_mapUpdate hu h1 h2 _ _ _)
 | makeFunc f a b=>exact qt_v (ca_makeFunc _ _ _)
 | makeChan t s=>exact qt_v (ca_makeChan _ _)
 | makeSlice t l c=>exact qt_v (ca_makeSlice _ _ _)
 | slice t x a b m=>exact qt_v (ca_sliceAt _ _ _ _ _)
 | fieldAddr t x f=>exact qt_v (ca_fieldAt _ _ _)
 | field t x f=>exact qt_v (ca_field _ _ _)
 | indexAddr t x i=>exact qt_v (ca_indexAt _ _ _)
 | index t x i=>exact qt_v (ca_index _ _ _)
 | extract t i=>exact qt_v (ca_extract _ _)
 | call c =>
   obtain ⟨callee,args,ats⟩:=c
   simp only at hq
   cases callee with
   | value f =>
     cases f with
     | func f =>
       have e:(do let d ← resolve ρ { callee:=.value (.func f),args:=args,argTypes:=ats } o.type; invoke d.target d.args:Sem Next)=callFunc f ((#[] ++ args.map ρ) ++ #[]):=by
        unfold resolve
        simp only [hρ,Deferred.ofValue]
        rfl
       show Qt P F (do let d ← resolve ρ { callee:=.value (.func f),args:=args,argTypes:=ats } o.type; invoke d.target d.args)
       rw [e]
       exact qt_callFunc hq (hF f hq) _
     | _=>simp [quietCall] at hq
   | invoke r m=>simp [quietCall] at hq
   | builtin b =>
     cases b <;> simp [quietCall,quietB] at hq
     ·exact qt_v (ca_append _ _ _)
     ·exact qt_v (ca_cap _ _ _)
     ·exact qt_v (ca_copy _ _ _)
     ·exact qt_v (ca_len _ _ _)
     ·exact qt_v (ca_max _ _ _)
     ·exact qt_v (ca_min _ _ _)
 | _=>simp at hq
end
def rt (w:World) (τ:Nat→Question→Nat) (d:Nat):World:={ w with tape:=τ,drawn:=d }
@[simp] theorem rt_heap (w:World) (τ:Nat→Question→Nat) (d:Nat):(rt w τ d).heap=w.heap:=rfl
@[simp] theorem rt_drawn (w:World) (τ:Nat→Question→Nat) (d:Nat):(rt w τ d).drawn=d:=rfl
@[simp] theorem rt_tape (w:World) (τ:Nat→Question→Nat) (d:Nat):(rt w τ d).tape=τ:=rfl
def Agree (v v':World) (τ:Nat→Question→Nat) (d:Nat):Prop:=∀ i,v.drawn+i < v'.drawn→τ (d+i)=v.tape (v.drawn+i)
def rw' {α:Type}:Result α→World
 | .ok _ w=>w
 | .halt _ w=>w
def RtR {α:Type} (n d:Nat) (τ:Nat→Question→Nat) (q q':Result α × Array Event):Prop:=match q.1 with
 | .ok a w'=>q'=(.ok a (rt w' τ (d+(w'.drawn - n))),q.2)
 | .halt h w'=>(h.final=true∧∃ h' x',q'.1=.halt h' x'∧h'.final=true)∨q'=(.halt h (rt w' τ (d+(w'.drawn - n))),q.2)
theorem RtR.final {α:Type} {n d:Nat} {τ:Nat→Question→Nat} {h h':Halt} {w' x':World} {es es':Array Event} (e:h.final=true) (e':h'.final=true):RtR (α:=α) n d τ (.halt h w',es) (.halt h' x',es'):=.inl ⟨e,_,_,rfl,e'⟩
theorem ask_tape {α:Type}:∀ (a:Ask α) (w:World),(w.ask a).2.tape=w.tape∧w.drawn≤(w.ask a).2.drawn
 | .done a,w=>⟨rfl,Nat.le_refl _⟩
 | .ask what range k,w=>by
   unfold World.ask
   dsimp only
   split
   ·exact ask_tape _ _
   ·obtain ⟨h1,h2⟩:=ask_tape (k ((Question.extern what range).cut (w.tape w.drawn (Question.extern what range)))) { w with drawn:=w.drawn+1 }
    exact ⟨h1,Nat.le_trans (Nat.le_succ _) h2⟩
theorem sys_tape (w:World) (c:Sys):(w.sys c).2.tape=w.tape∧w.drawn≤(w.sys c).2.drawn:=by
 have:=ask_tape (Kernel.perform c w.os) w
 unfold World.sys
 split
 ·exact ⟨rfl,Nat.le_refl _⟩
 ·rename_i h
  rw [h] at this
  exact this
theorem dead_drawn {α:Type} {P:Program} (s:Sem α):∀ (w:World) (es:Array Event),Dead P s→Fair w→(rw' (s.runT P w es).1).tape=w.tape∧w.drawn≤(rw' (s.runT P w es).1).drawn:=by
 induction s with
 | pure a=>intro w es h _; exact h.elim
 | load m a k ih =>
   intro w es h hf
   simp only [Sem.runT]
   split
   ·exact ih _ _ _ (h _) hf
   ·obtain ⟨e,he,h2⟩:=hf.farLoad P a (m == .atomic)
    rw [he]
    exact ⟨rfl,Nat.le_refl _⟩
 | store m a u k ih =>
   intro w es h hf
   by_cases hg:(∃ c,u=.agg c)∨∃ c,u=.tuple c
   ·rcases hg with ⟨c,rfl⟩ | ⟨c,rfl⟩ <;> exact ⟨rfl,Nat.le_refl _⟩
   ·rw [runT_store hg]
    split
    ·split
     ·exact ⟨rfl,Nat.le_refl _⟩
     ·exact ih _ _ h (hf.setCell _ _)
    ·obtain ⟨e,he,h2⟩:=hf.farStore P a u (m == .atomic)
     rw [he]
     exact ⟨rfl,Nat.le_refl _⟩
 | new o k ih=>intro w es h hf; exact ih _ _ _ (h.2 _) (hf.new h.1)
 | shape r k ih=>intro w es h hf; exact ih _ _ _ (h _) hf
 | freeze a n k ih =>
   intro w es h hf
   have hx:(w.freeze a n).tape=w.tape∧(w.freeze a n).drawn=w.drawn:=by unfold World.freeze; split <;> exact ⟨rfl,rfl⟩
   obtain ⟨h1,h2⟩:=ih (w.freeze a n) es h (hf.freeze _ _)
   exact ⟨h1.trans hx.1,by rw [← hx.2]; exact h2⟩
 | frozen a k ih=>intro w es h hf; exact ih _ _ _ (h _) hf
 | getObj r k ih =>
   intro w es h hf
   simp only [Sem.runT]
   split
   ·exact ⟨rfl,Nat.le_refl _⟩
   ·exact ih _ _ _ (h _) hf
   ·exact ⟨rfl,Nat.le_refl _⟩
 | setObj r o k ih =>
   intro w es h hf
   simp only [Sem.runT]
   split
   ·exact ⟨rfl,Nat.le_refl _⟩
   ·exact ih _ _ h.2 (hf.set _ h.1)
   ·exact ⟨rfl,Nat.le_refl _⟩
 | choose q k ih =>
   intro w es h hf
   simp only [Sem.runT]
   split
   ·exact ih _ _ _ (h _) hf
   ·obtain ⟨h1,h2⟩:=ih (q.cut (w.tape w.drawn q)) { w with drawn:=w.drawn+1 } es (h _) hf
    exact ⟨h1,Nat.le_trans (Nat.le_succ _) h2⟩
 | sys c k ih =>
   intro w es h hf
   obtain ⟨h1,h2⟩:=ih (w.sys c).1 (w.sys c).2 (es.push ⟨.output,true,false⟩) (h _) (fun b o ho=>hf b o (by rw [← sys_heap w c]; exact ho))
   exact ⟨h1.trans (sys_tape w c).1,Nat.le_trans (sys_tape w c).2 h2⟩
 | program k ih=>intro w es h hf; exact ih _ _ _ h hf
 | mark m k ih=>intro w es h hf; exact ih _ _ h hf
 | halt h=>intro w es h' _; exact ⟨rfl,Nat.le_refl _⟩
theorem runT_rt {α:Type} {P:Program} (s:Sem α):∀ (S:List Nat) (w:World) (es:Array Event),Calm P S s→Fair w →
  (rw' (s.runT P w es).1).tape=w.tape∧w.drawn≤(rw' (s.runT P w es).1).drawn ∧
  ∀ (τ:Nat→Question→Nat) (d:Nat),Agree w (rw' (s.runT P w es).1) τ d→RtR w.drawn d τ (s.runT P w es) (s.runT P (rt w τ d) es):=by
 induction s with
 | pure a=>intro S w es h hf; exact ⟨rfl,Nat.le_refl _,fun τ d _=>by simp [Sem.runT,RtR]⟩
 | load m a k ih =>
   intro S w es h hf
   cases hc:w.cell? a with
   | some u =>
     have e:∀ x:World,x.cell? a=some u→(Sem.load m a k).runT P x es=(k u).runT P x (es.push ⟨.cell a,false,m == .atomic⟩):=fun x hx=>by simp only [Sem.runT,hx]
     rw [e w hc]
     obtain ⟨h1,h2,h3⟩:=ih u S w (es.push ⟨.cell a,false,m == .atomic⟩) (h u) hf
     exact ⟨h1,h2,fun τ d ha=>by rw [e (rt w τ d) hc]; exact h3 τ d ha⟩
   | none =>
     obtain ⟨y,hy,hy2⟩:=hf.farLoad P a (m == .atomic)
     have e:∀ x:World,x.cell? a=none→x.farLoad P a (m == .atomic)=.error y→(Sem.load m a k).runT P x es=(.halt y x,es):=fun x hx hy=>by simp only [Sem.runT,hx,hy]
     rw [e w hc hy]
     exact ⟨rfl,Nat.le_refl _,fun τ d _=>by rw [e (rt w τ d) hc hy]; exact RtR.final hy2 hy2⟩
 | store m a u k ih =>
   intro S w es h hf
   by_cases hg:(∃ c,u=.agg c)∨∃ c,u=.tuple c
   ·have e:∀ x:World,(Sem.store m a u k).runT P x es=(.halt (.stuck "store: not the value of one cell") x,es):=fun x=>by
     rcases hg with ⟨c,rfl⟩ | ⟨c,rfl⟩ <;> rfl
    rw [e]
    exact ⟨rfl,Nat.le_refl _,fun τ d _=>by rw [e]; exact RtR.final rfl rfl⟩
   ·cases hc:w.cell? a with
    | some u0 =>
      cases hz:w.frozen? a with
      | true =>
        have e:∀ x:World,x.cell? a=some u0→x.frozen? a=true→(Sem.store m a u k).runT P x es=(.halt (.unsupported (.unsafePointer "a write to bytes that a string shares")) x,es):=fun x h1 h2=>by rw [runT_store hg]; simp only [h1,h2,if_true]
        rw [e w hc hz]
        exact ⟨rfl,Nat.le_refl _,fun τ d _=>by rw [e (rt w τ d) hc hz]; exact RtR.final rfl rfl⟩
      | false =>
        have e:∀ x:World,x.cell? a=some u0→x.frozen? a=false→(Sem.store m a u k).runT P x es=k.runT P (x.setCell a u) (es.push ⟨.cell a,true,m == .atomic⟩):=fun x h1 h2=>by rw [runT_store hg]; simp only [h1,h2,if_false,Bool.false_eq_true]
        rw [e w hc hz]
        obtain ⟨h1,h2,h3⟩:=ih S (w.setCell a u) (es.push ⟨.cell a,true,m == .atomic⟩) h (hf.setCell _ _)
        exact ⟨h1,h2,fun τ d ha=>by rw [e (rt w τ d) hc hz]; exact h3 τ d ha⟩
    | none =>
      obtain ⟨y,hy,hy2⟩:=hf.farStore P a u (m == .atomic)
      obtain ⟨z,hz,hz2⟩:∃ e,w.farStore P a u (m == .atomic)=.error e∧e.final=true:=hf.farStore P a u (m == .atomic)
      have e:∀ (x:World) (y:Halt),x.cell? a=none→x.farStore P a u (m == .atomic)=.error y→(Sem.store m a u k).runT P x es=(.halt y x,es):=fun x y hx hy=>by rw [runT_store hg]; simp only [hx,hy]
      rw [e w y hc hy]
      refine ⟨rfl,Nat.le_refl _,fun τ d _=>?_⟩
      have hf2:Fair (rt w τ d):=hf
      obtain ⟨z,hz,hz2⟩:=hf2.farStore P a u (m == .atomic)
      rw [e (rt w τ d) z hc hz]
      exact RtR.final hy2 hz2
 | new o k ih =>
   intro S w es h hf
   obtain ⟨h1,h2,h3⟩:=ih _ (w.heap.size :: S) { w with heap:=w.heap.push o } es (h.2 _) (hf.new h.1)
   exact ⟨h1,h2,fun τ d ha=>h3 τ d ha⟩
 | shape r k ih =>
   intro S w es h hf
   rcases h.1 (w.shape? r) with hc | hd
   ·obtain ⟨h1,h2,h3⟩:=ih (w.shape? r) S w es hc hf
    exact ⟨h1,h2,fun τ d ha=>h3 τ d ha⟩
   ·obtain ⟨x,v',es',hr,hx⟩:=dead_run (P:=P) (k (w.shape? r)) w es hd hf
    have e:∀ x:World,(Sem.shape r k).runT P x es=(k (x.shape? r)).runT P x es:=fun x=>rfl
    rw [e,hr]
    have hw:=dead_drawn (P:=P) (k (w.shape? r)) w es hd hf
    rw [hr] at hw
    refine ⟨hw.1,hw.2,fun τ d _=>?_⟩
    have hf2:Fair (rt w τ d):=hf
    obtain ⟨x2,v2,es2,hr2,hx2⟩:=dead_run (P:=P) (k (w.shape? r)) (rt w τ d) es hd hf2
    have e2:(Sem.shape r k).runT P (rt w τ d) es=(.halt x2 v2,es2):=hr2
    rw [e2]
    exact RtR.final hx hx2
 | freeze a n k ih=>intro S w es h hf; exact h.elim
 | frozen a k ih =>
   intro S w es h hf
   obtain ⟨h1,h2,h3⟩:=ih (w.frozen? a) S w es (h _) hf
   exact ⟨h1,h2,fun τ d ha=>h3 τ d ha⟩
 | getObj r k ih =>
   intro S w es h hf
   cases ho:w.heap[r]? with
   | none =>
     have e:∀ x:World,x.heap[r]?=none→(Sem.getObj r k).runT P x es=(.halt (.stuck "getObj: no such block") x,es):=fun x hx=>by simp only [Sem.runT,hx]
     rw [e w ho]
     exact ⟨rfl,Nat.le_refl _,fun τ d _=>by rw [e (rt w τ d) ho]; exact RtR.final rfl rfl⟩
   | some o =>
     by_cases hcl:∃ c t f,o=.cells c t f
     ·obtain ⟨c,t,f,rfl⟩:=hcl
      have e:∀ x:World,x.heap[r]?=some (.cells c t f)→(Sem.getObj r k).runT P x es=(.halt (.stuck "getObj: a row of cells") x,es):=fun x hx=>by simp only [Sem.runT,hx]
      rw [e w ho]
      exact ⟨rfl,Nat.le_refl _,fun τ d _=>by rw [e (rt w τ d) ho]; exact RtR.final rfl rfl⟩
     ·have e:∀ x:World,x.heap[r]?=some o→(Sem.getObj r k).runT P x es=(k o).runT P x (es.push ⟨.obj r,false,o.isChan⟩):=fun x hx=>by
       cases o <;> first | exact absurd ⟨_,_,_,rfl⟩ hcl | simp only [Sem.runT,hx]
      rw [e w ho]
      obtain ⟨h1,h2,h3⟩:=ih o (r :: S) w (es.push ⟨.obj r,false,o.isChan⟩) (h.1 o) hf
      exact ⟨h1,h2,fun τ d ha=>by rw [e (rt w τ d) ho]; exact h3 τ d ha⟩
 | setObj r o k ih =>
   intro S w es h hf
   cases ho:w.heap[r]? with
   | none =>
     have e:∀ x:World,x.heap[r]?=none→(Sem.setObj r o k).runT P x es=(.halt (.stuck "setObj: no such block") x,es):=fun x hx=>by simp only [Sem.runT,hx]
     rw [e w ho]
     exact ⟨rfl,Nat.le_refl _,fun τ d _=>by rw [e (rt w τ d) ho]; exact RtR.final rfl rfl⟩
   | some o1 =>
     by_cases hcl:∃ c t f,o1=.cells c t f
     ·obtain ⟨c,t,f,rfl⟩:=hcl
      have e:∀ x:World,x.heap[r]?=some (.cells c t f)→(Sem.setObj r o k).runT P x es=(.halt (.stuck "setObj: a row of cells") x,es):=fun x hx=>by simp only [Sem.runT,hx]
      rw [e w ho]
      exact ⟨rfl,Nat.le_refl _,fun τ d _=>by rw [e (rt w τ d) ho]; exact RtR.final rfl rfl⟩
     ·have e:∀ x:World,x.heap[r]?=some o1→(Sem.setObj r o k).runT P x es=k.runT P { x with heap:=x.heap.setIfInBounds r o } (es.push ⟨.obj r,true,o.isChan⟩):=fun x hx=>by
       cases o1 <;> first | exact absurd ⟨_,_,_,rfl⟩ hcl | simp only [Sem.runT,hx]
      rw [e w ho]
      obtain ⟨h1,h2,h3⟩:=ih S { w with heap:=w.heap.setIfInBounds r o } (es.push ⟨.obj r,true,o.isChan⟩) h.2.2 (hf.set r h.2.1)
      exact ⟨h1,h2,fun τ d ha=>by rw [e (rt w τ d) ho]; exact h3 τ d ha⟩
 | choose q k ih =>
   intro S w es h hf
   by_cases hq:q.forced=true
   ·have e:∀ x:World,(Sem.choose q k).runT P x es=(k 0).runT P x es:=fun x=>by simp only [Sem.runT,hq,if_true]
    rw [e]
    obtain ⟨h1,h2,h3⟩:=ih 0 S w es (h _) hf
    exact ⟨h1,h2,fun τ d ha=>by rw [e]; exact h3 τ d ha⟩
   ·have e:∀ x:World,(Sem.choose q k).runT P x es=(k (q.cut (x.tape x.drawn q))).runT P { x with drawn:=x.drawn+1 } es:=fun x=>by simp only [Sem.runT,hq,if_false,Bool.false_eq_true]
    rw [e]
    obtain ⟨h1,h2,h3⟩:=ih (q.cut (w.tape w.drawn q)) S { w with drawn:=w.drawn+1 } es (h _) hf
    have h2':w.drawn+1≤(rw' ((k (q.cut (w.tape w.drawn q))).runT P { w with drawn:=w.drawn+1 } es).1).drawn:=h2
    refine ⟨h1,by omega,fun τ d ha=>?_⟩
    have h0:τ d=w.tape w.drawn:=by have:=ha 0 (by omega); simpa using this
    rw [e]
    show RtR w.drawn d τ _ ((k (q.cut (τ d q))).runT P (rt { w with drawn:=w.drawn+1 } τ (d+1)) es)
    rw [h0]
    have h4:=h3 τ (d+1) (fun i hi=>by
     have:=ha (i+1) (by have:w.drawn+1+i < _:=hi; omega)
     rw [show d+1+i=d+(i+1) by omega,this]
     show w.tape (w.drawn+(i+1))=w.tape (w.drawn+1+i)
     congr 1; omega)
    have hle:∀ x:World,w.drawn+1≤x.drawn→d+1+(x.drawn - (w.drawn+1))=d+(x.drawn - w.drawn):=fun x hx=>by omega
    generalize ((k (q.cut (w.tape w.drawn q))).runT P { w with drawn:=w.drawn+1 } es)=r at h2' h4
    obtain ⟨r,es'⟩:=r
    cases r with
    | ok a x=>simp only [RtR] at h4 ⊢; rw [h4,hle x h2']
    | halt y x=>simp only [RtR] at h4 ⊢; rwa [hle x h2'] at h4
 | sys c k ih=>intro S w es h hf; exact h.elim
 | program k ih=>intro S w es h hf; exact ih P S w es h hf
 | mark m k ih =>
   intro S w es h hf
   obtain ⟨h1,h2,h3⟩:=ih S w (es.push ⟨.mark m,false,true⟩) h.2 hf
   exact ⟨h1,h2,fun τ d ha=>h3 τ d ha⟩
 | halt x=>intro S w es h hf; exact ⟨rfl,Nat.le_refl _,fun τ d _=>.inr (by simp [Sem.runT])⟩
end Go.Proofs.Ytimlbbleblijnaa.Co

namespace Go.Proofs.Ytimlbbleblijnaa.Co
open Go.Conc
def quietCode (P:Program) (F:FuncId→Bool):Code→Bool
 | .skip | .ret | .exit _ | .label _=>true
 | .region _ ops _=>ops.toList.all fun o=>quietOp P F o.op
 | .seq a b=>quietCode P F a && quietCode P F b
 | .cond _ a b=>quietCode P F a && quietCode P F b
 | .block _ c | .loop c | .scope c=>quietCode P F c
 | _=>false
def quietItem (P:Program) (F:FuncId→Bool):Item→Bool
 | .code c | .inLoop c | .inScope c=>quietCode P F c
 | .inBlock _=>true
 | .inRegion ops _=>ops.toList.all fun o=>quietOp P F o.op
 | _=>false
structure Closed (P:Program) (F:FuncId→Bool):Prop where
 good:∀ f,F f=true→GoodF P f
 body:∀ f fn c,F f=true→P.funcs[f]?=some fn→fn.body=some c→quietCode P F c=true
structure QF (P:Program) (F:FuncId→Bool) (fr:Frame):Prop where
 defers:fr.defers=[]
 kind:fr.kind=.normal
 round:fr.roundOf=none
 todo:∀ it ∈ fr.todo,quietItem P F it=true
structure QC (P:Program) (F:FuncId→Bool) (fr:Frame):Prop extends QF P F fr where
 mode:fr.mode=.run
 busy:fr.todo≠[]
def extFr (k:List Item) (fr:Frame):Frame:={ fr with todo:=fr.todo ++ k }
def extFs (k:List Item) (base:List Frame):List Frame→List Frame
 | []=>base
 | [b]=>extFr k b :: base
 | f :: g :: fs=>f :: extFs k base (g :: fs)
def Gx (k:List Item) (base:List Frame) (f:Frame):List Frame→Goroutine
 | []=>G (extFr k f) base
 | g :: fs=>G f (extFs k base (g :: fs))
def EvN (D:Nat→Option Nat) (n:Nat) (e:Event):Prop:=EvV D n e∧∀ f,e.loc≠.mark (.extern f)
theorem EvN.mono {D:Nat→Option Nat} {n n':Nat} {e:Event} (h:EvN D n e) (hn:n≤n'):EvN D n' e:=⟨h.1.mono hn,h.2⟩
theorem seen_ev {P:Program} {D:Nat→Option Nat} {n:Nat} {fn:FuncId} {es:Array Event} (h:∀ e ∈ es,EvV D n e):∀ e ∈ seen P fn es,EvN D n e:=by
 have key:∀ (l:List Event) (q:Bool) (kept:Array Event),(∀ e ∈ l,EvV D n e)→(∀ e ∈ kept,EvN D n e) →
   ∀ e ∈ (l.foldl (fun (x:Bool × Array Event) e=>match e.loc with
    | .mark (.extern f)=>((P.funcs[f]?).any (·.norace),x.2)
    | _=>(x.1,if x.1 && !e.sync then x.2 else x.2.push e)) (q,kept)).2,EvN D n e:=by
  intro l
  induction l with
  | nil=>intro q kept _ hk e he; exact hk e he
  | cons a l ih =>
    intro q kept hl hk
    simp only [List.foldl_cons]
    have ha:=hl a (List.mem_cons_self ..)
    have hl':=fun e he=>hl e (List.mem_cons_of_mem _ he)
    by_cases hx:∃ f,a.loc=.mark (.extern f)
    ·obtain ⟨f,hf⟩:=hx
     rw [hf]
     exact ih _ _ hl' hk
    ·have hstep : (match a.loc with
       | .mark (.extern f)=>((P.funcs[f]?).any (·.norace),kept)
       | _=>(q,if q && !a.sync then kept else kept.push a))=(q,if q && !a.sync then kept else kept.push a):=by
      split
      ·rename_i f hf; exact absurd ⟨f,hf⟩ hx
      ·rfl
     rw [hstep]
     refine ih _ _ hl' ?_
     split
     ·exact hk
     ·intro e he
      rcases Array.mem_push.1 he with he | rfl
      ·exact hk e he
      ·exact ⟨ha,fun f hf=>hx ⟨f,hf⟩⟩
 intro e he
 dsimp only [seen] at he
 rw [← Array.foldl_toList] at he
 exact key es.toList _ _ (fun e he=>h e (Array.mem_toList_iff.1 he)) (fun e he=>by simp at he) e he
def StepR (P:Program) (F:FuncId→Bool) (D:Nat→Option Nat) (w:World) (f:Frame) (fs:List Frame) (s:GStep):Prop :=
 match s with
 | .go g' v' _=>∃ f' fs',g'=G f' fs'∧QF P F f'∧(∀ c ∈ fs',QC P F c)∧(∃ w',v'=vw D w'∧Keeps D w w'∧Fair (vw D w') ∧
   ∃ es',(∀ e ∈ es',EvN D w'.heap.size e)∧∀ (k:List Item) (base:List Frame) (main:Bool),stepG P main (Gx k base f fs) w=.go (Gx k base f' fs') w' es') ∧
   v'.tape=w.tape∧w.drawn≤v'.drawn∧∀ τ d,Agree (vw D w) v' τ d→∃ es,stepG P true (G f fs) (rt (vw D w) τ d)=.go (G f' fs') (rt v' τ (d+(v'.drawn - w.drawn))) es
 | .ended ..=>∃ v':World,w.drawn≤v'.drawn∧∀ τ d,Agree (vw D w) v' τ d→∃ o x es,stepG P true (G f fs) (rt (vw D w) τ d)=.ended o x es
 | _=>False
section
variable {P:Program} {F:FuncId→Bool} {D:Nat→Option Nat} {w:World}
theorem StepR.ctl {f f':Frame} {fs:List Frame} (hf':QF P F f') (hfs:∀ c ∈ fs,QC P F c) (hfair:Fair (vw D w)) (h:∀ main cs x,stepG P main (G f cs) x=.go (G f' cs) x)
  (hx:∀ (k:List Item) main cs,stepG P main (G (extFr k f) cs) w=.go (G (extFr k f') cs) w):StepR P F D w f fs (stepG P true (G f fs) (vw D w)):=by
 rw [h]
 refine ⟨f',fs,rfl,hf',hfs,⟨w,rfl,Keeps.refl _ _,hfair,#[],fun e he=>by simp at he,fun k base main=>?_⟩,rfl,Nat.le_refl _,fun τ d _=>⟨#[],?_⟩⟩
 ·cases fs with
  | nil=>exact hx k main base
  | cons g fs=>exact h main _ w
 ·rw [h]
  simp
theorem StepR.ends {f:Frame} {fs:List Frame} (h:∀ x,∃ a b c,stepG P true (G f fs) x=.ended a b c):StepR P F D w f fs (stepG P true (G f fs) (vw D w)):=by
 obtain ⟨a,b,c,e⟩:=h (vw D w)
 rw [e]
 exact ⟨vw D w,Nat.le_refl _,fun τ d _=>h _⟩
theorem QF.step {f:Frame} {t:List Item} (h:QF P F f) (ht:∀ it ∈ t,quietItem P F it=true):QF P F { f with todo:=t }:=⟨h.defers,h.kind,h.round,ht⟩
theorem exitTo_app {id:Nat}:∀ {t t' k:List Item},exitTo id t=some t'→exitTo id (t ++ k)=some (t' ++ k)
 | [],_,_,h=>by cases h
 | .inBlock id' :: t,t',k,h=>by
   simp only [exitTo,List.cons_append] at h ⊢
   split at h
   ·rename_i e; rw [if_pos e]; cases h; rfl
   ·rename_i e; rw [if_neg e]; exact exitTo_app h
 | .code c :: t,t',k,h=>by simp only [exitTo,List.cons_append] at h ⊢; exact exitTo_app h
 | .inLoop c :: t,t',k,h=>by simp only [exitTo,List.cons_append] at h ⊢; exact exitTo_app h
 | .inScope c :: t,t',k,h=>by simp only [exitTo,List.cons_append] at h ⊢; exact exitTo_app h
 | .inRegion o l :: t,t',k,h=>by simp only [exitTo,List.cons_append] at h ⊢; exact exitTo_app h
 | .inRangeFunc o :: t,t',k,h=>by simp only [exitTo,List.cons_append] at h ⊢; exact exitTo_app h
 | .endRangeFunc o :: t,t',k,h=>by simp only [exitTo,List.cons_append] at h ⊢; exact exitTo_app h
 | .beginRound :: t,t',k,h=>by simp only [exitTo,List.cons_append] at h ⊢; exact exitTo_app h
 | .call a b c d :: t,t',k,h=>by simp only [exitTo,List.cons_append] at h ⊢; exact exitTo_app h
 | .extern a b :: t,t',k,h=>by simp only [exitTo,List.cons_append] at h ⊢; exact exitTo_app h
theorem exitTo_mem {id:Nat}:∀ {t t':List Item},exitTo id t=some t'→∀ it ∈ t',it ∈ t
 | [],_,h=>by cases h
 | .inBlock id' :: t,t',h=>by
   simp only [exitTo] at h
   split at h
   ·cases h; exact fun it hi=>List.mem_cons_of_mem _ hi
   ·exact fun it hi=>List.mem_cons_of_mem _ (exitTo_mem h it hi)
 | .code c :: t,t',h=>by simp only [exitTo] at h; exact fun it hi=>List.mem_cons_of_mem _ (exitTo_mem h it hi)
 | .inLoop c :: t,t',h=>by simp only [exitTo] at h; exact fun it hi=>List.mem_cons_of_mem _ (exitTo_mem h it hi)
 | .inScope c :: t,t',h=>by simp only [exitTo] at h; exact fun it hi=>List.mem_cons_of_mem _ (exitTo_mem h it hi)
 | .inRegion o l :: t,t',h=>by simp only [exitTo] at h; exact fun it hi=>List.mem_cons_of_mem _ (exitTo_mem h it hi)
 | .inRangeFunc o :: t,t',h=>by simp only [exitTo] at h; exact fun it hi=>List.mem_cons_of_mem _ (exitTo_mem h it hi)
 | .endRangeFunc o :: t,t',h=>by simp only [exitTo] at h; exact fun it hi=>List.mem_cons_of_mem _ (exitTo_mem h it hi)
 | .beginRound :: t,t',h=>by simp only [exitTo] at h; exact fun it hi=>List.mem_cons_of_mem _ (exitTo_mem h it hi)
 | .call a b c d :: t,t',h=>by simp only [exitTo] at h; exact fun it hi=>List.mem_cons_of_mem _ (exitTo_mem h it hi)
 | .extern a b :: t,t',h=>by simp only [exitTo] at h; exact fun it hi=>List.mem_cons_of_mem _ (exitTo_mem h it hi)
theorem stepG_run {fr:Frame} {cs:List Frame} (hm:fr.mode=.run) (main:Bool) (x:World):stepG P main (G fr cs) x=stepG.exec P main true fr cs none x:=by
 unfold stepG G
 simp only [hm]
end
end Go.Proofs.Ytimlbbleblijnaa.Co
