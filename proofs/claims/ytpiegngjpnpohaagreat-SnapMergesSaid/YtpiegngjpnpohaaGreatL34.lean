/- Lemmas for the laws of this seat, laid together of SnM. -/
import Derived.Test.YtpiegngjpnpohaaGreatL24

namespace Go.Proofs.YtpiegngjpnpohaaGreat.Sn
open Go.RowKit Go.Proofs.YtpiegngjpnpohaaGreat.La Go.Proofs.YtpiegngjpnpohaaGreat.Sl Go.Proofs.YtpiegngjpnpohaaGreat.Ck Go.Proofs.YtpiegngjpnpohaaGreat.Rc Go.Proofs.YtpiegngjpnpohaaGreat.Rk Go.Proofs.YtpiegngjpnpohaaGreat.Wi Go.Proofs.YtpiegngjpnpohaaGreat.Fb Go.Proofs.YtpiegngjpnpohaaGreat.Mg Go.Proofs.YtpiegngjpnpohaaGreat.St
set_option linter.unusedVariables false
def zcells : List Value := [.int .i64 0, .string ⟨#[]⟩, .string ⟨#[]⟩, .slice none 0 0, .int .i64 0, .int .u64 0, .slice none 0 0, .int .u64 0, .float .f64 0, .float .f64 0, .float .f64 0]
structure TwoSt (w wx : World) (x y : Vv) (A : Option Addr) (c B2 : Nat) (sm mn mx : Nat) : Prop where
  k1 : Blk wx w.heap.size x.row
  k2 : Blk wx (w.heap.size + 1) y.row
  k3 : Blk wx (w.heap.size + 1 + 1) zcells
  k6 : Blk wx (w.heap.size + 1 + 1 + 1) [.int .i64 x.d.kind, .string x.d.name, .string x.d.help, .slice x.d.A x.d.l.length x.d.c, .int .i64 (hiI (x.t + y.t)), .int .u64 (loI (x.t + y.t)), .slice A (mrg (x.cs ++ y.cs)).length c, .int .u64 (x.n + y.n), .float .f64 sm, .float .f64 mn, .float .f64 mx]
  own : wx.ownsRow B2 54 2 (.slice A (mrg (x.cs ++ y.cs)).length c) (mrg (x.cs ++ y.cs)).length (flat (mrg (x.cs ++ y.cs)))
  base : w.heap.size + 1 + 1 + 1 < B2
  below : Below w.heap.size w wx
theorem TwoSt.later {w wx w' : World} {x y : Vv} {A : Option Addr} {c B2 sm mn mx : Nat} (h : TwoSt w wx x y A c B2 sm mn mx) (hb : Below wx.heap.size wx w') : TwoSt w w' x y A c B2 sm mn mx :=
  ⟨h.k1.later hb, h.k2.later hb, h.k3.later hb, h.k6.later hb, own_later h.own hb, h.base, h.below.trans (hb.mono h.below.size)⟩
theorem TwoSt.set {w wx : World} {x y : Vv} {A : Option Addr} {c B2 sm mn mx : Nat} (h : TwoSt w wx x y A c B2 sm mn mx) (i : Nat) (v : Value) (sm' mn' mx' : Nat)
    (he : ([.int .i64 x.d.kind, .string x.d.name, .string x.d.help, .slice x.d.A x.d.l.length x.d.c, .int .i64 (hiI (x.t + y.t)), .int .u64 (loI (x.t + y.t)), .slice A (mrg (x.cs ++ y.cs)).length c, .int .u64 (x.n + y.n), .float .f64 sm, .float .f64 mn, .float .f64 mx] : List Value).set i v = [.int .i64 x.d.kind, .string x.d.name, .string x.d.help, .slice x.d.A x.d.l.length x.d.c, .int .i64 (hiI (x.t + y.t)), .int .u64 (loI (x.t + y.t)), .slice A (mrg (x.cs ++ y.cs)).length c, .int .u64 (x.n + y.n), .float .f64 sm', .float .f64 mn', .float .f64 mx'])
    (hi : i < 11) : TwoSt w (wx.setCell ⟨w.heap.size + 1 + 1 + 1, i, none⟩ v) x y A c B2 sm' mn' mx' := by
  have hs := h.k6.1
  refine ⟨h.k1.other (by omega) _, h.k2.other (by omega) _, h.k3.other (by omega) _, ?_, own_set h.own h.base _, h.base, ?_⟩
  · have q := h.k6.set i v (by simpa using hi)
    rw [he] at q
    exact q
  · have := h.below
    go_grown
theorem TwoSt.s8 {w wx : World} {x y : Vv} {A : Option Addr} {c B2 sm mn mx : Nat} (h : TwoSt w wx x y A c B2 sm mn mx) (s : Nat) : TwoSt w (wx.setCell ⟨w.heap.size + 1 + 1 + 1, 8, none⟩ (.float .f64 s)) x y A c B2 s mn mx := h.set 8 _ _ _ _ rfl (by decide)
theorem TwoSt.s9 {w wx : World} {x y : Vv} {A : Option Addr} {c B2 sm mn mx : Nat} (h : TwoSt w wx x y A c B2 sm mn mx) (s : Nat) : TwoSt w (wx.setCell ⟨w.heap.size + 1 + 1 + 1, 9, none⟩ (.float .f64 s)) x y A c B2 sm s mx := h.set 9 _ _ _ _ rfl (by decide)
theorem TwoSt.s10 {w wx : World} {x y : Vv} {A : Option Addr} {c B2 sm mn mx : Nat} (h : TwoSt w wx x y A c B2 sm mn mx) (s : Nat) : TwoSt w (wx.setCell ⟨w.heap.size + 1 + 1 + 1, 10, none⟩ (.float .f64 s)) x y A c B2 sm mn s := h.set 10 _ _ _ _ rfl (by decide)
theorem TwoSt.drew {w wx : World} {x y : Vv} {A : Option Addr} {c B2 sm mn mx : Nat} (h : TwoSt w wx x y A c B2 sm mn mx) (n : Nat) : TwoSt w (wx.drewN n) x y A c B2 sm mn mx := h.later (below_drewN (Below.refl _ _) n)
structure TwoOut (w w' : World) (x y v' : Vv) : Prop where
  c : v'.c = twoC x.c y.c
  d : v'.d.A = x.d.A ∧ v'.d.l = x.d.l ∧ v'.d.c = x.d.c
  plain : PlainV v'
  own : ∃ c0, w'.ownsRow w.heap.size 54 2 (.slice v'.CA v'.cs.length c0) v'.cs.length (flat v'.cs)
theorem TwoSt.fin {w wx wf : World} {x y : Vv} {A : Option Addr} {c B2 sm mn mx : Nat} (h : TwoSt w wx x y A c B2 sm mn mx) (hx : VAt x w w.heap.size) (hy : VAt y w w.heap.size) (ox : OkV x) (oy : OkV y)
    (hbig : ¬ (170141183460469231731687303715884105727 < x.t + y.t ∨ 9223372036854775807 < x.n + y.n)) (hflo : flo x.c y.c = (sm, mn, mx)) (hsm : okF sm) (hmn : okF mn) (hmx : okF mx)
    (ho : wf.ownsRow B2 54 2 (.slice A (mrg (x.cs ++ y.cs)).length c) (mrg (x.cs ++ y.cs)).length (flat (mrg (x.cs ++ y.cs)))) :
    TwoOut w wf x y ⟨x.d, x.t + y.t, A, c, mrg (x.cs ++ y.cs), x.n + y.n, sm, mn, mx⟩ := by
  have px := hx.plain
  have ht := ox.t
  have ht2 := oy.t
  have hn := ox.n
  have hn2 := oy.n
  have hbs := h.base
  obtain ⟨A2, c2, e, h1, h2, _⟩ := own_form ho
  cases e
  refine ⟨?_, ⟨rfl, rfl, rfl⟩, ⟨px.cap, px.len, px.len2, px.name, px.help, px.texts, px.kind, mrg_ok fun z hz => (List.mem_append.1 hz).elim (hx.cs.ok z) (hy.cs.ok z), h1, Nat.le_trans h2 (by decide), by unfold In; dsimp only; omega, by dsimp only; omega, hsm, hmn, hmx⟩, c, own_base ho (by omega)⟩
  unfold twoC
  rw [hflo]
  rfl
end Go.Proofs.YtpiegngjpnpohaaGreat.Sn
