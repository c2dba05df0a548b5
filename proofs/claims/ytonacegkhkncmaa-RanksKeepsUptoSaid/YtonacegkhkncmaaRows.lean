/-
  No cell of these rows narrows 'for every input' (looked for: loops, veiled, ifaces, maps, wideKeys, modest, calm, conditions, laid).
  DERIVED. THE GIVEN ROWS OF THIS SEAT. 9 by the template 'for every input the law returns true; each argument reads behind the call as it read before'; 0 by the template 'total and deterministic' (their statements: YtonacegkhkncmaaTotals.lean).
  GIVEN WITH THE SEED: the statements are not yours to turn. If you find one false, say at which input.
  Laid BY PROGRAM, IN A SANDBOX (cutbox-rows.mjs): the forced cells as the released guide's own fill.sh prints them over the translation cec1f35da523976f… (all of the seat's roots in one cut). By AI agents, Wed Nov 11 2026. No macro, syntax, notation, axiom, sorry.
-/
import Derived.Test.YtonacegkhkncmaaChecked
import GoSem.Claim
import GoSem.ClaimJoined
import GoSem.ClaimMapViews
import Derived.JoinedTies
import Derived.KernelRfl
namespace Go.Proofs.Ytonacegkhkncmaa
/- THE CELL 'sum', in the pinned program and in every row, IS THE sha256 OF THE DUMP (.gsa) THAT YtonacegkhkncmaaProg.lean LOADS. Nothing in Lean hashes anything: it is a label: what it is worth is what the hold of that sum in a sandbox is worth. -/
noncomputable def Try.pinned : Pinned := { name := "ytonacegkhkncmaa", sum := "cec1f35da523976f878637845943f8d139578d8c2190560737c56312266bfc1d", checked := Try.checked }
namespace Rows
def none {H : Type} : Left H := { results := [], args := [] }

/-- 'gnomonlaw04.BucketNames': WHATEVER THE INPUT: true; the input reads as it did. -/
def bucketNamesSpec : ChangeSpec := { name := "bucketNames", fn := fun _ => fun
  | [] => { results := [.lit (.bool true)], args := [] }
  | _ => none }
def bucketNamesRow : OpenClaim := { program := "ytonacegkhkncmaa", sum := "cec1f35da523976f878637845943f8d139578d8c2190560737c56312266bfc1d", func := "gnomon/gnomonlaw04.BucketNames", spec := "bucketNames", apart := false }
def BucketNamesSaid : Prop := bucketNamesRow.holds Try.pinned (OpenSpec.ofChange bucketNamesSpec)

/-- ITS FALSE NEIGHBOUR: 'it returns false'. Refute it at one input. -/
def bucketNamesWrong : ChangeSpec := { name := "bucketNames", fn := fun _ => fun
  | [] => { results := [.lit (.bool false)], args := [] }
  | _ => none }
def BucketNamesWrongFalsely : Prop := bucketNamesRow.holds Try.pinned (OpenSpec.ofChange bucketNamesWrong)

/-- 'gnomonlaw04.BucketTells': WHATEVER THE INPUT: true; the input reads as it did. -/
def bucketTellsSpec : ChangeSpec := { name := "bucketTells", fn := fun _ => fun
  | [d1, d2, d3] => { results := [.lit (.bool true)], args := [d1, d2, d3] }
  | _ => none }
def bucketTellsRow : OpenClaim := { program := "ytonacegkhkncmaa", sum := "cec1f35da523976f878637845943f8d139578d8c2190560737c56312266bfc1d", func := "gnomon/gnomonlaw04.BucketTells", spec := "bucketTells", apart := false }
def BucketTellsSaid : Prop := bucketTellsRow.holds Try.pinned (OpenSpec.ofChange bucketTellsSpec)

/-- ITS FALSE NEIGHBOUR: 'it returns false'. Refute it at one input. -/
def bucketTellsWrong : ChangeSpec := { name := "bucketTells", fn := fun _ => fun
  | [d1, d2, d3] => { results := [.lit (.bool false)], args := [d1, d2, d3] }
  | _ => none }
def BucketTellsWrongFalsely : Prop := bucketTellsRow.holds Try.pinned (OpenSpec.ofChange bucketTellsWrong)

/-- 'gnomonlaw04.BucketHolds': WHATEVER THE INPUT: true; the input reads as it did. -/
def bucketHoldsSpec : ChangeSpec := { name := "bucketHolds", fn := fun _ => fun
  | [d1, d2, d3] => { results := [.lit (.bool true)], args := [d1, d2, d3] }
  | _ => none }
def bucketHoldsRow : OpenClaim := { program := "ytonacegkhkncmaa", sum := "cec1f35da523976f878637845943f8d139578d8c2190560737c56312266bfc1d", func := "gnomon/gnomonlaw04.BucketHolds", spec := "bucketHolds", apart := false }
def BucketHoldsSaid : Prop := bucketHoldsRow.holds Try.pinned (OpenSpec.ofChange bucketHoldsSpec)

/-- ITS FALSE NEIGHBOUR: 'it returns false'. Refute it at one input. -/
def bucketHoldsWrong : ChangeSpec := { name := "bucketHolds", fn := fun _ => fun
  | [d1, d2, d3] => { results := [.lit (.bool false)], args := [d1, d2, d3] }
  | _ => none }
def BucketHoldsWrongFalsely : Prop := bucketHoldsRow.holds Try.pinned (OpenSpec.ofChange bucketHoldsWrong)

/-- 'gnomonlaw04.BucketRow': WHATEVER THE INPUT: true; the input reads as it did. -/
def bucketRowSpec : ChangeSpec := { name := "bucketRow", fn := fun _ => fun
  | [d1, d2] => { results := [.lit (.bool true)], args := [d1, d2] }
  | _ => none }
def bucketRowRow : OpenClaim := { program := "ytonacegkhkncmaa", sum := "cec1f35da523976f878637845943f8d139578d8c2190560737c56312266bfc1d", func := "gnomon/gnomonlaw04.BucketRow", spec := "bucketRow", apart := false }
def BucketRowSaid : Prop := bucketRowRow.holds Try.pinned (OpenSpec.ofChange bucketRowSpec)

/-- ITS FALSE NEIGHBOUR: 'it returns false'. Refute it at one input. -/
def bucketRowWrong : ChangeSpec := { name := "bucketRow", fn := fun _ => fun
  | [d1, d2] => { results := [.lit (.bool false)], args := [d1, d2] }
  | _ => none }
def BucketRowWrongFalsely : Prop := bucketRowRow.holds Try.pinned (OpenSpec.ofChange bucketRowWrong)

/-- 'gnomonlaw05.RanksNames': WHATEVER THE INPUT: true; the input reads as it did. -/
def ranksNamesSpec : ChangeSpec := { name := "ranksNames", fn := fun _ => fun
  | [] => { results := [.lit (.bool true)], args := [] }
  | _ => none }
def ranksNamesRow : OpenClaim := { program := "ytonacegkhkncmaa", sum := "cec1f35da523976f878637845943f8d139578d8c2190560737c56312266bfc1d", func := "gnomon/gnomonlaw05.RanksNames", spec := "ranksNames", unfollowed := true, recurses := true, named := ["math/bits.divideError", "math/bits.overflowError"], apart := false }
def RanksNamesSaid : Prop := ranksNamesRow.holds Try.pinned (OpenSpec.ofChange ranksNamesSpec)

/-- ITS FALSE NEIGHBOUR: 'it returns false'. Refute it at one input. -/
def ranksNamesWrong : ChangeSpec := { name := "ranksNames", fn := fun _ => fun
  | [] => { results := [.lit (.bool false)], args := [] }
  | _ => none }
def RanksNamesWrongFalsely : Prop := ranksNamesRow.holds Try.pinned (OpenSpec.ofChange ranksNamesWrong)

/-- 'gnomonlaw05.RanksQuantiles': WHATEVER THE INPUT: true; the input reads as it did. -/
def ranksQuantilesSpec : ChangeSpec := { name := "ranksQuantiles", fn := fun _ => fun
  | [d] => { results := [.lit (.bool true)], args := [d] }
  | _ => none }
def ranksQuantilesRow : OpenClaim := { program := "ytonacegkhkncmaa", sum := "cec1f35da523976f878637845943f8d139578d8c2190560737c56312266bfc1d", func := "gnomon/gnomonlaw05.RanksQuantiles", spec := "ranksQuantiles", unfollowed := true, recurses := true, named := ["math/bits.divideError", "math/bits.overflowError"], apart := false }
def RanksQuantilesSaid : Prop := ranksQuantilesRow.holds Try.pinned (OpenSpec.ofChange ranksQuantilesSpec)

/-- ITS FALSE NEIGHBOUR: 'it returns false'. Refute it at one input. -/
def ranksQuantilesWrong : ChangeSpec := { name := "ranksQuantiles", fn := fun _ => fun
  | [d] => { results := [.lit (.bool false)], args := [d] }
  | _ => none }
def RanksQuantilesWrongFalsely : Prop := ranksQuantilesRow.holds Try.pinned (OpenSpec.ofChange ranksQuantilesWrong)

/-- 'gnomonlaw05.RanksDoes': WHATEVER THE INPUT: true; the input reads as it did. -/
def ranksDoesSpec : ChangeSpec := { name := "ranksDoes", fn := fun _ => fun
  | [d] => { results := [.lit (.bool true)], args := [d] }
  | _ => none }
def ranksDoesRow : OpenClaim := { program := "ytonacegkhkncmaa", sum := "cec1f35da523976f878637845943f8d139578d8c2190560737c56312266bfc1d", func := "gnomon/gnomonlaw05.RanksDoes", spec := "ranksDoes", unfollowed := true, recurses := true, named := ["math/bits.divideError", "math/bits.overflowError"], apart := false }
def RanksDoesSaid : Prop := ranksDoesRow.holds Try.pinned (OpenSpec.ofChange ranksDoesSpec)

/-- ITS FALSE NEIGHBOUR: 'it returns false'. Refute it at one input. -/
def ranksDoesWrong : ChangeSpec := { name := "ranksDoes", fn := fun _ => fun
  | [d] => { results := [.lit (.bool false)], args := [d] }
  | _ => none }
def RanksDoesWrongFalsely : Prop := ranksDoesRow.holds Try.pinned (OpenSpec.ofChange ranksDoesWrong)

/-- 'gnomonlaw05.RanksMerges': WHATEVER THE INPUT: true; the input reads as it did. -/
def ranksMergesSpec : ChangeSpec := { name := "ranksMerges", fn := fun _ => fun
  | [d] => { results := [.lit (.bool true)], args := [d] }
  | _ => none }
def ranksMergesRow : OpenClaim := { program := "ytonacegkhkncmaa", sum := "cec1f35da523976f878637845943f8d139578d8c2190560737c56312266bfc1d", func := "gnomon/gnomonlaw05.RanksMerges", spec := "ranksMerges", unfollowed := true, recurses := true, named := ["math/bits.divideError", "math/bits.overflowError"], apart := false }
def RanksMergesSaid : Prop := ranksMergesRow.holds Try.pinned (OpenSpec.ofChange ranksMergesSpec)

/-- ITS FALSE NEIGHBOUR: 'it returns false'. Refute it at one input. -/
def ranksMergesWrong : ChangeSpec := { name := "ranksMerges", fn := fun _ => fun
  | [d] => { results := [.lit (.bool false)], args := [d] }
  | _ => none }
def RanksMergesWrongFalsely : Prop := ranksMergesRow.holds Try.pinned (OpenSpec.ofChange ranksMergesWrong)

/-- 'gnomonlaw05.RanksKeeps': WHATEVER THE INPUT: true; the input reads as it did. -/
def ranksKeepsSpec : ChangeSpec := { name := "ranksKeeps", fn := fun _ => fun
  | [d1, d2] => { results := [.lit (.bool true)], args := [d1, d2] }
  | _ => none }
def ranksKeepsRow : OpenClaim := { program := "ytonacegkhkncmaa", sum := "cec1f35da523976f878637845943f8d139578d8c2190560737c56312266bfc1d", func := "gnomon/gnomonlaw05.RanksKeeps", spec := "ranksKeeps", unfollowed := true, recurses := true, named := ["math/bits.divideError", "math/bits.overflowError"], apart := false }
def RanksKeepsSaid : Prop := ranksKeepsRow.holds Try.pinned (OpenSpec.ofChange ranksKeepsSpec)

/-- ITS FALSE NEIGHBOUR: 'it returns false'. Refute it at one input. -/
def ranksKeepsWrong : ChangeSpec := { name := "ranksKeeps", fn := fun _ => fun
  | [d1, d2] => { results := [.lit (.bool false)], args := [d1, d2] }
  | _ => none }
def RanksKeepsWrongFalsely : Prop := ranksKeepsRow.holds Try.pinned (OpenSpec.ofChange ranksKeepsWrong)

/- THE SECOND FORM. 'bulk': how many values and letters a reading holds, each counted each time it is reached (what is shared counts as often as it is met; a slice's spare places count too). A statement '..UptoSaid' is the law's where the arguments, and the package variables that the reading takes, are together of bulk at most 1048576: NARROWER than '..Said'. Prove '..Said' where nothing that the law and all that it calls make is longer than what came in: it says more and counts as full. Else prove '..UptoSaid'. A law counts once. -/
mutual
def uptoBulk {H : Type} : DataW H → Nat
  | .lit (.string bytes) => bytes.length + 1
  | .lit _ => 1
  | .nil => 1
  | .ptr d => uptoBulk d + 1
  | .slice elems spare => uptoBulkAll elems + uptoBulkAll spare + 1
  | .agg parts => uptoBulkAll parts + 1
  | .iface _ d => uptoBulk d + 1
  | .map entries => uptoBulkEntries entries + 1
  | .held _ => 1
def uptoBulkAll {H : Type} : List (DataW H) → Nat
  | [] => 0
  | d :: r => uptoBulk d + uptoBulkAll r
def uptoBulkEntries {H : Type} : List (Lit × DataW H) → Nat
  | [] => 0
  | x :: r => uptoBulkEntry x + uptoBulkEntries r
def uptoBulkEntry {H : Type} : Lit × DataW H → Nat
  | (.string bytes, d) => bytes.length + uptoBulk d + 1
  | (_, d) => uptoBulk d + 1
 end
def uptoSmall : (H : Type) → List (DataW H) → Bool := fun _ ds => decide (uptoBulkAll ds ≤ 1048576)
def OpenSpec.upto (s : _root_.Go.ChangeSpec) : _root_.Go.OpenSpec := { _root_.Go.OpenSpec.ofChange s with cond := some uptoSmall }

/-- 'gnomonlaw04.BucketNames', WHERE WHAT IT READS IS OF BULK AT MOST 1048576: true; the input reads as it did. -/
def bucketNamesUptoRow : OpenClaim := { program := "ytonacegkhkncmaa", sum := "cec1f35da523976f878637845943f8d139578d8c2190560737c56312266bfc1d", func := "gnomon/gnomonlaw04.BucketNames", spec := "bucketNames", apart := false, narrowed := true }
def BucketNamesUptoSaid : Prop := bucketNamesUptoRow.holds Try.pinned (OpenSpec.upto bucketNamesSpec)

/-- 'gnomonlaw04.BucketTells', WHERE WHAT IT READS IS OF BULK AT MOST 1048576: true; the input reads as it did. -/
def bucketTellsUptoRow : OpenClaim := { program := "ytonacegkhkncmaa", sum := "cec1f35da523976f878637845943f8d139578d8c2190560737c56312266bfc1d", func := "gnomon/gnomonlaw04.BucketTells", spec := "bucketTells", apart := false, narrowed := true }
def BucketTellsUptoSaid : Prop := bucketTellsUptoRow.holds Try.pinned (OpenSpec.upto bucketTellsSpec)

/-- 'gnomonlaw04.BucketHolds', WHERE WHAT IT READS IS OF BULK AT MOST 1048576: true; the input reads as it did. -/
def bucketHoldsUptoRow : OpenClaim := { program := "ytonacegkhkncmaa", sum := "cec1f35da523976f878637845943f8d139578d8c2190560737c56312266bfc1d", func := "gnomon/gnomonlaw04.BucketHolds", spec := "bucketHolds", apart := false, narrowed := true }
def BucketHoldsUptoSaid : Prop := bucketHoldsUptoRow.holds Try.pinned (OpenSpec.upto bucketHoldsSpec)

/-- 'gnomonlaw04.BucketRow', WHERE WHAT IT READS IS OF BULK AT MOST 1048576: true; the input reads as it did. -/
def bucketRowUptoRow : OpenClaim := { program := "ytonacegkhkncmaa", sum := "cec1f35da523976f878637845943f8d139578d8c2190560737c56312266bfc1d", func := "gnomon/gnomonlaw04.BucketRow", spec := "bucketRow", apart := false, narrowed := true }
def BucketRowUptoSaid : Prop := bucketRowUptoRow.holds Try.pinned (OpenSpec.upto bucketRowSpec)

/-- 'gnomonlaw05.RanksNames', WHERE WHAT IT READS IS OF BULK AT MOST 1048576: true; the input reads as it did. -/
def ranksNamesUptoRow : OpenClaim := { program := "ytonacegkhkncmaa", sum := "cec1f35da523976f878637845943f8d139578d8c2190560737c56312266bfc1d", func := "gnomon/gnomonlaw05.RanksNames", spec := "ranksNames", unfollowed := true, recurses := true, named := ["math/bits.divideError", "math/bits.overflowError"], apart := false, narrowed := true }
def RanksNamesUptoSaid : Prop := ranksNamesUptoRow.holds Try.pinned (OpenSpec.upto ranksNamesSpec)

/-- 'gnomonlaw05.RanksQuantiles', WHERE WHAT IT READS IS OF BULK AT MOST 1048576: true; the input reads as it did. -/
def ranksQuantilesUptoRow : OpenClaim := { program := "ytonacegkhkncmaa", sum := "cec1f35da523976f878637845943f8d139578d8c2190560737c56312266bfc1d", func := "gnomon/gnomonlaw05.RanksQuantiles", spec := "ranksQuantiles", unfollowed := true, recurses := true, named := ["math/bits.divideError", "math/bits.overflowError"], apart := false, narrowed := true }
def RanksQuantilesUptoSaid : Prop := ranksQuantilesUptoRow.holds Try.pinned (OpenSpec.upto ranksQuantilesSpec)

/-- 'gnomonlaw05.RanksDoes', WHERE WHAT IT READS IS OF BULK AT MOST 1048576: true; the input reads as it did. -/
def ranksDoesUptoRow : OpenClaim := { program := "ytonacegkhkncmaa", sum := "cec1f35da523976f878637845943f8d139578d8c2190560737c56312266bfc1d", func := "gnomon/gnomonlaw05.RanksDoes", spec := "ranksDoes", unfollowed := true, recurses := true, named := ["math/bits.divideError", "math/bits.overflowError"], apart := false, narrowed := true }
def RanksDoesUptoSaid : Prop := ranksDoesUptoRow.holds Try.pinned (OpenSpec.upto ranksDoesSpec)

/-- 'gnomonlaw05.RanksMerges', WHERE WHAT IT READS IS OF BULK AT MOST 1048576: true; the input reads as it did. -/
def ranksMergesUptoRow : OpenClaim := { program := "ytonacegkhkncmaa", sum := "cec1f35da523976f878637845943f8d139578d8c2190560737c56312266bfc1d", func := "gnomon/gnomonlaw05.RanksMerges", spec := "ranksMerges", unfollowed := true, recurses := true, named := ["math/bits.divideError", "math/bits.overflowError"], apart := false, narrowed := true }
def RanksMergesUptoSaid : Prop := ranksMergesUptoRow.holds Try.pinned (OpenSpec.upto ranksMergesSpec)

/-- 'gnomonlaw05.RanksKeeps', WHERE WHAT IT READS IS OF BULK AT MOST 1048576: true; the input reads as it did. -/
def ranksKeepsUptoRow : OpenClaim := { program := "ytonacegkhkncmaa", sum := "cec1f35da523976f878637845943f8d139578d8c2190560737c56312266bfc1d", func := "gnomon/gnomonlaw05.RanksKeeps", spec := "ranksKeeps", unfollowed := true, recurses := true, named := ["math/bits.divideError", "math/bits.overflowError"], apart := false, narrowed := true }
def RanksKeepsUptoSaid : Prop := ranksKeepsUptoRow.holds Try.pinned (OpenSpec.upto ranksKeepsSpec)

end Rows
end Go.Proofs.Ytonacegkhkncmaa
