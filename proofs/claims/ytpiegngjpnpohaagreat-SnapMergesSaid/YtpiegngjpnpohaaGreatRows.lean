/-
  No cell of these rows narrows 'for every input' (looked for: loops, veiled, ifaces, maps, wideKeys, modest, calm, conditions, laid).
  DERIVED. THE GIVEN ROWS OF THIS SEAT. 9 by the template 'for every input the law returns true; each argument reads behind the call as it read before'; 0 by the template 'total and deterministic' (their statements: YtpiegngjpnpohaaGreatTotals.lean).
  GIVEN WITH THE SEED: the statements are not yours to turn. If you find one false, say at which input.
  Laid BY PROGRAM, IN A SANDBOX (cutbox-rows.mjs): the forced cells as the released guide's own fill.sh prints them over the translation b06c967b972163aa… (all of the seat's roots in one cut). By AI agents, Wed Nov 11 2026. No macro, syntax, notation, axiom, sorry.
-/
import Derived.Test.YtpiegngjpnpohaaGreatChecked
import GoSem.Claim
import GoSem.ClaimJoined
import GoSem.ClaimMapViews
import Derived.JoinedTies
import Derived.KernelRfl
namespace Go.Proofs.YtpiegngjpnpohaaGreat
/- THE CELL 'sum', in the pinned program and in every row, IS THE sha256 OF THE DUMP (.gsa) THAT YtpiegngjpnpohaaGreatProg.lean LOADS. Nothing in Lean hashes anything: it is a label: what it is worth is what the hold of that sum in a sandbox is worth. -/
noncomputable def Tryz.pinned : Pinned := { name := "ytpiegngjpnpohaagreat", sum := "b06c967b972163aa8d98602ba50c319eee5d3dfa140013b47f90390be90e4c5f", checked := Tryz.checked }
namespace Rows
def none {H : Type} : Left H := { results := [], args := [] }

/-- 'gnomonlaw13.SnapChecks': WHATEVER THE INPUT: true; the input reads as it did. -/
def snapChecksSpec : ChangeSpec := { name := "snapChecks", fn := fun _ => fun
  | [d] => { results := [.lit (.bool true)], args := [d] }
  | _ => none }
def snapChecksRow : OpenClaim := { program := "ytpiegngjpnpohaagreat", sum := "b06c967b972163aa8d98602ba50c319eee5d3dfa140013b47f90390be90e4c5f", func := "gnomon/gnomonlaw13.SnapChecks", spec := "snapChecks", inPlace := ["math.Float64bits", "math/bits.Add64", "math.Float64frombits", "internal/bytealg.abigen_runtime_cmpstring"], unfollowed := true, recurses := true, apart := false }
def SnapChecksSaid : Prop := snapChecksRow.holds Tryz.pinned (OpenSpec.ofChange snapChecksSpec)

/-- ITS FALSE NEIGHBOUR: 'it returns false'. Refute it at one input. -/
def snapChecksWrong : ChangeSpec := { name := "snapChecks", fn := fun _ => fun
  | [d] => { results := [.lit (.bool false)], args := [d] }
  | _ => none }
def SnapChecksWrongFalsely : Prop := snapChecksRow.holds Tryz.pinned (OpenSpec.ofChange snapChecksWrong)

/-- 'gnomonlaw13.SnapMerges': WHATEVER THE INPUT: true; the input reads as it did. -/
def snapMergesSpec : ChangeSpec := { name := "snapMerges", fn := fun _ => fun
  | [d1, d2] => { results := [.lit (.bool true)], args := [d1, d2] }
  | _ => none }
def snapMergesRow : OpenClaim := { program := "ytpiegngjpnpohaagreat", sum := "b06c967b972163aa8d98602ba50c319eee5d3dfa140013b47f90390be90e4c5f", func := "gnomon/gnomonlaw13.SnapMerges", spec := "snapMerges", inPlace := ["math.Float64bits", "math/bits.Add64", "math.Float64frombits", "internal/bytealg.abigen_runtime_cmpstring"], unfollowed := true, recurses := true, apart := false }
def SnapMergesSaid : Prop := snapMergesRow.holds Tryz.pinned (OpenSpec.ofChange snapMergesSpec)

/-- ITS FALSE NEIGHBOUR: 'it returns false'. Refute it at one input. -/
def snapMergesWrong : ChangeSpec := { name := "snapMerges", fn := fun _ => fun
  | [d1, d2] => { results := [.lit (.bool false)], args := [d1, d2] }
  | _ => none }
def SnapMergesWrongFalsely : Prop := snapMergesRow.holds Tryz.pinned (OpenSpec.ofChange snapMergesWrong)

/-- 'gnomonlaw13.SnapFollows': WHATEVER THE INPUT: true; the input reads as it did. -/
def snapFollowsSpec : ChangeSpec := { name := "snapFollows", fn := fun _ => fun
  | [d1, d2, d3] => { results := [.lit (.bool true)], args := [d1, d2, d3] }
  | _ => none }
def snapFollowsRow : OpenClaim := { program := "ytpiegngjpnpohaagreat", sum := "b06c967b972163aa8d98602ba50c319eee5d3dfa140013b47f90390be90e4c5f", func := "gnomon/gnomonlaw13.SnapFollows", spec := "snapFollows", inPlace := ["math.Float64bits", "math/bits.Add64", "math.Float64frombits", "internal/bytealg.abigen_runtime_cmpstring"], unfollowed := true, recurses := true, apart := false }
def SnapFollowsSaid : Prop := snapFollowsRow.holds Tryz.pinned (OpenSpec.ofChange snapFollowsSpec)

/-- ITS FALSE NEIGHBOUR: 'it returns false'. Refute it at one input. -/
def snapFollowsWrong : ChangeSpec := { name := "snapFollows", fn := fun _ => fun
  | [d1, d2, d3] => { results := [.lit (.bool false)], args := [d1, d2, d3] }
  | _ => none }
def SnapFollowsWrongFalsely : Prop := snapFollowsRow.holds Tryz.pinned (OpenSpec.ofChange snapFollowsWrong)

/-- 'gnomonlaw13.SnapKeeps': WHATEVER THE INPUT: true; the input reads as it did. -/
def snapKeepsSpec : ChangeSpec := { name := "snapKeeps", fn := fun _ => fun
  | [d] => { results := [.lit (.bool true)], args := [d] }
  | _ => none }
def snapKeepsRow : OpenClaim := { program := "ytpiegngjpnpohaagreat", sum := "b06c967b972163aa8d98602ba50c319eee5d3dfa140013b47f90390be90e4c5f", func := "gnomon/gnomonlaw13.SnapKeeps", spec := "snapKeeps", inPlace := ["math.Float64bits", "math/bits.Add64", "math.Float64frombits", "internal/bytealg.abigen_runtime_cmpstring"], unfollowed := true, recurses := true, apart := false }
def SnapKeepsSaid : Prop := snapKeepsRow.holds Tryz.pinned (OpenSpec.ofChange snapKeepsSpec)

/-- ITS FALSE NEIGHBOUR: 'it returns false'. Refute it at one input. -/
def snapKeepsWrong : ChangeSpec := { name := "snapKeeps", fn := fun _ => fun
  | [d] => { results := [.lit (.bool false)], args := [d] }
  | _ => none }
def SnapKeepsWrongFalsely : Prop := snapKeepsRow.holds Tryz.pinned (OpenSpec.ofChange snapKeepsWrong)

/-- 'gnomonlaw13.SnapFinds': WHATEVER THE INPUT: true; the input reads as it did. -/
def snapFindsSpec : ChangeSpec := { name := "snapFinds", fn := fun _ => fun
  | [d] => { results := [.lit (.bool true)], args := [d] }
  | _ => none }
def snapFindsRow : OpenClaim := { program := "ytpiegngjpnpohaagreat", sum := "b06c967b972163aa8d98602ba50c319eee5d3dfa140013b47f90390be90e4c5f", func := "gnomon/gnomonlaw13.SnapFinds", spec := "snapFinds", inPlace := ["math.Float64bits", "math/bits.Add64", "math.Float64frombits", "internal/bytealg.abigen_runtime_cmpstring"], unfollowed := true, recurses := true, named := ["math/bits.divideError", "math/bits.overflowError"], apart := false }
def SnapFindsSaid : Prop := snapFindsRow.holds Tryz.pinned (OpenSpec.ofChange snapFindsSpec)

/-- ITS FALSE NEIGHBOUR: 'it returns false'. Refute it at one input. -/
def snapFindsWrong : ChangeSpec := { name := "snapFinds", fn := fun _ => fun
  | [d] => { results := [.lit (.bool false)], args := [d] }
  | _ => none }
def SnapFindsWrongFalsely : Prop := snapFindsRow.holds Tryz.pinned (OpenSpec.ofChange snapFindsWrong)

/-- 'gnomonlaw21.RingNames': WHATEVER THE INPUT: true; the input reads as it did. -/
def ringNamesSpec : ChangeSpec := { name := "ringNames", fn := fun _ => fun
  | [] => { results := [.lit (.bool true)], args := [] }
  | _ => none }
def ringNamesRow : OpenClaim := { program := "ytpiegngjpnpohaagreat", sum := "b06c967b972163aa8d98602ba50c319eee5d3dfa140013b47f90390be90e4c5f", func := "gnomon/gnomonlaw21.RingNames", spec := "ringNames", inPlace := ["math.Float64bits", "math/bits.Add64", "math.Float64frombits", "internal/bytealg.abigen_runtime_cmpstring", "math/bits.Sub64"], unfollowed := true, recurses := true, apart := false }
def RingNamesSaid : Prop := ringNamesRow.holds Tryz.pinned (OpenSpec.ofChange ringNamesSpec)

/-- ITS FALSE NEIGHBOUR: 'it returns false'. Refute it at one input. -/
def ringNamesWrong : ChangeSpec := { name := "ringNames", fn := fun _ => fun
  | [] => { results := [.lit (.bool false)], args := [] }
  | _ => none }
def RingNamesWrongFalsely : Prop := ringNamesRow.holds Tryz.pinned (OpenSpec.ofChange ringNamesWrong)

/-- 'gnomonlaw21.RingCuts': WHATEVER THE INPUT: true; the input reads as it did. -/
def ringCutsSpec : ChangeSpec := { name := "ringCuts", fn := fun _ => fun
  | [d] => { results := [.lit (.bool true)], args := [d] }
  | _ => none }
def ringCutsRow : OpenClaim := { program := "ytpiegngjpnpohaagreat", sum := "b06c967b972163aa8d98602ba50c319eee5d3dfa140013b47f90390be90e4c5f", func := "gnomon/gnomonlaw21.RingCuts", spec := "ringCuts", inPlace := ["math.Float64bits", "math/bits.Add64", "math.Float64frombits", "internal/bytealg.abigen_runtime_cmpstring", "math/bits.Sub64"], unfollowed := true, recurses := true, apart := false }
def RingCutsSaid : Prop := ringCutsRow.holds Tryz.pinned (OpenSpec.ofChange ringCutsSpec)

/-- ITS FALSE NEIGHBOUR: 'it returns false'. Refute it at one input. -/
def ringCutsWrong : ChangeSpec := { name := "ringCuts", fn := fun _ => fun
  | [d] => { results := [.lit (.bool false)], args := [d] }
  | _ => none }
def RingCutsWrongFalsely : Prop := ringCutsRow.holds Tryz.pinned (OpenSpec.ofChange ringCutsWrong)

/-- 'gnomonlaw21.RingDoes': WHATEVER THE INPUT: true; the input reads as it did. -/
def ringDoesSpec : ChangeSpec := { name := "ringDoes", fn := fun _ => fun
  | [d] => { results := [.lit (.bool true)], args := [d] }
  | _ => none }
def ringDoesRow : OpenClaim := { program := "ytpiegngjpnpohaagreat", sum := "b06c967b972163aa8d98602ba50c319eee5d3dfa140013b47f90390be90e4c5f", func := "gnomon/gnomonlaw21.RingDoes", spec := "ringDoes", inPlace := ["math.Float64bits", "math/bits.Add64", "math.Float64frombits", "internal/bytealg.abigen_runtime_cmpstring", "math/bits.Sub64"], unfollowed := true, recurses := true, apart := false }
def RingDoesSaid : Prop := ringDoesRow.holds Tryz.pinned (OpenSpec.ofChange ringDoesSpec)

/-- ITS FALSE NEIGHBOUR: 'it returns false'. Refute it at one input. -/
def ringDoesWrong : ChangeSpec := { name := "ringDoes", fn := fun _ => fun
  | [d] => { results := [.lit (.bool false)], args := [d] }
  | _ => none }
def RingDoesWrongFalsely : Prop := ringDoesRow.holds Tryz.pinned (OpenSpec.ofChange ringDoesWrong)

/-- 'gnomonlaw21.RingKeeps': WHATEVER THE INPUT: true; the input reads as it did. -/
def ringKeepsSpec : ChangeSpec := { name := "ringKeeps", fn := fun _ => fun
  | [d] => { results := [.lit (.bool true)], args := [d] }
  | _ => none }
def ringKeepsRow : OpenClaim := { program := "ytpiegngjpnpohaagreat", sum := "b06c967b972163aa8d98602ba50c319eee5d3dfa140013b47f90390be90e4c5f", func := "gnomon/gnomonlaw21.RingKeeps", spec := "ringKeeps", inPlace := ["math.Float64bits", "math/bits.Add64", "math.Float64frombits", "internal/bytealg.abigen_runtime_cmpstring", "math/bits.Sub64"], unfollowed := true, recurses := true, apart := false }
def RingKeepsSaid : Prop := ringKeepsRow.holds Tryz.pinned (OpenSpec.ofChange ringKeepsSpec)

/-- ITS FALSE NEIGHBOUR: 'it returns false'. Refute it at one input. -/
def ringKeepsWrong : ChangeSpec := { name := "ringKeeps", fn := fun _ => fun
  | [d] => { results := [.lit (.bool false)], args := [d] }
  | _ => none }
def RingKeepsWrongFalsely : Prop := ringKeepsRow.holds Tryz.pinned (OpenSpec.ofChange ringKeepsWrong)

/- THE SECOND FORM. 'bulk': how many values and letters a reading holds, each counted each time it is reached (what is shared counts as often as it is met; a slice's spare places count too). A statement '..UptoSaid' is the law's where the arguments, and the package variables that the reading takes, are together of bulk at most 1048576: NARROWER than '..Said'. Prove '..Said' where nothing that the law and all that it calls make is longer than what came in: it says more and counts as full. Else prove '..UptoSaid'. A law counts once. -/
mutual
def uptoBulk {H : Type} : DataW H → Nat
  | .lit (.string bytes) => bytes.length + 1
  | .lit _ => 1
  | .nil => 1
  | .ptr d => uptoBulk d + 1
  | .slice elems spare => uptoBulkAll elems + uptoBulkAll spare + 1
  | .agg parts => uptoBulkAll parts + 1
  | .iface _ d => uptoBulk d + 1
  | .map entries => uptoBulkEntries entries + 1
  | .held _ => 1
def uptoBulkAll {H : Type} : List (DataW H) → Nat
  | [] => 0
  | d :: r => uptoBulk d + uptoBulkAll r
def uptoBulkEntries {H : Type} : List (Lit × DataW H) → Nat
  | [] => 0
  | x :: r => uptoBulkEntry x + uptoBulkEntries r
def uptoBulkEntry {H : Type} : Lit × DataW H → Nat
  | (.string bytes, d) => bytes.length + uptoBulk d + 1
  | (_, d) => uptoBulk d + 1
 end
def uptoSmall : (H : Type) → List (DataW H) → Bool := fun _ ds => decide (uptoBulkAll ds ≤ 1048576)
def OpenSpec.upto (s : _root_.Go.ChangeSpec) : _root_.Go.OpenSpec := { _root_.Go.OpenSpec.ofChange s with cond := some uptoSmall }

/-- 'gnomonlaw13.SnapChecks', WHERE WHAT IT READS IS OF BULK AT MOST 1048576: true; the input reads as it did. -/
def snapChecksUptoRow : OpenClaim := { program := "ytpiegngjpnpohaagreat", sum := "b06c967b972163aa8d98602ba50c319eee5d3dfa140013b47f90390be90e4c5f", func := "gnomon/gnomonlaw13.SnapChecks", spec := "snapChecks", inPlace := ["math.Float64bits", "math/bits.Add64", "math.Float64frombits", "internal/bytealg.abigen_runtime_cmpstring"], unfollowed := true, recurses := true, apart := false, narrowed := true }
def SnapChecksUptoSaid : Prop := snapChecksUptoRow.holds Tryz.pinned (OpenSpec.upto snapChecksSpec)

/-- 'gnomonlaw13.SnapMerges', WHERE WHAT IT READS IS OF BULK AT MOST 1048576: true; the input reads as it did. -/
def snapMergesUptoRow : OpenClaim := { program := "ytpiegngjpnpohaagreat", sum := "b06c967b972163aa8d98602ba50c319eee5d3dfa140013b47f90390be90e4c5f", func := "gnomon/gnomonlaw13.SnapMerges", spec := "snapMerges", inPlace := ["math.Float64bits", "math/bits.Add64", "math.Float64frombits", "internal/bytealg.abigen_runtime_cmpstring"], unfollowed := true, recurses := true, apart := false, narrowed := true }
def SnapMergesUptoSaid : Prop := snapMergesUptoRow.holds Tryz.pinned (OpenSpec.upto snapMergesSpec)

/-- 'gnomonlaw13.SnapFollows', WHERE WHAT IT READS IS OF BULK AT MOST 1048576: true; the input reads as it did. -/
def snapFollowsUptoRow : OpenClaim := { program := "ytpiegngjpnpohaagreat", sum := "b06c967b972163aa8d98602ba50c319eee5d3dfa140013b47f90390be90e4c5f", func := "gnomon/gnomonlaw13.SnapFollows", spec := "snapFollows", inPlace := ["math.Float64bits", "math/bits.Add64", "math.Float64frombits", "internal/bytealg.abigen_runtime_cmpstring"], unfollowed := true, recurses := true, apart := false, narrowed := true }
def SnapFollowsUptoSaid : Prop := snapFollowsUptoRow.holds Tryz.pinned (OpenSpec.upto snapFollowsSpec)

/-- 'gnomonlaw13.SnapKeeps', WHERE WHAT IT READS IS OF BULK AT MOST 1048576: true; the input reads as it did. -/
def snapKeepsUptoRow : OpenClaim := { program := "ytpiegngjpnpohaagreat", sum := "b06c967b972163aa8d98602ba50c319eee5d3dfa140013b47f90390be90e4c5f", func := "gnomon/gnomonlaw13.SnapKeeps", spec := "snapKeeps", inPlace := ["math.Float64bits", "math/bits.Add64", "math.Float64frombits", "internal/bytealg.abigen_runtime_cmpstring"], unfollowed := true, recurses := true, apart := false, narrowed := true }
def SnapKeepsUptoSaid : Prop := snapKeepsUptoRow.holds Tryz.pinned (OpenSpec.upto snapKeepsSpec)

/-- 'gnomonlaw13.SnapFinds', WHERE WHAT IT READS IS OF BULK AT MOST 1048576: true; the input reads as it did. -/
def snapFindsUptoRow : OpenClaim := { program := "ytpiegngjpnpohaagreat", sum := "b06c967b972163aa8d98602ba50c319eee5d3dfa140013b47f90390be90e4c5f", func := "gnomon/gnomonlaw13.SnapFinds", spec := "snapFinds", inPlace := ["math.Float64bits", "math/bits.Add64", "math.Float64frombits", "internal/bytealg.abigen_runtime_cmpstring"], unfollowed := true, recurses := true, named := ["math/bits.divideError", "math/bits.overflowError"], apart := false, narrowed := true }
def SnapFindsUptoSaid : Prop := snapFindsUptoRow.holds Tryz.pinned (OpenSpec.upto snapFindsSpec)

/-- 'gnomonlaw21.RingNames', WHERE WHAT IT READS IS OF BULK AT MOST 1048576: true; the input reads as it did. -/
def ringNamesUptoRow : OpenClaim := { program := "ytpiegngjpnpohaagreat", sum := "b06c967b972163aa8d98602ba50c319eee5d3dfa140013b47f90390be90e4c5f", func := "gnomon/gnomonlaw21.RingNames", spec := "ringNames", inPlace := ["math.Float64bits", "math/bits.Add64", "math.Float64frombits", "internal/bytealg.abigen_runtime_cmpstring", "math/bits.Sub64"], unfollowed := true, recurses := true, apart := false, narrowed := true }
def RingNamesUptoSaid : Prop := ringNamesUptoRow.holds Tryz.pinned (OpenSpec.upto ringNamesSpec)

/-- 'gnomonlaw21.RingCuts', WHERE WHAT IT READS IS OF BULK AT MOST 1048576: true; the input reads as it did. -/
def ringCutsUptoRow : OpenClaim := { program := "ytpiegngjpnpohaagreat", sum := "b06c967b972163aa8d98602ba50c319eee5d3dfa140013b47f90390be90e4c5f", func := "gnomon/gnomonlaw21.RingCuts", spec := "ringCuts", inPlace := ["math.Float64bits", "math/bits.Add64", "math.Float64frombits", "internal/bytealg.abigen_runtime_cmpstring", "math/bits.Sub64"], unfollowed := true, recurses := true, apart := false, narrowed := true }
def RingCutsUptoSaid : Prop := ringCutsUptoRow.holds Tryz.pinned (OpenSpec.upto ringCutsSpec)

/-- 'gnomonlaw21.RingDoes', WHERE WHAT IT READS IS OF BULK AT MOST 1048576: true; the input reads as it did. -/
def ringDoesUptoRow : OpenClaim := { program := "ytpiegngjpnpohaagreat", sum := "b06c967b972163aa8d98602ba50c319eee5d3dfa140013b47f90390be90e4c5f", func := "gnomon/gnomonlaw21.RingDoes", spec := "ringDoes", inPlace := ["math.Float64bits", "math/bits.Add64", "math.Float64frombits", "internal/bytealg.abigen_runtime_cmpstring", "math/bits.Sub64"], unfollowed := true, recurses := true, apart := false, narrowed := true }
def RingDoesUptoSaid : Prop := ringDoesUptoRow.holds Tryz.pinned (OpenSpec.upto ringDoesSpec)

/-- 'gnomonlaw21.RingKeeps', WHERE WHAT IT READS IS OF BULK AT MOST 1048576: true; the input reads as it did. -/
def ringKeepsUptoRow : OpenClaim := { program := "ytpiegngjpnpohaagreat", sum := "b06c967b972163aa8d98602ba50c319eee5d3dfa140013b47f90390be90e4c5f", func := "gnomon/gnomonlaw21.RingKeeps", spec := "ringKeeps", inPlace := ["math.Float64bits", "math/bits.Add64", "math.Float64frombits", "internal/bytealg.abigen_runtime_cmpstring", "math/bits.Sub64"], unfollowed := true, recurses := true, apart := false, narrowed := true }
def RingKeepsUptoSaid : Prop := ringKeepsUptoRow.holds Tryz.pinned (OpenSpec.upto ringKeepsSpec)

end Rows
end Go.Proofs.YtpiegngjpnpohaaGreat
