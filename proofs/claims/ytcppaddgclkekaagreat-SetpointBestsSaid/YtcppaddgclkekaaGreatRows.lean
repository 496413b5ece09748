/-
  No cell of these rows narrows 'for every input' (looked for: loops, veiled, ifaces, maps, wideKeys, modest, calm, conditions, laid).
  DERIVED. THE GIVEN ROWS OF THIS SEAT. 3 by the template 'for every input the law returns true; each argument reads behind the call as it read before'; 0 by the template 'total and deterministic' (their statements: YtcppaddgclkekaaGreatTotals.lean).
  GIVEN WITH THE SEED: the statements are not yours to turn. If you find one false, say at which input.
  Laid BY PROGRAM, IN A SANDBOX (cutbox-rows.mjs): the forced cells as the released guide's own fill.sh prints them over the translation 6edc92c5370de2e6… (all of the seat's roots in one cut). By AI agents, Wed Nov 11 2026. No macro, syntax, notation, axiom, sorry.
-/
import Derived.Test.YtcppaddgclkekaaGreatChecked
import GoSem.Claim
import GoSem.ClaimJoined
import GoSem.ClaimMapViews
import Derived.JoinedTies
import Derived.KernelRfl
namespace Go.Proofs.YtcppaddgclkekaaGreat
/- THE CELL 'sum', in the pinned program and in every row, IS THE sha256 OF THE DUMP (.gsa) THAT YtcppaddgclkekaaGreatProg.lean LOADS. Nothing in Lean hashes anything: it is a label: what it is worth is what the hold of that sum in a sandbox is worth. -/
noncomputable def Tryz.pinned : Pinned := { name := "ytcppaddgclkekaagreat", sum := "6edc92c5370de2e6aa838b98d57b823939f47011c26bd6359d7a07c9e48e8460", checked := Tryz.checked }
namespace Rows
def none {H : Type} : Left H := { results := [], args := [] }

/-- 'recyclinglaw37.SetpointYields': WHATEVER THE INPUT: true; the input reads as it did. -/
def setpointYieldsSpec : ChangeSpec := { name := "setpointYields", fn := fun _ => fun
  | [d1, d2] => { results := [.lit (.bool true)], args := [d1, d2] }
  | _ => none }
def setpointYieldsRow : OpenClaim := { program := "ytcppaddgclkekaagreat", sum := "6edc92c5370de2e6aa838b98d57b823939f47011c26bd6359d7a07c9e48e8460", func := "recycling/recyclinglaw37.SetpointYields", spec := "setpointYields", unfollowed := true, recurses := true, named := ["math/bits.divideError", "math/bits.overflowError"], apart := false }
def SetpointYieldsSaid : Prop := setpointYieldsRow.holds Tryz.pinned (OpenSpec.ofChange setpointYieldsSpec)

/-- ITS FALSE NEIGHBOUR: 'it returns false'. Refute it at one input. -/
def setpointYieldsWrong : ChangeSpec := { name := "setpointYields", fn := fun _ => fun
  | [d1, d2] => { results := [.lit (.bool false)], args := [d1, d2] }
  | _ => none }
def SetpointYieldsWrongFalsely : Prop := setpointYieldsRow.holds Tryz.pinned (OpenSpec.ofChange setpointYieldsWrong)

/-- 'recyclinglaw37.SetpointValues': WHATEVER THE INPUT: true; the input reads as it did. -/
def setpointValuesSpec : ChangeSpec := { name := "setpointValues", fn := fun _ => fun
  | [d1, d2, d3] => { results := [.lit (.bool true)], args := [d1, d2, d3] }
  | _ => none }
def setpointValuesRow : OpenClaim := { program := "ytcppaddgclkekaagreat", sum := "6edc92c5370de2e6aa838b98d57b823939f47011c26bd6359d7a07c9e48e8460", func := "recycling/recyclinglaw37.SetpointValues", spec := "setpointValues", unfollowed := true, recurses := true, named := ["math/bits.divideError", "math/bits.overflowError"], apart := false }
def SetpointValuesSaid : Prop := setpointValuesRow.holds Tryz.pinned (OpenSpec.ofChange setpointValuesSpec)

/-- ITS FALSE NEIGHBOUR: 'it returns false'. Refute it at one input. -/
def setpointValuesWrong : ChangeSpec := { name := "setpointValues", fn := fun _ => fun
  | [d1, d2, d3] => { results := [.lit (.bool false)], args := [d1, d2, d3] }
  | _ => none }
def SetpointValuesWrongFalsely : Prop := setpointValuesRow.holds Tryz.pinned (OpenSpec.ofChange setpointValuesWrong)

/-- 'recyclinglaw37.SetpointBests': WHATEVER THE INPUT: true; the input reads as it did. -/
def setpointBestsSpec : ChangeSpec := { name := "setpointBests", fn := fun _ => fun
  | [d] => { results := [.lit (.bool true)], args := [d] }
  | _ => none }
def setpointBestsRow : OpenClaim := { program := "ytcppaddgclkekaagreat", sum := "6edc92c5370de2e6aa838b98d57b823939f47011c26bd6359d7a07c9e48e8460", func := "recycling/recyclinglaw37.SetpointBests", spec := "setpointBests", unfollowed := true, recurses := true, named := ["math/bits.divideError", "math/bits.overflowError"], apart := false }
def SetpointBestsSaid : Prop := setpointBestsRow.holds Tryz.pinned (OpenSpec.ofChange setpointBestsSpec)

/-- ITS FALSE NEIGHBOUR: 'it returns false'. Refute it at one input. -/
def setpointBestsWrong : ChangeSpec := { name := "setpointBests", fn := fun _ => fun
  | [d] => { results := [.lit (.bool false)], args := [d] }
  | _ => none }
def SetpointBestsWrongFalsely : Prop := setpointBestsRow.holds Tryz.pinned (OpenSpec.ofChange setpointBestsWrong)

/- THE SECOND FORM. 'bulk': how many values and letters a reading holds, each counted each time it is reached (what is shared counts as often as it is met; a slice's spare places count too). A statement '..UptoSaid' is the law's where the arguments, and the package variables that the reading takes, are together of bulk at most 1048576: NARROWER than '..Said'. Prove '..Said' where nothing that the law and all that it calls make is longer than what came in: it says more and counts as full. Else prove '..UptoSaid'. A law counts once. -/
mutual
def uptoBulk {H : Type} : DataW H → Nat
  | .lit (.string bytes) => bytes.length + 1
  | .lit _ => 1
  | .nil => 1
  | .ptr d => uptoBulk d + 1
  | .slice elems spare => uptoBulkAll elems + uptoBulkAll spare + 1
  | .agg parts => uptoBulkAll parts + 1
  | .iface _ d => uptoBulk d + 1
  | .map entries => uptoBulkEntries entries + 1
  | .held _ => 1
def uptoBulkAll {H : Type} : List (DataW H) → Nat
  | [] => 0
  | d :: r => uptoBulk d + uptoBulkAll r
def uptoBulkEntries {H : Type} : List (Lit × DataW H) → Nat
  | [] => 0
  | x :: r => uptoBulkEntry x + uptoBulkEntries r
def uptoBulkEntry {H : Type} : Lit × DataW H → Nat
  | (.string bytes, d) => bytes.length + uptoBulk d + 1
  | (_, d) => uptoBulk d + 1
 end
def uptoSmall : (H : Type) → List (DataW H) → Bool := fun _ ds => decide (uptoBulkAll ds ≤ 1048576)
def OpenSpec.upto (s : _root_.Go.ChangeSpec) : _root_.Go.OpenSpec := { _root_.Go.OpenSpec.ofChange s with cond := some uptoSmall }

/-- 'recyclinglaw37.SetpointYields', WHERE WHAT IT READS IS OF BULK AT MOST 1048576: true; the input reads as it did. -/
def setpointYieldsUptoRow : OpenClaim := { program := "ytcppaddgclkekaagreat", sum := "6edc92c5370de2e6aa838b98d57b823939f47011c26bd6359d7a07c9e48e8460", func := "recycling/recyclinglaw37.SetpointYields", spec := "setpointYields", unfollowed := true, recurses := true, named := ["math/bits.divideError", "math/bits.overflowError"], apart := false, narrowed := true }
def SetpointYieldsUptoSaid : Prop := setpointYieldsUptoRow.holds Tryz.pinned (OpenSpec.upto setpointYieldsSpec)

/-- 'recyclinglaw37.SetpointValues', WHERE WHAT IT READS IS OF BULK AT MOST 1048576: true; the input reads as it did. -/
def setpointValuesUptoRow : OpenClaim := { program := "ytcppaddgclkekaagreat", sum := "6edc92c5370de2e6aa838b98d57b823939f47011c26bd6359d7a07c9e48e8460", func := "recycling/recyclinglaw37.SetpointValues", spec := "setpointValues", unfollowed := true, recurses := true, named := ["math/bits.divideError", "math/bits.overflowError"], apart := false, narrowed := true }
def SetpointValuesUptoSaid : Prop := setpointValuesUptoRow.holds Tryz.pinned (OpenSpec.upto setpointValuesSpec)

/-- 'recyclinglaw37.SetpointBests', WHERE WHAT IT READS IS OF BULK AT MOST 1048576: true; the input reads as it did. -/
def setpointBestsUptoRow : OpenClaim := { program := "ytcppaddgclkekaagreat", sum := "6edc92c5370de2e6aa838b98d57b823939f47011c26bd6359d7a07c9e48e8460", func := "recycling/recyclinglaw37.SetpointBests", spec := "setpointBests", unfollowed := true, recurses := true, named := ["math/bits.divideError", "math/bits.overflowError"], apart := false, narrowed := true }
def SetpointBestsUptoSaid : Prop := setpointBestsUptoRow.holds Tryz.pinned (OpenSpec.upto setpointBestsSpec)

end Rows
end Go.Proofs.YtcppaddgclkekaaGreat
