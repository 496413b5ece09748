/-
  No cell of these rows narrows 'for every input' (looked for: loops, veiled, ifaces, maps, wideKeys, modest, calm, conditions, laid).
  DERIVED. THE GIVEN ROWS OF THIS SEAT. 7 by the template 'for every input the law returns true; each argument reads behind the call as it read before'; 0 by the template 'total and deterministic' (their statements: YtdkoindoljngmaaTotals.lean).
  GIVEN WITH THE SEED: the statements are not yours to turn. If you find one false, say at which input.
  Laid BY PROGRAM, IN A SANDBOX (cutbox-rows.mjs): the forced cells as the released guide's own fill.sh prints them over the translation 7506b41a8ea13011… (all of the seat's roots in one cut). By AI agents, Wed Nov 11 2026. No macro, syntax, notation, axiom, sorry.
-/
import Derived.Test.YtdkoindoljngmaaChecked
import GoSem.Claim
import GoSem.ClaimJoined
import GoSem.ClaimMapViews
import Derived.JoinedTies
import Derived.KernelRfl
namespace Go.Proofs.Ytdkoindoljngmaa
/- THE CELL 'sum', in the pinned program and in every row, IS THE sha256 OF THE DUMP (.gsa) THAT YtdkoindoljngmaaProg.lean LOADS. Nothing in Lean hashes anything: it is a label: what it is worth is what the hold of that sum in a sandbox is worth. -/
noncomputable def Try.pinned : Pinned := { name := "ytdkoindoljngmaa", sum := "7506b41a8ea130112909a2a52700dff9806e512eca9dd10cc3912df422c5c551", checked := Try.checked }
namespace Rows
def none {H : Type} : Left H := { results := [], args := [] }

/-- 'recyclinglaw35.PlantPeriod': WHATEVER THE INPUT: true; the input reads as it did. -/
def plantPeriodSpec : ChangeSpec := { name := "plantPeriod", fn := fun _ => fun
  | [d1, d2, d3] => { results := [.lit (.bool true)], args := [d1, d2, d3] }
  | _ => none }
def plantPeriodRow : OpenClaim := { program := "ytdkoindoljngmaa", sum := "7506b41a8ea130112909a2a52700dff9806e512eca9dd10cc3912df422c5c551", func := "recycling/recyclinglaw35.PlantPeriod", spec := "plantPeriod", unfollowed := true, recurses := true, named := ["math/bits.divideError", "math/bits.overflowError"], apart := false }
def PlantPeriodSaid : Prop := plantPeriodRow.holds Try.pinned (OpenSpec.ofChange plantPeriodSpec)

/-- ITS FALSE NEIGHBOUR: 'it returns false'. Refute it at one input. -/
def plantPeriodWrong : ChangeSpec := { name := "plantPeriod", fn := fun _ => fun
  | [d1, d2, d3] => { results := [.lit (.bool false)], args := [d1, d2, d3] }
  | _ => none }
def PlantPeriodWrongFalsely : Prop := plantPeriodRow.holds Try.pinned (OpenSpec.ofChange plantPeriodWrong)

/-- 'recyclinglaw35.PlantDrains': WHATEVER THE INPUT: true; the input reads as it did. -/
def plantDrainsSpec : ChangeSpec := { name := "plantDrains", fn := fun _ => fun
  | [d1, d2, d3] => { results := [.lit (.bool true)], args := [d1, d2, d3] }
  | _ => none }
def plantDrainsRow : OpenClaim := { program := "ytdkoindoljngmaa", sum := "7506b41a8ea130112909a2a52700dff9806e512eca9dd10cc3912df422c5c551", func := "recycling/recyclinglaw35.PlantDrains", spec := "plantDrains", unfollowed := true, recurses := true, named := ["math/bits.divideError", "math/bits.overflowError"], apart := false }
def PlantDrainsSaid : Prop := plantDrainsRow.holds Try.pinned (OpenSpec.ofChange plantDrainsSpec)

/-- ITS FALSE NEIGHBOUR: 'it returns false'. Refute it at one input. -/
def plantDrainsWrong : ChangeSpec := { name := "plantDrains", fn := fun _ => fun
  | [d1, d2, d3] => { results := [.lit (.bool false)], args := [d1, d2, d3] }
  | _ => none }
def PlantDrainsWrongFalsely : Prop := plantDrainsRow.holds Try.pinned (OpenSpec.ofChange plantDrainsWrong)

/-- 'recyclinglaw35.PlantRuns': WHATEVER THE INPUT: true; the input reads as it did. -/
def plantRunsSpec : ChangeSpec := { name := "plantRuns", fn := fun _ => fun
  | [d1, d2, d3] => { results := [.lit (.bool true)], args := [d1, d2, d3] }
  | _ => none }
def plantRunsRow : OpenClaim := { program := "ytdkoindoljngmaa", sum := "7506b41a8ea130112909a2a52700dff9806e512eca9dd10cc3912df422c5c551", func := "recycling/recyclinglaw35.PlantRuns", spec := "plantRuns", unfollowed := true, recurses := true, named := ["math/bits.divideError", "math/bits.overflowError"], apart := false }
def PlantRunsSaid : Prop := plantRunsRow.holds Try.pinned (OpenSpec.ofChange plantRunsSpec)

/-- ITS FALSE NEIGHBOUR: 'it returns false'. Refute it at one input. -/
def plantRunsWrong : ChangeSpec := { name := "plantRuns", fn := fun _ => fun
  | [d1, d2, d3] => { results := [.lit (.bool false)], args := [d1, d2, d3] }
  | _ => none }
def PlantRunsWrongFalsely : Prop := plantRunsRow.holds Try.pinned (OpenSpec.ofChange plantRunsWrong)

/-- 'recyclinglaw35.PlantConserves': WHATEVER THE INPUT: true; the input reads as it did. -/
def plantConservesSpec : ChangeSpec := { name := "plantConserves", fn := fun _ => fun
  | [d1, d2] => { results := [.lit (.bool true)], args := [d1, d2] }
  | _ => none }
def plantConservesRow : OpenClaim := { program := "ytdkoindoljngmaa", sum := "7506b41a8ea130112909a2a52700dff9806e512eca9dd10cc3912df422c5c551", func := "recycling/recyclinglaw35.PlantConserves", spec := "plantConserves", unfollowed := true, recurses := true, named := ["math/bits.divideError", "math/bits.overflowError"], apart := false }
def PlantConservesSaid : Prop := plantConservesRow.holds Try.pinned (OpenSpec.ofChange plantConservesSpec)

/-- ITS FALSE NEIGHBOUR: 'it returns false'. Refute it at one input. -/
def plantConservesWrong : ChangeSpec := { name := "plantConserves", fn := fun _ => fun
  | [d1, d2] => { results := [.lit (.bool false)], args := [d1, d2] }
  | _ => none }
def PlantConservesWrongFalsely : Prop := plantConservesRow.holds Try.pinned (OpenSpec.ofChange plantConservesWrong)

/-- 'recyclinglaw35.PlantNew': WHATEVER THE INPUT: true; the input reads as it did. -/
def plantNewSpec : ChangeSpec := { name := "plantNew", fn := fun _ => fun
  | [d1, d2] => { results := [.lit (.bool true)], args := [d1, d2] }
  | _ => none }
def plantNewRow : OpenClaim := { program := "ytdkoindoljngmaa", sum := "7506b41a8ea130112909a2a52700dff9806e512eca9dd10cc3912df422c5c551", func := "recycling/recyclinglaw35.PlantNew", spec := "plantNew", unfollowed := true, recurses := true, named := ["math/bits.divideError", "math/bits.overflowError"], apart := false }
def PlantNewSaid : Prop := plantNewRow.holds Try.pinned (OpenSpec.ofChange plantNewSpec)

/-- ITS FALSE NEIGHBOUR: 'it returns false'. Refute it at one input. -/
def plantNewWrong : ChangeSpec := { name := "plantNew", fn := fun _ => fun
  | [d1, d2] => { results := [.lit (.bool false)], args := [d1, d2] }
  | _ => none }
def PlantNewWrongFalsely : Prop := plantNewRow.holds Try.pinned (OpenSpec.ofChange plantNewWrong)

/-- 'recyclingtop.TopDrains': WHATEVER THE INPUT: true; the input reads as it did. -/
def topDrainsSpec : ChangeSpec := { name := "topDrains", fn := fun _ => fun
  | [d1, d2, d3] => { results := [.lit (.bool true)], args := [d1, d2, d3] }
  | _ => none }
def topDrainsRow : OpenClaim := { program := "ytdkoindoljngmaa", sum := "7506b41a8ea130112909a2a52700dff9806e512eca9dd10cc3912df422c5c551", func := "recycling/recyclingtop.TopDrains", spec := "topDrains", unfollowed := true, recurses := true, named := ["math/bits.divideError", "math/bits.overflowError"], apart := false }
def TopDrainsSaid : Prop := topDrainsRow.holds Try.pinned (OpenSpec.ofChange topDrainsSpec)

/-- ITS FALSE NEIGHBOUR: 'it returns false'. Refute it at one input. -/
def topDrainsWrong : ChangeSpec := { name := "topDrains", fn := fun _ => fun
  | [d1, d2, d3] => { results := [.lit (.bool false)], args := [d1, d2, d3] }
  | _ => none }
def TopDrainsWrongFalsely : Prop := topDrainsRow.holds Try.pinned (OpenSpec.ofChange topDrainsWrong)

/-- 'recyclingtop.TopPlantBales': WHATEVER THE INPUT: true; the input reads as it did. -/
def topPlantBalesSpec : ChangeSpec := { name := "topPlantBales", fn := fun _ => fun
  | [d1, d2, d3] => { results := [.lit (.bool true)], args := [d1, d2, d3] }
  | _ => none }
def topPlantBalesRow : OpenClaim := { program := "ytdkoindoljngmaa", sum := "7506b41a8ea130112909a2a52700dff9806e512eca9dd10cc3912df422c5c551", func := "recycling/recyclingtop.TopPlantBales", spec := "topPlantBales", unfollowed := true, recurses := true, named := ["math/bits.divideError", "math/bits.overflowError"], apart := false }
def TopPlantBalesSaid : Prop := topPlantBalesRow.holds Try.pinned (OpenSpec.ofChange topPlantBalesSpec)

/-- ITS FALSE NEIGHBOUR: 'it returns false'. Refute it at one input. -/
def topPlantBalesWrong : ChangeSpec := { name := "topPlantBales", fn := fun _ => fun
  | [d1, d2, d3] => { results := [.lit (.bool false)], args := [d1, d2, d3] }
  | _ => none }
def TopPlantBalesWrongFalsely : Prop := topPlantBalesRow.holds Try.pinned (OpenSpec.ofChange topPlantBalesWrong)

/- THE SECOND FORM. 'bulk': how many values and letters a reading holds, each counted each time it is reached (what is shared counts as often as it is met; a slice's spare places count too). A statement '..UptoSaid' is the law's where the arguments, and the package variables that the reading takes, are together of bulk at most 1048576: NARROWER than '..Said'. Prove '..Said' where nothing that the law and all that it calls make is longer than what came in: it says more and counts as full. Else prove '..UptoSaid'. A law counts once. -/
mutual
def uptoBulk {H : Type} : DataW H → Nat
  | .lit (.string bytes) => bytes.length + 1
  | .lit _ => 1
  | .nil => 1
  | .ptr d => uptoBulk d + 1
  | .slice elems spare => uptoBulkAll elems + uptoBulkAll spare + 1
  | .agg parts => uptoBulkAll parts + 1
  | .iface _ d => uptoBulk d + 1
  | .map entries => uptoBulkEntries entries + 1
  | .held _ => 1
def uptoBulkAll {H : Type} : List (DataW H) → Nat
  | [] => 0
  | d :: r => uptoBulk d + uptoBulkAll r
def uptoBulkEntries {H : Type} : List (Lit × DataW H) → Nat
  | [] => 0
  | x :: r => uptoBulkEntry x + uptoBulkEntries r
def uptoBulkEntry {H : Type} : Lit × DataW H → Nat
  | (.string bytes, d) => bytes.length + uptoBulk d + 1
  | (_, d) => uptoBulk d + 1
 end
def uptoSmall : (H : Type) → List (DataW H) → Bool := fun _ ds => decide (uptoBulkAll ds ≤ 1048576)
def OpenSpec.upto (s : _root_.Go.ChangeSpec) : _root_.Go.OpenSpec := { _root_.Go.OpenSpec.ofChange s with cond := some uptoSmall }

/-- 'recyclinglaw35.PlantPeriod', WHERE WHAT IT READS IS OF BULK AT MOST 1048576: true; the input reads as it did. -/
def plantPeriodUptoRow : OpenClaim := { program := "ytdkoindoljngmaa", sum := "7506b41a8ea130112909a2a52700dff9806e512eca9dd10cc3912df422c5c551", func := "recycling/recyclinglaw35.PlantPeriod", spec := "plantPeriod", unfollowed := true, recurses := true, named := ["math/bits.divideError", "math/bits.overflowError"], apart := false, narrowed := true }
def PlantPeriodUptoSaid : Prop := plantPeriodUptoRow.holds Try.pinned (OpenSpec.upto plantPeriodSpec)

/-- 'recyclinglaw35.PlantDrains', WHERE WHAT IT READS IS OF BULK AT MOST 1048576: true; the input reads as it did. -/
def plantDrainsUptoRow : OpenClaim := { program := "ytdkoindoljngmaa", sum := "7506b41a8ea130112909a2a52700dff9806e512eca9dd10cc3912df422c5c551", func := "recycling/recyclinglaw35.PlantDrains", spec := "plantDrains", unfollowed := true, recurses := true, named := ["math/bits.divideError", "math/bits.overflowError"], apart := false, narrowed := true }
def PlantDrainsUptoSaid : Prop := plantDrainsUptoRow.holds Try.pinned (OpenSpec.upto plantDrainsSpec)

/-- 'recyclinglaw35.PlantRuns', WHERE WHAT IT READS IS OF BULK AT MOST 1048576: true; the input reads as it did. -/
def plantRunsUptoRow : OpenClaim := { program := "ytdkoindoljngmaa", sum := "7506b41a8ea130112909a2a52700dff9806e512eca9dd10cc3912df422c5c551", func := "recycling/recyclinglaw35.PlantRuns", spec := "plantRuns", unfollowed := true, recurses := true, named := ["math/bits.divideError", "math/bits.overflowError"], apart := false, narrowed := true }
def PlantRunsUptoSaid : Prop := plantRunsUptoRow.holds Try.pinned (OpenSpec.upto plantRunsSpec)

/-- 'recyclinglaw35.PlantConserves', WHERE WHAT IT READS IS OF BULK AT MOST 1048576: true; the input reads as it did. -/
def plantConservesUptoRow : OpenClaim := { program := "ytdkoindoljngmaa", sum := "7506b41a8ea130112909a2a52700dff9806e512eca9dd10cc3912df422c5c551", func := "recycling/recyclinglaw35.PlantConserves", spec := "plantConserves", unfollowed := true, recurses := true, named := ["math/bits.divideError", "math/bits.overflowError"], apart := false, narrowed := true }
def PlantConservesUptoSaid : Prop := plantConservesUptoRow.holds Try.pinned (OpenSpec.upto plantConservesSpec)

/-- 'recyclinglaw35.PlantNew', WHERE WHAT IT READS IS OF BULK AT MOST 1048576: true; the input reads as it did. -/
def plantNewUptoRow : OpenClaim := { program := "ytdkoindoljngmaa", sum := "7506b41a8ea130112909a2a52700dff9806e512eca9dd10cc3912df422c5c551", func := "recycling/recyclinglaw35.PlantNew", spec := "plantNew", unfollowed := true, recurses := true, named := ["math/bits.divideError", "math/bits.overflowError"], apart := false, narrowed := true }
def PlantNewUptoSaid : Prop := plantNewUptoRow.holds Try.pinned (OpenSpec.upto plantNewSpec)

/-- 'recyclingtop.TopDrains', WHERE WHAT IT READS IS OF BULK AT MOST 1048576: true; the input reads as it did. -/
def topDrainsUptoRow : OpenClaim := { program := "ytdkoindoljngmaa", sum := "7506b41a8ea130112909a2a52700dff9806e512eca9dd10cc3912df422c5c551", func := "recycling/recyclingtop.TopDrains", spec := "topDrains", unfollowed := true, recurses := true, named := ["math/bits.divideError", "math/bits.overflowError"], apart := false, narrowed := true }
def TopDrainsUptoSaid : Prop := topDrainsUptoRow.holds Try.pinned (OpenSpec.upto topDrainsSpec)

/-- 'recyclingtop.TopPlantBales', WHERE WHAT IT READS IS OF BULK AT MOST 1048576: true; the input reads as it did. -/
def topPlantBalesUptoRow : OpenClaim := { program := "ytdkoindoljngmaa", sum := "7506b41a8ea130112909a2a52700dff9806e512eca9dd10cc3912df422c5c551", func := "recycling/recyclingtop.TopPlantBales", spec := "topPlantBales", unfollowed := true, recurses := true, named := ["math/bits.divideError", "math/bits.overflowError"], apart := false, narrowed := true }
def TopPlantBalesUptoSaid : Prop := topPlantBalesUptoRow.holds Try.pinned (OpenSpec.upto topPlantBalesSpec)

end Rows
end Go.Proofs.Ytdkoindoljngmaa
