/-
  No cell of these rows narrows 'for every input' (looked for: loops, veiled, ifaces, maps, wideKeys, modest, calm, conditions, laid).
  DERIVED. THE GIVEN ROWS OF THIS SEAT. 8 by the template 'for every input the law returns true; each argument reads behind the call as it read before'; 0 by the template 'total and deterministic' (their statements: YtjhdedifmhkhbaaTotals.lean).
  GIVEN WITH THE SEED: the statements are not yours to turn. If you find one false, say at which input.
  Laid BY PROGRAM, IN A SANDBOX (cutbox-rows.mjs): the forced cells as the released guide's own fill.sh prints them over the translation 49c50273b2df833d… (all of the seat's roots in one cut). By AI agents, Wed Nov 11 2026. No macro, syntax, notation, axiom, sorry.
-/
import Derived.Test.YtjhdedifmhkhbaaChecked
import GoSem.Claim
import GoSem.ClaimJoined
import GoSem.ClaimMapViews
import Derived.JoinedTies
import Derived.KernelRfl
namespace Go.Proofs.Ytjhdedifmhkhbaa
/- THE CELL 'sum', in the pinned program and in every row, IS THE sha256 OF THE DUMP (.gsa) THAT YtjhdedifmhkhbaaProg.lean LOADS. Nothing in Lean hashes anything: it is a label: what it is worth is what the hold of that sum in a sandbox is worth. -/
noncomputable def Try.pinned : Pinned := { name := "ytjhdedifmhkhbaa", sum := "49c50273b2df833d0fb2cd296024398733ca76d4e4ff46e86fade697ebd64e30", checked := Try.checked }
namespace Rows
def none {H : Type} : Left H := { results := [], args := [] }

/-- 'recyclinglaw34.LayoutChecks': WHATEVER THE INPUT: true; the input reads as it did. -/
def layoutChecksSpec : ChangeSpec := { name := "layoutChecks", fn := fun _ => fun
  | [d] => { results := [.lit (.bool true)], args := [d] }
  | _ => none }
def layoutChecksRow : OpenClaim := { program := "ytjhdedifmhkhbaa", sum := "49c50273b2df833d0fb2cd296024398733ca76d4e4ff46e86fade697ebd64e30", func := "recycling/recyclinglaw34.LayoutChecks", spec := "layoutChecks", unfollowed := true, recurses := true, apart := false }
def LayoutChecksSaid : Prop := layoutChecksRow.holds Try.pinned (OpenSpec.ofChange layoutChecksSpec)

/-- ITS FALSE NEIGHBOUR: 'it returns false'. Refute it at one input. -/
def layoutChecksWrong : ChangeSpec := { name := "layoutChecks", fn := fun _ => fun
  | [d] => { results := [.lit (.bool false)], args := [d] }
  | _ => none }
def LayoutChecksWrongFalsely : Prop := layoutChecksRow.holds Try.pinned (OpenSpec.ofChange layoutChecksWrong)

/-- 'recyclinglaw34.LayoutGraphs': WHATEVER THE INPUT: true; the input reads as it did. -/
def layoutGraphsSpec : ChangeSpec := { name := "layoutGraphs", fn := fun _ => fun
  | [d1, d2] => { results := [.lit (.bool true)], args := [d1, d2] }
  | _ => none }
def layoutGraphsRow : OpenClaim := { program := "ytjhdedifmhkhbaa", sum := "49c50273b2df833d0fb2cd296024398733ca76d4e4ff46e86fade697ebd64e30", func := "recycling/recyclinglaw34.LayoutGraphs", spec := "layoutGraphs", unfollowed := true, recurses := true, apart := false }
def LayoutGraphsSaid : Prop := layoutGraphsRow.holds Try.pinned (OpenSpec.ofChange layoutGraphsSpec)

/-- ITS FALSE NEIGHBOUR: 'it returns false'. Refute it at one input. -/
def layoutGraphsWrong : ChangeSpec := { name := "layoutGraphs", fn := fun _ => fun
  | [d1, d2] => { results := [.lit (.bool false)], args := [d1, d2] }
  | _ => none }
def LayoutGraphsWrongFalsely : Prop := layoutGraphsRow.holds Try.pinned (OpenSpec.ofChange layoutGraphsWrong)

/-- 'recyclinglaw34.LayoutHeights': WHATEVER THE INPUT: true; the input reads as it did. -/
def layoutHeightsSpec : ChangeSpec := { name := "layoutHeights", fn := fun _ => fun
  | [d1, d2] => { results := [.lit (.bool true)], args := [d1, d2] }
  | _ => none }
def layoutHeightsRow : OpenClaim := { program := "ytjhdedifmhkhbaa", sum := "49c50273b2df833d0fb2cd296024398733ca76d4e4ff46e86fade697ebd64e30", func := "recycling/recyclinglaw34.LayoutHeights", spec := "layoutHeights", unfollowed := true, recurses := true, apart := false }
def LayoutHeightsSaid : Prop := layoutHeightsRow.holds Try.pinned (OpenSpec.ofChange layoutHeightsSpec)

/-- ITS FALSE NEIGHBOUR: 'it returns false'. Refute it at one input. -/
def layoutHeightsWrong : ChangeSpec := { name := "layoutHeights", fn := fun _ => fun
  | [d1, d2] => { results := [.lit (.bool false)], args := [d1, d2] }
  | _ => none }
def LayoutHeightsWrongFalsely : Prop := layoutHeightsRow.holds Try.pinned (OpenSpec.ofChange layoutHeightsWrong)

/-- 'recyclinglaw34.LayoutLoops': WHATEVER THE INPUT: true; the input reads as it did. -/
def layoutLoopsSpec : ChangeSpec := { name := "layoutLoops", fn := fun _ => fun
  | [d] => { results := [.lit (.bool true)], args := [d] }
  | _ => none }
def layoutLoopsRow : OpenClaim := { program := "ytjhdedifmhkhbaa", sum := "49c50273b2df833d0fb2cd296024398733ca76d4e4ff46e86fade697ebd64e30", func := "recycling/recyclinglaw34.LayoutLoops", spec := "layoutLoops", unfollowed := true, recurses := true, apart := false }
def LayoutLoopsSaid : Prop := layoutLoopsRow.holds Try.pinned (OpenSpec.ofChange layoutLoopsSpec)

/-- ITS FALSE NEIGHBOUR: 'it returns false'. Refute it at one input. -/
def layoutLoopsWrong : ChangeSpec := { name := "layoutLoops", fn := fun _ => fun
  | [d] => { results := [.lit (.bool false)], args := [d] }
  | _ => none }
def LayoutLoopsWrongFalsely : Prop := layoutLoopsRow.holds Try.pinned (OpenSpec.ofChange layoutLoopsWrong)

/-- 'recyclinglaw34.LayoutDrains': WHATEVER THE INPUT: true; the input reads as it did. -/
def layoutDrainsSpec : ChangeSpec := { name := "layoutDrains", fn := fun _ => fun
  | [d] => { results := [.lit (.bool true)], args := [d] }
  | _ => none }
def layoutDrainsRow : OpenClaim := { program := "ytjhdedifmhkhbaa", sum := "49c50273b2df833d0fb2cd296024398733ca76d4e4ff46e86fade697ebd64e30", func := "recycling/recyclinglaw34.LayoutDrains", spec := "layoutDrains", unfollowed := true, recurses := true, apart := false }
def LayoutDrainsSaid : Prop := layoutDrainsRow.holds Try.pinned (OpenSpec.ofChange layoutDrainsSpec)

/-- ITS FALSE NEIGHBOUR: 'it returns false'. Refute it at one input. -/
def layoutDrainsWrong : ChangeSpec := { name := "layoutDrains", fn := fun _ => fun
  | [d] => { results := [.lit (.bool false)], args := [d] }
  | _ => none }
def LayoutDrainsWrongFalsely : Prop := layoutDrainsRow.holds Try.pinned (OpenSpec.ofChange layoutDrainsWrong)

/-- 'recyclinglaw34.LayoutSteps': WHATEVER THE INPUT: true; the input reads as it did. -/
def layoutStepsSpec : ChangeSpec := { name := "layoutSteps", fn := fun _ => fun
  | [d] => { results := [.lit (.bool true)], args := [d] }
  | _ => none }
def layoutStepsRow : OpenClaim := { program := "ytjhdedifmhkhbaa", sum := "49c50273b2df833d0fb2cd296024398733ca76d4e4ff46e86fade697ebd64e30", func := "recycling/recyclinglaw34.LayoutSteps", spec := "layoutSteps", unfollowed := true, recurses := true, apart := false }
def LayoutStepsSaid : Prop := layoutStepsRow.holds Try.pinned (OpenSpec.ofChange layoutStepsSpec)

/-- ITS FALSE NEIGHBOUR: 'it returns false'. Refute it at one input. -/
def layoutStepsWrong : ChangeSpec := { name := "layoutSteps", fn := fun _ => fun
  | [d] => { results := [.lit (.bool false)], args := [d] }
  | _ => none }
def LayoutStepsWrongFalsely : Prop := layoutStepsRow.holds Try.pinned (OpenSpec.ofChange layoutStepsWrong)

/-- 'recyclinglaw34.LayoutLonger': WHATEVER THE INPUT: true; the input reads as it did. -/
def layoutLongerSpec : ChangeSpec := { name := "layoutLonger", fn := fun _ => fun
  | [d1, d2, d3] => { results := [.lit (.bool true)], args := [d1, d2, d3] }
  | _ => none }
def layoutLongerRow : OpenClaim := { program := "ytjhdedifmhkhbaa", sum := "49c50273b2df833d0fb2cd296024398733ca76d4e4ff46e86fade697ebd64e30", func := "recycling/recyclinglaw34.LayoutLonger", spec := "layoutLonger", unfollowed := true, recurses := true, apart := false }
def LayoutLongerSaid : Prop := layoutLongerRow.holds Try.pinned (OpenSpec.ofChange layoutLongerSpec)

/-- ITS FALSE NEIGHBOUR: 'it returns false'. Refute it at one input. -/
def layoutLongerWrong : ChangeSpec := { name := "layoutLonger", fn := fun _ => fun
  | [d1, d2, d3] => { results := [.lit (.bool false)], args := [d1, d2, d3] }
  | _ => none }
def LayoutLongerWrongFalsely : Prop := layoutLongerRow.holds Try.pinned (OpenSpec.ofChange layoutLongerWrong)

/-- 'recyclinglaw34.LayoutForward': WHATEVER THE INPUT: true; the input reads as it did. -/
def layoutForwardSpec : ChangeSpec := { name := "layoutForward", fn := fun _ => fun
  | [d] => { results := [.lit (.bool true)], args := [d] }
  | _ => none }
def layoutForwardRow : OpenClaim := { program := "ytjhdedifmhkhbaa", sum := "49c50273b2df833d0fb2cd296024398733ca76d4e4ff46e86fade697ebd64e30", func := "recycling/recyclinglaw34.LayoutForward", spec := "layoutForward", unfollowed := true, recurses := true, apart := false }
def LayoutForwardSaid : Prop := layoutForwardRow.holds Try.pinned (OpenSpec.ofChange layoutForwardSpec)

/-- ITS FALSE NEIGHBOUR: 'it returns false'. Refute it at one input. -/
def layoutForwardWrong : ChangeSpec := { name := "layoutForward", fn := fun _ => fun
  | [d] => { results := [.lit (.bool false)], args := [d] }
  | _ => none }
def LayoutForwardWrongFalsely : Prop := layoutForwardRow.holds Try.pinned (OpenSpec.ofChange layoutForwardWrong)

/- THE SECOND FORM. 'bulk': how many values and letters a reading holds, each counted each time it is reached (what is shared counts as often as it is met; a slice's spare places count too). A statement '..UptoSaid' is the law's where the arguments, and the package variables that the reading takes, are together of bulk at most 1048576: NARROWER than '..Said'. Prove '..Said' where nothing that the law and all that it calls make is longer than what came in: it says more and counts as full. Else prove '..UptoSaid'. A law counts once. -/
mutual
def uptoBulk {H : Type} : DataW H → Nat
  | .lit (.string bytes) => bytes.length + 1
  | .lit _ => 1
  | .nil => 1
  | .ptr d => uptoBulk d + 1
  | .slice elems spare => uptoBulkAll elems + uptoBulkAll spare + 1
  | .agg parts => uptoBulkAll parts + 1
  | .iface _ d => uptoBulk d + 1
  | .map entries => uptoBulkEntries entries + 1
  | .held _ => 1
def uptoBulkAll {H : Type} : List (DataW H) → Nat
  | [] => 0
  | d :: r => uptoBulk d + uptoBulkAll r
def uptoBulkEntries {H : Type} : List (Lit × DataW H) → Nat
  | [] => 0
  | x :: r => uptoBulkEntry x + uptoBulkEntries r
def uptoBulkEntry {H : Type} : Lit × DataW H → Nat
  | (.string bytes, d) => bytes.length + uptoBulk d + 1
  | (_, d) => uptoBulk d + 1
 end
def uptoSmall : (H : Type) → List (DataW H) → Bool := fun _ ds => decide (uptoBulkAll ds ≤ 1048576)
def OpenSpec.upto (s : _root_.Go.ChangeSpec) : _root_.Go.OpenSpec := { _root_.Go.OpenSpec.ofChange s with cond := some uptoSmall }

/-- 'recyclinglaw34.LayoutChecks', WHERE WHAT IT READS IS OF BULK AT MOST 1048576: true; the input reads as it did. -/
def layoutChecksUptoRow : OpenClaim := { program := "ytjhdedifmhkhbaa", sum := "49c50273b2df833d0fb2cd296024398733ca76d4e4ff46e86fade697ebd64e30", func := "recycling/recyclinglaw34.LayoutChecks", spec := "layoutChecks", unfollowed := true, recurses := true, apart := false, narrowed := true }
def LayoutChecksUptoSaid : Prop := layoutChecksUptoRow.holds Try.pinned (OpenSpec.upto layoutChecksSpec)

/-- 'recyclinglaw34.LayoutGraphs', WHERE WHAT IT READS IS OF BULK AT MOST 1048576: true; the input reads as it did. -/
def layoutGraphsUptoRow : OpenClaim := { program := "ytjhdedifmhkhbaa", sum := "49c50273b2df833d0fb2cd296024398733ca76d4e4ff46e86fade697ebd64e30", func := "recycling/recyclinglaw34.LayoutGraphs", spec := "layoutGraphs", unfollowed := true, recurses := true, apart := false, narrowed := true }
def LayoutGraphsUptoSaid : Prop := layoutGraphsUptoRow.holds Try.pinned (OpenSpec.upto layoutGraphsSpec)

/-- 'recyclinglaw34.LayoutHeights', WHERE WHAT IT READS IS OF BULK AT MOST 1048576: true; the input reads as it did. -/
def layoutHeightsUptoRow : OpenClaim := { program := "ytjhdedifmhkhbaa", sum := "49c50273b2df833d0fb2cd296024398733ca76d4e4ff46e86fade697ebd64e30", func := "recycling/recyclinglaw34.LayoutHeights", spec := "layoutHeights", unfollowed := true, recurses := true, apart := false, narrowed := true }
def LayoutHeightsUptoSaid : Prop := layoutHeightsUptoRow.holds Try.pinned (OpenSpec.upto layoutHeightsSpec)

/-- 'recyclinglaw34.LayoutLoops', WHERE WHAT IT READS IS OF BULK AT MOST 1048576: true; the input reads as it did. -/
def layoutLoopsUptoRow : OpenClaim := { program := "ytjhdedifmhkhbaa", sum := "49c50273b2df833d0fb2cd296024398733ca76d4e4ff46e86fade697ebd64e30", func := "recycling/recyclinglaw34.LayoutLoops", spec := "layoutLoops", unfollowed := true, recurses := true, apart := false, narrowed := true }
def LayoutLoopsUptoSaid : Prop := layoutLoopsUptoRow.holds Try.pinned (OpenSpec.upto layoutLoopsSpec)

/-- 'recyclinglaw34.LayoutDrains', WHERE WHAT IT READS IS OF BULK AT MOST 1048576: true; the input reads as it did. -/
def layoutDrainsUptoRow : OpenClaim := { program := "ytjhdedifmhkhbaa", sum := "49c50273b2df833d0fb2cd296024398733ca76d4e4ff46e86fade697ebd64e30", func := "recycling/recyclinglaw34.LayoutDrains", spec := "layoutDrains", unfollowed := true, recurses := true, apart := false, narrowed := true }
def LayoutDrainsUptoSaid : Prop := layoutDrainsUptoRow.holds Try.pinned (OpenSpec.upto layoutDrainsSpec)

/-- 'recyclinglaw34.LayoutSteps', WHERE WHAT IT READS IS OF BULK AT MOST 1048576: true; the input reads as it did. -/
def layoutStepsUptoRow : OpenClaim := { program := "ytjhdedifmhkhbaa", sum := "49c50273b2df833d0fb2cd296024398733ca76d4e4ff46e86fade697ebd64e30", func := "recycling/recyclinglaw34.LayoutSteps", spec := "layoutSteps", unfollowed := true, recurses := true, apart := false, narrowed := true }
def LayoutStepsUptoSaid : Prop := layoutStepsUptoRow.holds Try.pinned (OpenSpec.upto layoutStepsSpec)

/-- 'recyclinglaw34.LayoutLonger', WHERE WHAT IT READS IS OF BULK AT MOST 1048576: true; the input reads as it did. -/
def layoutLongerUptoRow : OpenClaim := { program := "ytjhdedifmhkhbaa", sum := "49c50273b2df833d0fb2cd296024398733ca76d4e4ff46e86fade697ebd64e30", func := "recycling/recyclinglaw34.LayoutLonger", spec := "layoutLonger", unfollowed := true, recurses := true, apart := false, narrowed := true }
def LayoutLongerUptoSaid : Prop := layoutLongerUptoRow.holds Try.pinned (OpenSpec.upto layoutLongerSpec)

/-- 'recyclinglaw34.LayoutForward', WHERE WHAT IT READS IS OF BULK AT MOST 1048576: true; the input reads as it did. -/
def layoutForwardUptoRow : OpenClaim := { program := "ytjhdedifmhkhbaa", sum := "49c50273b2df833d0fb2cd296024398733ca76d4e4ff46e86fade697ebd64e30", func := "recycling/recyclinglaw34.LayoutForward", spec := "layoutForward", unfollowed := true, recurses := true, apart := false, narrowed := true }
def LayoutForwardUptoSaid : Prop := layoutForwardUptoRow.holds Try.pinned (OpenSpec.upto layoutForwardSpec)

end Rows
end Go.Proofs.Ytjhdedifmhkhbaa
