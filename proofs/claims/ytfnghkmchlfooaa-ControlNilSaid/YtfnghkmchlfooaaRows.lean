/-
  No cell of these rows narrows 'for every input' (looked for: loops, veiled, ifaces, maps, wideKeys, modest, calm, conditions, laid).
  DERIVED. THE GIVEN ROWS OF THIS SEAT. 8 by the template 'for every input the law returns true; each argument reads behind the call as it read before'; 0 by the template 'total and deterministic' (their statements: YtfnghkmchlfooaaTotals.lean).
  GIVEN WITH THE SEED: the statements are not yours to turn. If you find one false, say at which input.
  Laid BY PROGRAM, IN A SANDBOX (cutbox-rows.mjs): the forced cells as the released guide's own fill.sh prints them over the translation 67d04e43d690ea06… (all of the seat's roots in one cut). By AI agents, Wed Nov 11 2026. No macro, syntax, notation, axiom, sorry.
-/
import Derived.Test.YtfnghkmchlfooaaChecked
import GoSem.Claim
import GoSem.ClaimJoined
import GoSem.ClaimMapViews
import Derived.JoinedTies
import Derived.KernelRfl
namespace Go.Proofs.Ytfnghkmchlfooaa
/- THE CELL 'sum', in the pinned program and in every row, IS THE sha256 OF THE DUMP (.gsa) THAT YtfnghkmchlfooaaProg.lean LOADS. Nothing in Lean hashes anything: it is a label: what it is worth is what the hold of that sum in a sandbox is worth. -/
noncomputable def Try.pinned : Pinned := { name := "ytfnghkmchlfooaa", sum := "67d04e43d690ea0636278b3482cde6b7cf39da329daab71c3b5bd986eb6c210c", checked := Try.checked }
namespace Rows
def none {H : Type} : Left H := { results := [], args := [] }

/-- 'recyclinglaw36.ControlOrders': WHATEVER THE INPUT: true; the input reads as it did. -/
def controlOrdersSpec : ChangeSpec := { name := "controlOrders", fn := fun _ => fun
  | [d] => { results := [.lit (.bool true)], args := [d] }
  | _ => none }
def controlOrdersRow : OpenClaim := { program := "ytfnghkmchlfooaa", sum := "67d04e43d690ea0636278b3482cde6b7cf39da329daab71c3b5bd986eb6c210c", func := "recycling/recyclinglaw36.ControlOrders", spec := "controlOrders", unfollowed := true, recurses := true, apart := false }
def ControlOrdersSaid : Prop := controlOrdersRow.holds Try.pinned (OpenSpec.ofChange controlOrdersSpec)

/-- ITS FALSE NEIGHBOUR: 'it returns false'. Refute it at one input. -/
def controlOrdersWrong : ChangeSpec := { name := "controlOrders", fn := fun _ => fun
  | [d] => { results := [.lit (.bool false)], args := [d] }
  | _ => none }
def ControlOrdersWrongFalsely : Prop := controlOrdersRow.holds Try.pinned (OpenSpec.ofChange controlOrdersWrong)

/-- 'recyclinglaw36.ControlRuns': WHATEVER THE INPUT: true; the input reads as it did. -/
def controlRunsSpec : ChangeSpec := { name := "controlRuns", fn := fun _ => fun
  | [d1, d2, d3] => { results := [.lit (.bool true)], args := [d1, d2, d3] }
  | _ => none }
def controlRunsRow : OpenClaim := { program := "ytfnghkmchlfooaa", sum := "67d04e43d690ea0636278b3482cde6b7cf39da329daab71c3b5bd986eb6c210c", func := "recycling/recyclinglaw36.ControlRuns", spec := "controlRuns", unfollowed := true, recurses := true, apart := false }
def ControlRunsSaid : Prop := controlRunsRow.holds Try.pinned (OpenSpec.ofChange controlRunsSpec)

/-- ITS FALSE NEIGHBOUR: 'it returns false'. Refute it at one input. -/
def controlRunsWrong : ChangeSpec := { name := "controlRuns", fn := fun _ => fun
  | [d1, d2, d3] => { results := [.lit (.bool false)], args := [d1, d2, d3] }
  | _ => none }
def ControlRunsWrongFalsely : Prop := controlRunsRow.holds Try.pinned (OpenSpec.ofChange controlRunsWrong)

/-- 'recyclinglaw36.ControlSafe': WHATEVER THE INPUT: true; the input reads as it did. -/
def controlSafeSpec : ChangeSpec := { name := "controlSafe", fn := fun _ => fun
  | [d1, d2] => { results := [.lit (.bool true)], args := [d1, d2] }
  | _ => none }
def controlSafeRow : OpenClaim := { program := "ytfnghkmchlfooaa", sum := "67d04e43d690ea0636278b3482cde6b7cf39da329daab71c3b5bd986eb6c210c", func := "recycling/recyclinglaw36.ControlSafe", spec := "controlSafe", unfollowed := true, recurses := true, apart := false }
def ControlSafeSaid : Prop := controlSafeRow.holds Try.pinned (OpenSpec.ofChange controlSafeSpec)

/-- ITS FALSE NEIGHBOUR: 'it returns false'. Refute it at one input. -/
def controlSafeWrong : ChangeSpec := { name := "controlSafe", fn := fun _ => fun
  | [d1, d2] => { results := [.lit (.bool false)], args := [d1, d2] }
  | _ => none }
def ControlSafeWrongFalsely : Prop := controlSafeRow.holds Try.pinned (OpenSpec.ofChange controlSafeWrong)

/-- 'recyclinglaw36.ControlStarts': WHATEVER THE INPUT: true; the input reads as it did. -/
def controlStartsSpec : ChangeSpec := { name := "controlStarts", fn := fun _ => fun
  | [d1, d2] => { results := [.lit (.bool true)], args := [d1, d2] }
  | _ => none }
def controlStartsRow : OpenClaim := { program := "ytfnghkmchlfooaa", sum := "67d04e43d690ea0636278b3482cde6b7cf39da329daab71c3b5bd986eb6c210c", func := "recycling/recyclinglaw36.ControlStarts", spec := "controlStarts", unfollowed := true, recurses := true, apart := false }
def ControlStartsSaid : Prop := controlStartsRow.holds Try.pinned (OpenSpec.ofChange controlStartsSpec)

/-- ITS FALSE NEIGHBOUR: 'it returns false'. Refute it at one input. -/
def controlStartsWrong : ChangeSpec := { name := "controlStarts", fn := fun _ => fun
  | [d1, d2] => { results := [.lit (.bool false)], args := [d1, d2] }
  | _ => none }
def ControlStartsWrongFalsely : Prop := controlStartsRow.holds Try.pinned (OpenSpec.ofChange controlStartsWrong)

/-- 'recyclinglaw36.ControlStops': WHATEVER THE INPUT: true; the input reads as it did. -/
def controlStopsSpec : ChangeSpec := { name := "controlStops", fn := fun _ => fun
  | [d1, d2, d3] => { results := [.lit (.bool true)], args := [d1, d2, d3] }
  | _ => none }
def controlStopsRow : OpenClaim := { program := "ytfnghkmchlfooaa", sum := "67d04e43d690ea0636278b3482cde6b7cf39da329daab71c3b5bd986eb6c210c", func := "recycling/recyclinglaw36.ControlStops", spec := "controlStops", unfollowed := true, recurses := true, apart := false }
def ControlStopsSaid : Prop := controlStopsRow.holds Try.pinned (OpenSpec.ofChange controlStopsSpec)

/-- ITS FALSE NEIGHBOUR: 'it returns false'. Refute it at one input. -/
def controlStopsWrong : ChangeSpec := { name := "controlStops", fn := fun _ => fun
  | [d1, d2, d3] => { results := [.lit (.bool false)], args := [d1, d2, d3] }
  | _ => none }
def ControlStopsWrongFalsely : Prop := controlStopsRow.holds Try.pinned (OpenSpec.ofChange controlStopsWrong)

/-- 'recyclinglaw36.ControlJams': WHATEVER THE INPUT: true; the input reads as it did. -/
def controlJamsSpec : ChangeSpec := { name := "controlJams", fn := fun _ => fun
  | [d1, d2, d3] => { results := [.lit (.bool true)], args := [d1, d2, d3] }
  | _ => none }
def controlJamsRow : OpenClaim := { program := "ytfnghkmchlfooaa", sum := "67d04e43d690ea0636278b3482cde6b7cf39da329daab71c3b5bd986eb6c210c", func := "recycling/recyclinglaw36.ControlJams", spec := "controlJams", unfollowed := true, recurses := true, apart := false }
def ControlJamsSaid : Prop := controlJamsRow.holds Try.pinned (OpenSpec.ofChange controlJamsSpec)

/-- ITS FALSE NEIGHBOUR: 'it returns false'. Refute it at one input. -/
def controlJamsWrong : ChangeSpec := { name := "controlJams", fn := fun _ => fun
  | [d1, d2, d3] => { results := [.lit (.bool false)], args := [d1, d2, d3] }
  | _ => none }
def ControlJamsWrongFalsely : Prop := controlJamsRow.holds Try.pinned (OpenSpec.ofChange controlJamsWrong)

/-- 'recyclinglaw36.ControlGroups': WHATEVER THE INPUT: true; the input reads as it did. -/
def controlGroupsSpec : ChangeSpec := { name := "controlGroups", fn := fun _ => fun
  | [d1, d2] => { results := [.lit (.bool true)], args := [d1, d2] }
  | _ => none }
def controlGroupsRow : OpenClaim := { program := "ytfnghkmchlfooaa", sum := "67d04e43d690ea0636278b3482cde6b7cf39da329daab71c3b5bd986eb6c210c", func := "recycling/recyclinglaw36.ControlGroups", spec := "controlGroups", unfollowed := true, recurses := true, apart := false }
def ControlGroupsSaid : Prop := controlGroupsRow.holds Try.pinned (OpenSpec.ofChange controlGroupsSpec)

/-- ITS FALSE NEIGHBOUR: 'it returns false'. Refute it at one input. -/
def controlGroupsWrong : ChangeSpec := { name := "controlGroups", fn := fun _ => fun
  | [d1, d2] => { results := [.lit (.bool false)], args := [d1, d2] }
  | _ => none }
def ControlGroupsWrongFalsely : Prop := controlGroupsRow.holds Try.pinned (OpenSpec.ofChange controlGroupsWrong)

/-- 'recyclinglaw36.ControlNil': WHATEVER THE INPUT: true; the input reads as it did. -/
def controlNilSpec : ChangeSpec := { name := "controlNil", fn := fun _ => fun
  | [d] => { results := [.lit (.bool true)], args := [d] }
  | _ => none }
def controlNilRow : OpenClaim := { program := "ytfnghkmchlfooaa", sum := "67d04e43d690ea0636278b3482cde6b7cf39da329daab71c3b5bd986eb6c210c", func := "recycling/recyclinglaw36.ControlNil", spec := "controlNil", unfollowed := true, recurses := true, apart := false }
def ControlNilSaid : Prop := controlNilRow.holds Try.pinned (OpenSpec.ofChange controlNilSpec)

/-- ITS FALSE NEIGHBOUR: 'it returns false'. Refute it at one input. -/
def controlNilWrong : ChangeSpec := { name := "controlNil", fn := fun _ => fun
  | [d] => { results := [.lit (.bool false)], args := [d] }
  | _ => none }
def ControlNilWrongFalsely : Prop := controlNilRow.holds Try.pinned (OpenSpec.ofChange controlNilWrong)

/- THE SECOND FORM. 'bulk': how many values and letters a reading holds, each counted each time it is reached (what is shared counts as often as it is met; a slice's spare places count too). A statement '..UptoSaid' is the law's where the arguments, and the package variables that the reading takes, are together of bulk at most 1048576: NARROWER than '..Said'. Prove '..Said' where nothing that the law and all that it calls make is longer than what came in: it says more and counts as full. Else prove '..UptoSaid'. A law counts once. -/
mutual
def uptoBulk {H : Type} : DataW H → Nat
  | .lit (.string bytes) => bytes.length + 1
  | .lit _ => 1
  | .nil => 1
  | .ptr d => uptoBulk d + 1
  | .slice elems spare => uptoBulkAll elems + uptoBulkAll spare + 1
  | .agg parts => uptoBulkAll parts + 1
  | .iface _ d => uptoBulk d + 1
  | .map entries => uptoBulkEntries entries + 1
  | .held _ => 1
def uptoBulkAll {H : Type} : List (DataW H) → Nat
  | [] => 0
  | d :: r => uptoBulk d + uptoBulkAll r
def uptoBulkEntries {H : Type} : List (Lit × DataW H) → Nat
  | [] => 0
  | x :: r => uptoBulkEntry x + uptoBulkEntries r
def uptoBulkEntry {H : Type} : Lit × DataW H → Nat
  | (.string bytes, d) => bytes.length + uptoBulk d + 1
  | (_, d) => uptoBulk d + 1
 end
def uptoSmall : (H : Type) → List (DataW H) → Bool := fun _ ds => decide (uptoBulkAll ds ≤ 1048576)
def OpenSpec.upto (s : _root_.Go.ChangeSpec) : _root_.Go.OpenSpec := { _root_.Go.OpenSpec.ofChange s with cond := some uptoSmall }

/-- 'recyclinglaw36.ControlOrders', WHERE WHAT IT READS IS OF BULK AT MOST 1048576: true; the input reads as it did. -/
def controlOrdersUptoRow : OpenClaim := { program := "ytfnghkmchlfooaa", sum := "67d04e43d690ea0636278b3482cde6b7cf39da329daab71c3b5bd986eb6c210c", func := "recycling/recyclinglaw36.ControlOrders", spec := "controlOrders", unfollowed := true, recurses := true, apart := false, narrowed := true }
def ControlOrdersUptoSaid : Prop := controlOrdersUptoRow.holds Try.pinned (OpenSpec.upto controlOrdersSpec)

/-- 'recyclinglaw36.ControlRuns', WHERE WHAT IT READS IS OF BULK AT MOST 1048576: true; the input reads as it did. -/
def controlRunsUptoRow : OpenClaim := { program := "ytfnghkmchlfooaa", sum := "67d04e43d690ea0636278b3482cde6b7cf39da329daab71c3b5bd986eb6c210c", func := "recycling/recyclinglaw36.ControlRuns", spec := "controlRuns", unfollowed := true, recurses := true, apart := false, narrowed := true }
def ControlRunsUptoSaid : Prop := controlRunsUptoRow.holds Try.pinned (OpenSpec.upto controlRunsSpec)

/-- 'recyclinglaw36.ControlSafe', WHERE WHAT IT READS IS OF BULK AT MOST 1048576: true; the input reads as it did. -/
def controlSafeUptoRow : OpenClaim := { program := "ytfnghkmchlfooaa", sum := "67d04e43d690ea0636278b3482cde6b7cf39da329daab71c3b5bd986eb6c210c", func := "recycling/recyclinglaw36.ControlSafe", spec := "controlSafe", unfollowed := true, recurses := true, apart := false, narrowed := true }
def ControlSafeUptoSaid : Prop := controlSafeUptoRow.holds Try.pinned (OpenSpec.upto controlSafeSpec)

/-- 'recyclinglaw36.ControlStarts', WHERE WHAT IT READS IS OF BULK AT MOST 1048576: true; the input reads as it did. -/
def controlStartsUptoRow : OpenClaim := { program := "ytfnghkmchlfooaa", sum := "67d04e43d690ea0636278b3482cde6b7cf39da329daab71c3b5bd986eb6c210c", func := "recycling/recyclinglaw36.ControlStarts", spec := "controlStarts", unfollowed := true, recurses := true, apart := false, narrowed := true }
def ControlStartsUptoSaid : Prop := controlStartsUptoRow.holds Try.pinned (OpenSpec.upto controlStartsSpec)

/-- 'recyclinglaw36.ControlStops', WHERE WHAT IT READS IS OF BULK AT MOST 1048576: true; the input reads as it did. -/
def controlStopsUptoRow : OpenClaim := { program := "ytfnghkmchlfooaa", sum := "67d04e43d690ea0636278b3482cde6b7cf39da329daab71c3b5bd986eb6c210c", func := "recycling/recyclinglaw36.ControlStops", spec := "controlStops", unfollowed := true, recurses := true, apart := false, narrowed := true }
def ControlStopsUptoSaid : Prop := controlStopsUptoRow.holds Try.pinned (OpenSpec.upto controlStopsSpec)

/-- 'recyclinglaw36.ControlJams', WHERE WHAT IT READS IS OF BULK AT MOST 1048576: true; the input reads as it did. -/
def controlJamsUptoRow : OpenClaim := { program := "ytfnghkmchlfooaa", sum := "67d04e43d690ea0636278b3482cde6b7cf39da329daab71c3b5bd986eb6c210c", func := "recycling/recyclinglaw36.ControlJams", spec := "controlJams", unfollowed := true, recurses := true, apart := false, narrowed := true }
def ControlJamsUptoSaid : Prop := controlJamsUptoRow.holds Try.pinned (OpenSpec.upto controlJamsSpec)

/-- 'recyclinglaw36.ControlGroups', WHERE WHAT IT READS IS OF BULK AT MOST 1048576: true; the input reads as it did. -/
def controlGroupsUptoRow : OpenClaim := { program := "ytfnghkmchlfooaa", sum := "67d04e43d690ea0636278b3482cde6b7cf39da329daab71c3b5bd986eb6c210c", func := "recycling/recyclinglaw36.ControlGroups", spec := "controlGroups", unfollowed := true, recurses := true, apart := false, narrowed := true }
def ControlGroupsUptoSaid : Prop := controlGroupsUptoRow.holds Try.pinned (OpenSpec.upto controlGroupsSpec)

/-- 'recyclinglaw36.ControlNil', WHERE WHAT IT READS IS OF BULK AT MOST 1048576: true; the input reads as it did. -/
def controlNilUptoRow : OpenClaim := { program := "ytfnghkmchlfooaa", sum := "67d04e43d690ea0636278b3482cde6b7cf39da329daab71c3b5bd986eb6c210c", func := "recycling/recyclinglaw36.ControlNil", spec := "controlNil", unfollowed := true, recurses := true, apart := false, narrowed := true }
def ControlNilUptoSaid : Prop := controlNilUptoRow.holds Try.pinned (OpenSpec.upto controlNilSpec)

end Rows
end Go.Proofs.Ytfnghkmchlfooaa
