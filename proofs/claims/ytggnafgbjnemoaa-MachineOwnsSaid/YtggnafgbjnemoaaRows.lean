/-
  No cell of these rows narrows 'for every input' (looked for: loops, veiled, ifaces, maps, wideKeys, modest, calm, conditions, laid).
  DERIVED. THE GIVEN ROWS OF THIS SEAT. 7 by the template 'for every input the law returns true; each argument reads behind the call as it read before'; 0 by the template 'total and deterministic' (their statements: YtggnafgbjnemoaaTotals.lean).
  GIVEN WITH THE SEED: the statements are not yours to turn. If you find one false, say at which input.
  Laid BY PROGRAM, IN A SANDBOX (cutbox-rows.mjs): the forced cells as the released guide's own fill.sh prints them over the translation ea0f2cca8a5fc784… (all of the seat's roots in one cut). By AI agents, Wed Nov 11 2026. No macro, syntax, notation, axiom, sorry.
-/
import Derived.Test.YtggnafgbjnemoaaChecked
import GoSem.Claim
import GoSem.ClaimJoined
import GoSem.ClaimMapViews
import Derived.JoinedTies
import Derived.KernelRfl
namespace Go.Proofs.Ytggnafgbjnemoaa
/- THE CELL 'sum', in the pinned program and in every row, IS THE sha256 OF THE DUMP (.gsa) THAT YtggnafgbjnemoaaProg.lean LOADS. Nothing in Lean hashes anything: it is a label: what it is worth is what the hold of that sum in a sandbox is worth. -/
noncomputable def Try.pinned : Pinned := { name := "ytggnafgbjnemoaa", sum := "ea0f2cca8a5fc784b1d000ed719b663a41cb86333001e4f20ebfb5a5886b6e9b", checked := Try.checked }
namespace Rows
def none {H : Type} : Left H := { results := [], args := [] }

/-- 'recyclinglaw33.MachineChecks': WHATEVER THE INPUT: true; the input reads as it did. -/
def machineChecksSpec : ChangeSpec := { name := "machineChecks", fn := fun _ => fun
  | [d1, d2] => { results := [.lit (.bool true)], args := [d1, d2] }
  | _ => none }
def machineChecksRow : OpenClaim := { program := "ytggnafgbjnemoaa", sum := "ea0f2cca8a5fc784b1d000ed719b663a41cb86333001e4f20ebfb5a5886b6e9b", func := "recycling/recyclinglaw33.MachineChecks", spec := "machineChecks", unfollowed := true, recurses := true, named := ["math/bits.divideError", "math/bits.overflowError"], apart := false }
def MachineChecksSaid : Prop := machineChecksRow.holds Try.pinned (OpenSpec.ofChange machineChecksSpec)

/-- ITS FALSE NEIGHBOUR: 'it returns false'. Refute it at one input. -/
def machineChecksWrong : ChangeSpec := { name := "machineChecks", fn := fun _ => fun
  | [d1, d2] => { results := [.lit (.bool false)], args := [d1, d2] }
  | _ => none }
def MachineChecksWrongFalsely : Prop := machineChecksRow.holds Try.pinned (OpenSpec.ofChange machineChecksWrong)

/-- 'recyclinglaw33.MachineMains': WHATEVER THE INPUT: true; the input reads as it did. -/
def machineMainsSpec : ChangeSpec := { name := "machineMains", fn := fun _ => fun
  | [d1, d2, d3] => { results := [.lit (.bool true)], args := [d1, d2, d3] }
  | _ => none }
def machineMainsRow : OpenClaim := { program := "ytggnafgbjnemoaa", sum := "ea0f2cca8a5fc784b1d000ed719b663a41cb86333001e4f20ebfb5a5886b6e9b", func := "recycling/recyclinglaw33.MachineMains", spec := "machineMains", unfollowed := true, recurses := true, named := ["math/bits.divideError", "math/bits.overflowError"], apart := false }
def MachineMainsSaid : Prop := machineMainsRow.holds Try.pinned (OpenSpec.ofChange machineMainsSpec)

/-- ITS FALSE NEIGHBOUR: 'it returns false'. Refute it at one input. -/
def machineMainsWrong : ChangeSpec := { name := "machineMains", fn := fun _ => fun
  | [d1, d2, d3] => { results := [.lit (.bool false)], args := [d1, d2, d3] }
  | _ => none }
def MachineMainsWrongFalsely : Prop := machineMainsRow.holds Try.pinned (OpenSpec.ofChange machineMainsWrong)

/-- 'recyclinglaw33.MachineSplits': WHATEVER THE INPUT: true; the input reads as it did. -/
def machineSplitsSpec : ChangeSpec := { name := "machineSplits", fn := fun _ => fun
  | [d1, d2] => { results := [.lit (.bool true)], args := [d1, d2] }
  | _ => none }
def machineSplitsRow : OpenClaim := { program := "ytggnafgbjnemoaa", sum := "ea0f2cca8a5fc784b1d000ed719b663a41cb86333001e4f20ebfb5a5886b6e9b", func := "recycling/recyclinglaw33.MachineSplits", spec := "machineSplits", unfollowed := true, recurses := true, named := ["math/bits.divideError", "math/bits.overflowError"], apart := false }
def MachineSplitsSaid : Prop := machineSplitsRow.holds Try.pinned (OpenSpec.ofChange machineSplitsSpec)

/-- ITS FALSE NEIGHBOUR: 'it returns false'. Refute it at one input. -/
def machineSplitsWrong : ChangeSpec := { name := "machineSplits", fn := fun _ => fun
  | [d1, d2] => { results := [.lit (.bool false)], args := [d1, d2] }
  | _ => none }
def MachineSplitsWrongFalsely : Prop := machineSplitsRow.holds Try.pinned (OpenSpec.ofChange machineSplitsWrong)

/-- 'recyclinglaw33.MachineConserves': WHATEVER THE INPUT: true; the input reads as it did. -/
def machineConservesSpec : ChangeSpec := { name := "machineConserves", fn := fun _ => fun
  | [d1, d2] => { results := [.lit (.bool true)], args := [d1, d2] }
  | _ => none }
def machineConservesRow : OpenClaim := { program := "ytggnafgbjnemoaa", sum := "ea0f2cca8a5fc784b1d000ed719b663a41cb86333001e4f20ebfb5a5886b6e9b", func := "recycling/recyclinglaw33.MachineConserves", spec := "machineConserves", unfollowed := true, recurses := true, named := ["math/bits.divideError", "math/bits.overflowError"], apart := false }
def MachineConservesSaid : Prop := machineConservesRow.holds Try.pinned (OpenSpec.ofChange machineConservesSpec)

/-- ITS FALSE NEIGHBOUR: 'it returns false'. Refute it at one input. -/
def machineConservesWrong : ChangeSpec := { name := "machineConserves", fn := fun _ => fun
  | [d1, d2] => { results := [.lit (.bool false)], args := [d1, d2] }
  | _ => none }
def MachineConservesWrongFalsely : Prop := machineConservesRow.holds Try.pinned (OpenSpec.ofChange machineConservesWrong)

/-- 'recyclinglaw33.MachineOwns': WHATEVER THE INPUT: true; the input reads as it did. -/
def machineOwnsSpec : ChangeSpec := { name := "machineOwns", fn := fun _ => fun
  | [d1, d2] => { results := [.lit (.bool true)], args := [d1, d2] }
  | _ => none }
def machineOwnsRow : OpenClaim := { program := "ytggnafgbjnemoaa", sum := "ea0f2cca8a5fc784b1d000ed719b663a41cb86333001e4f20ebfb5a5886b6e9b", func := "recycling/recyclinglaw33.MachineOwns", spec := "machineOwns", unfollowed := true, recurses := true, named := ["math/bits.divideError", "math/bits.overflowError"], apart := false }
def MachineOwnsSaid : Prop := machineOwnsRow.holds Try.pinned (OpenSpec.ofChange machineOwnsSpec)

/-- ITS FALSE NEIGHBOUR: 'it returns false'. Refute it at one input. -/
def machineOwnsWrong : ChangeSpec := { name := "machineOwns", fn := fun _ => fun
  | [d1, d2] => { results := [.lit (.bool false)], args := [d1, d2] }
  | _ => none }
def MachineOwnsWrongFalsely : Prop := machineOwnsRow.holds Try.pinned (OpenSpec.ofChange machineOwnsWrong)

/-- 'recyclinglaw33.MachineThousands': WHATEVER THE INPUT: true; the input reads as it did. -/
def machineThousandsSpec : ChangeSpec := { name := "machineThousands", fn := fun _ => fun
  | [d1, d2] => { results := [.lit (.bool true)], args := [d1, d2] }
  | _ => none }
def machineThousandsRow : OpenClaim := { program := "ytggnafgbjnemoaa", sum := "ea0f2cca8a5fc784b1d000ed719b663a41cb86333001e4f20ebfb5a5886b6e9b", func := "recycling/recyclinglaw33.MachineThousands", spec := "machineThousands", unfollowed := true, recurses := true, named := ["math/bits.divideError", "math/bits.overflowError"], apart := false }
def MachineThousandsSaid : Prop := machineThousandsRow.holds Try.pinned (OpenSpec.ofChange machineThousandsSpec)

/-- ITS FALSE NEIGHBOUR: 'it returns false'. Refute it at one input. -/
def machineThousandsWrong : ChangeSpec := { name := "machineThousands", fn := fun _ => fun
  | [d1, d2] => { results := [.lit (.bool false)], args := [d1, d2] }
  | _ => none }
def MachineThousandsWrongFalsely : Prop := machineThousandsRow.holds Try.pinned (OpenSpec.ofChange machineThousandsWrong)

/-- 'recyclinglaw33.MachineAlone': WHATEVER THE INPUT: true; the input reads as it did. -/
def machineAloneSpec : ChangeSpec := { name := "machineAlone", fn := fun _ => fun
  | [d1, d2] => { results := [.lit (.bool true)], args := [d1, d2] }
  | _ => none }
def machineAloneRow : OpenClaim := { program := "ytggnafgbjnemoaa", sum := "ea0f2cca8a5fc784b1d000ed719b663a41cb86333001e4f20ebfb5a5886b6e9b", func := "recycling/recyclinglaw33.MachineAlone", spec := "machineAlone", unfollowed := true, recurses := true, named := ["math/bits.divideError", "math/bits.overflowError"], apart := false }
def MachineAloneSaid : Prop := machineAloneRow.holds Try.pinned (OpenSpec.ofChange machineAloneSpec)

/-- ITS FALSE NEIGHBOUR: 'it returns false'. Refute it at one input. -/
def machineAloneWrong : ChangeSpec := { name := "machineAlone", fn := fun _ => fun
  | [d1, d2] => { results := [.lit (.bool false)], args := [d1, d2] }
  | _ => none }
def MachineAloneWrongFalsely : Prop := machineAloneRow.holds Try.pinned (OpenSpec.ofChange machineAloneWrong)

/- THE SECOND FORM. 'bulk': how many values and letters a reading holds, each counted each time it is reached (what is shared counts as often as it is met; a slice's spare places count too). A statement '..UptoSaid' is the law's where the arguments, and the package variables that the reading takes, are together of bulk at most 1048576: NARROWER than '..Said'. Prove '..Said' where nothing that the law and all that it calls make is longer than what came in: it says more and counts as full. Else prove '..UptoSaid'. A law counts once. -/
mutual
def uptoBulk {H : Type} : DataW H → Nat
  | .lit (.string bytes) => bytes.length + 1
  | .lit _ => 1
  | .nil => 1
  | .ptr d => uptoBulk d + 1
  | .slice elems spare => uptoBulkAll elems + uptoBulkAll spare + 1
  | .agg parts => uptoBulkAll parts + 1
  | .iface _ d => uptoBulk d + 1
  | .map entries => uptoBulkEntries entries + 1
  | .held _ => 1
def uptoBulkAll {H : Type} : List (DataW H) → Nat
  | [] => 0
  | d :: r => uptoBulk d + uptoBulkAll r
def uptoBulkEntries {H : Type} : List (Lit × DataW H) → Nat
  | [] => 0
  | x :: r => uptoBulkEntry x + uptoBulkEntries r
def uptoBulkEntry {H : Type} : Lit × DataW H → Nat
  | (.string bytes, d) => bytes.length + uptoBulk d + 1
  | (_, d) => uptoBulk d + 1
 end
def uptoSmall : (H : Type) → List (DataW H) → Bool := fun _ ds => decide (uptoBulkAll ds ≤ 1048576)
def OpenSpec.upto (s : _root_.Go.ChangeSpec) : _root_.Go.OpenSpec := { _root_.Go.OpenSpec.ofChange s with cond := some uptoSmall }

/-- 'recyclinglaw33.MachineChecks', WHERE WHAT IT READS IS OF BULK AT MOST 1048576: true; the input reads as it did. -/
def machineChecksUptoRow : OpenClaim := { program := "ytggnafgbjnemoaa", sum := "ea0f2cca8a5fc784b1d000ed719b663a41cb86333001e4f20ebfb5a5886b6e9b", func := "recycling/recyclinglaw33.MachineChecks", spec := "machineChecks", unfollowed := true, recurses := true, named := ["math/bits.divideError", "math/bits.overflowError"], apart := false, narrowed := true }
def MachineChecksUptoSaid : Prop := machineChecksUptoRow.holds Try.pinned (OpenSpec.upto machineChecksSpec)

/-- 'recyclinglaw33.MachineMains', WHERE WHAT IT READS IS OF BULK AT MOST 1048576: true; the input reads as it did. -/
def machineMainsUptoRow : OpenClaim := { program := "ytggnafgbjnemoaa", sum := "ea0f2cca8a5fc784b1d000ed719b663a41cb86333001e4f20ebfb5a5886b6e9b", func := "recycling/recyclinglaw33.MachineMains", spec := "machineMains", unfollowed := true, recurses := true, named := ["math/bits.divideError", "math/bits.overflowError"], apart := false, narrowed := true }
def MachineMainsUptoSaid : Prop := machineMainsUptoRow.holds Try.pinned (OpenSpec.upto machineMainsSpec)

/-- 'recyclinglaw33.MachineSplits', WHERE WHAT IT READS IS OF BULK AT MOST 1048576: true; the input reads as it did. -/
def machineSplitsUptoRow : OpenClaim := { program := "ytggnafgbjnemoaa", sum := "ea0f2cca8a5fc784b1d000ed719b663a41cb86333001e4f20ebfb5a5886b6e9b", func := "recycling/recyclinglaw33.MachineSplits", spec := "machineSplits", unfollowed := true, recurses := true, named := ["math/bits.divideError", "math/bits.overflowError"], apart := false, narrowed := true }
def MachineSplitsUptoSaid : Prop := machineSplitsUptoRow.holds Try.pinned (OpenSpec.upto machineSplitsSpec)

/-- 'recyclinglaw33.MachineConserves', WHERE WHAT IT READS IS OF BULK AT MOST 1048576: true; the input reads as it did. -/
def machineConservesUptoRow : OpenClaim := { program := "ytggnafgbjnemoaa", sum := "ea0f2cca8a5fc784b1d000ed719b663a41cb86333001e4f20ebfb5a5886b6e9b", func := "recycling/recyclinglaw33.MachineConserves", spec := "machineConserves", unfollowed := true, recurses := true, named := ["math/bits.divideError", "math/bits.overflowError"], apart := false, narrowed := true }
def MachineConservesUptoSaid : Prop := machineConservesUptoRow.holds Try.pinned (OpenSpec.upto machineConservesSpec)

/-- 'recyclinglaw33.MachineOwns', WHERE WHAT IT READS IS OF BULK AT MOST 1048576: true; the input reads as it did. -/
def machineOwnsUptoRow : OpenClaim := { program := "ytggnafgbjnemoaa", sum := "ea0f2cca8a5fc784b1d000ed719b663a41cb86333001e4f20ebfb5a5886b6e9b", func := "recycling/recyclinglaw33.MachineOwns", spec := "machineOwns", unfollowed := true, recurses := true, named := ["math/bits.divideError", "math/bits.overflowError"], apart := false, narrowed := true }
def MachineOwnsUptoSaid : Prop := machineOwnsUptoRow.holds Try.pinned (OpenSpec.upto machineOwnsSpec)

/-- 'recyclinglaw33.MachineThousands', WHERE WHAT IT READS IS OF BULK AT MOST 1048576: true; the input reads as it did. -/
def machineThousandsUptoRow : OpenClaim := { program := "ytggnafgbjnemoaa", sum := "ea0f2cca8a5fc784b1d000ed719b663a41cb86333001e4f20ebfb5a5886b6e9b", func := "recycling/recyclinglaw33.MachineThousands", spec := "machineThousands", unfollowed := true, recurses := true, named := ["math/bits.divideError", "math/bits.overflowError"], apart := false, narrowed := true }
def MachineThousandsUptoSaid : Prop := machineThousandsUptoRow.holds Try.pinned (OpenSpec.upto machineThousandsSpec)

/-- 'recyclinglaw33.MachineAlone', WHERE WHAT IT READS IS OF BULK AT MOST 1048576: true; the input reads as it did. -/
def machineAloneUptoRow : OpenClaim := { program := "ytggnafgbjnemoaa", sum := "ea0f2cca8a5fc784b1d000ed719b663a41cb86333001e4f20ebfb5a5886b6e9b", func := "recycling/recyclinglaw33.MachineAlone", spec := "machineAlone", unfollowed := true, recurses := true, named := ["math/bits.divideError", "math/bits.overflowError"], apart := false, narrowed := true }
def MachineAloneUptoSaid : Prop := machineAloneUptoRow.holds Try.pinned (OpenSpec.upto machineAloneSpec)

end Rows
end Go.Proofs.Ytggnafgbjnemoaa
