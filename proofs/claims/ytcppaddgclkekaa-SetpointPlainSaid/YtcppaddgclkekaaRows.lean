/-
  No cell of these rows narrows 'for every input' (looked for: loops, veiled, ifaces, maps, wideKeys, modest, calm, conditions, laid).
  DERIVED. THE GIVEN ROWS OF THIS SEAT. 4 by the template 'for every input the law returns true; each argument reads behind the call as it read before'; 0 by the template 'total and deterministic' (their statements: YtcppaddgclkekaaTotals.lean).
  GIVEN WITH THE SEED: the statements are not yours to turn. If you find one false, say at which input.
  Laid BY PROGRAM, IN A SANDBOX (cutbox-rows.mjs): the forced cells as the released guide's own fill.sh prints them over the translation ce94725feb0d24cd… (all of the seat's roots in one cut). By AI agents, Wed Nov 11 2026. No macro, syntax, notation, axiom, sorry.
-/
import Derived.Test.YtcppaddgclkekaaChecked
import GoSem.Claim
import GoSem.ClaimJoined
import GoSem.ClaimMapViews
import Derived.JoinedTies
import Derived.KernelRfl
namespace Go.Proofs.Ytcppaddgclkekaa
/- THE CELL 'sum', in the pinned program and in every row, IS THE sha256 OF THE DUMP (.gsa) THAT YtcppaddgclkekaaProg.lean LOADS. Nothing in Lean hashes anything: it is a label: what it is worth is what the hold of that sum in a sandbox is worth. -/
noncomputable def Try.pinned : Pinned := { name := "ytcppaddgclkekaa", sum := "ce94725feb0d24cdc010040580ad7896ebc0783ebb3430d95e4ea70995627d57", checked := Try.checked }
namespace Rows
def none {H : Type} : Left H := { results := [], args := [] }

/-- 'recyclinglaw37.SetpointApplies': WHATEVER THE INPUT: true; the input reads as it did. -/
def setpointAppliesSpec : ChangeSpec := { name := "setpointApplies", fn := fun _ => fun
  | [d1, d2, d3] => { results := [.lit (.bool true)], args := [d1, d2, d3] }
  | _ => none }
def setpointAppliesRow : OpenClaim := { program := "ytcppaddgclkekaa", sum := "ce94725feb0d24cdc010040580ad7896ebc0783ebb3430d95e4ea70995627d57", func := "recycling/recyclinglaw37.SetpointApplies", spec := "setpointApplies", unfollowed := true, recurses := true, named := ["math/bits.divideError", "math/bits.overflowError"], apart := false }
def SetpointAppliesSaid : Prop := setpointAppliesRow.holds Try.pinned (OpenSpec.ofChange setpointAppliesSpec)

/-- ITS FALSE NEIGHBOUR: 'it returns false'. Refute it at one input. -/
def setpointAppliesWrong : ChangeSpec := { name := "setpointApplies", fn := fun _ => fun
  | [d1, d2, d3] => { results := [.lit (.bool false)], args := [d1, d2, d3] }
  | _ => none }
def SetpointAppliesWrongFalsely : Prop := setpointAppliesRow.holds Try.pinned (OpenSpec.ofChange setpointAppliesWrong)

/-- 'recyclinglaw37.SetpointConserves': WHATEVER THE INPUT: true; the input reads as it did. -/
def setpointConservesSpec : ChangeSpec := { name := "setpointConserves", fn := fun _ => fun
  | [d1, d2] => { results := [.lit (.bool true)], args := [d1, d2] }
  | _ => none }
def setpointConservesRow : OpenClaim := { program := "ytcppaddgclkekaa", sum := "ce94725feb0d24cdc010040580ad7896ebc0783ebb3430d95e4ea70995627d57", func := "recycling/recyclinglaw37.SetpointConserves", spec := "setpointConserves", unfollowed := true, recurses := true, named := ["math/bits.divideError", "math/bits.overflowError"], apart := false }
def SetpointConservesSaid : Prop := setpointConservesRow.holds Try.pinned (OpenSpec.ofChange setpointConservesSpec)

/-- ITS FALSE NEIGHBOUR: 'it returns false'. Refute it at one input. -/
def setpointConservesWrong : ChangeSpec := { name := "setpointConserves", fn := fun _ => fun
  | [d1, d2] => { results := [.lit (.bool false)], args := [d1, d2] }
  | _ => none }
def SetpointConservesWrongFalsely : Prop := setpointConservesRow.holds Try.pinned (OpenSpec.ofChange setpointConservesWrong)

/-- 'recyclinglaw37.SetpointBest': WHATEVER THE INPUT: true; the input reads as it did. -/
def setpointBestSpec : ChangeSpec := { name := "setpointBest", fn := fun _ => fun
  | [d1, d2] => { results := [.lit (.bool true)], args := [d1, d2] }
  | _ => none }
def setpointBestRow : OpenClaim := { program := "ytcppaddgclkekaa", sum := "ce94725feb0d24cdc010040580ad7896ebc0783ebb3430d95e4ea70995627d57", func := "recycling/recyclinglaw37.SetpointBest", spec := "setpointBest", unfollowed := true, recurses := true, named := ["math/bits.divideError", "math/bits.overflowError"], apart := false }
def SetpointBestSaid : Prop := setpointBestRow.holds Try.pinned (OpenSpec.ofChange setpointBestSpec)

/-- ITS FALSE NEIGHBOUR: 'it returns false'. Refute it at one input. -/
def setpointBestWrong : ChangeSpec := { name := "setpointBest", fn := fun _ => fun
  | [d1, d2] => { results := [.lit (.bool false)], args := [d1, d2] }
  | _ => none }
def SetpointBestWrongFalsely : Prop := setpointBestRow.holds Try.pinned (OpenSpec.ofChange setpointBestWrong)

/-- 'recyclinglaw37.SetpointPlain': WHATEVER THE INPUT: true; the input reads as it did. -/
def setpointPlainSpec : ChangeSpec := { name := "setpointPlain", fn := fun _ => fun
  | [d1, d2, d3] => { results := [.lit (.bool true)], args := [d1, d2, d3] }
  | _ => none }
def setpointPlainRow : OpenClaim := { program := "ytcppaddgclkekaa", sum := "ce94725feb0d24cdc010040580ad7896ebc0783ebb3430d95e4ea70995627d57", func := "recycling/recyclinglaw37.SetpointPlain", spec := "setpointPlain", unfollowed := true, recurses := true, named := ["math/bits.divideError", "math/bits.overflowError"], apart := false }
def SetpointPlainSaid : Prop := setpointPlainRow.holds Try.pinned (OpenSpec.ofChange setpointPlainSpec)

/-- ITS FALSE NEIGHBOUR: 'it returns false'. Refute it at one input. -/
def setpointPlainWrong : ChangeSpec := { name := "setpointPlain", fn := fun _ => fun
  | [d1, d2, d3] => { results := [.lit (.bool false)], args := [d1, d2, d3] }
  | _ => none }
def SetpointPlainWrongFalsely : Prop := setpointPlainRow.holds Try.pinned (OpenSpec.ofChange setpointPlainWrong)

/- THE SECOND FORM. 'bulk': how many values and letters a reading holds, each counted each time it is reached (what is shared counts as often as it is met; a slice's spare places count too). A statement '..UptoSaid' is the law's where the arguments, and the package variables that the reading takes, are together of bulk at most 1048576: NARROWER than '..Said'. Prove '..Said' where nothing that the law and all that it calls make is longer than what came in: it says more and counts as full. Else prove '..UptoSaid'. A law counts once. -/
mutual
def uptoBulk {H : Type} : DataW H → Nat
  | .lit (.string bytes) => bytes.length + 1
  | .lit _ => 1
  | .nil => 1
  | .ptr d => uptoBulk d + 1
  | .slice elems spare => uptoBulkAll elems + uptoBulkAll spare + 1
  | .agg parts => uptoBulkAll parts + 1
  | .iface _ d => uptoBulk d + 1
  | .map entries => uptoBulkEntries entries + 1
  | .held _ => 1
def uptoBulkAll {H : Type} : List (DataW H) → Nat
  | [] => 0
  | d :: r => uptoBulk d + uptoBulkAll r
def uptoBulkEntries {H : Type} : List (Lit × DataW H) → Nat
  | [] => 0
  | x :: r => uptoBulkEntry x + uptoBulkEntries r
def uptoBulkEntry {H : Type} : Lit × DataW H → Nat
  | (.string bytes, d) => bytes.length + uptoBulk d + 1
  | (_, d) => uptoBulk d + 1
 end
def uptoSmall : (H : Type) → List (DataW H) → Bool := fun _ ds => decide (uptoBulkAll ds ≤ 1048576)
def OpenSpec.upto (s : _root_.Go.ChangeSpec) : _root_.Go.OpenSpec := { _root_.Go.OpenSpec.ofChange s with cond := some uptoSmall }

/-- 'recyclinglaw37.SetpointApplies', WHERE WHAT IT READS IS OF BULK AT MOST 1048576: true; the input reads as it did. -/
def setpointAppliesUptoRow : OpenClaim := { program := "ytcppaddgclkekaa", sum := "ce94725feb0d24cdc010040580ad7896ebc0783ebb3430d95e4ea70995627d57", func := "recycling/recyclinglaw37.SetpointApplies", spec := "setpointApplies", unfollowed := true, recurses := true, named := ["math/bits.divideError", "math/bits.overflowError"], apart := false, narrowed := true }
def SetpointAppliesUptoSaid : Prop := setpointAppliesUptoRow.holds Try.pinned (OpenSpec.upto setpointAppliesSpec)

/-- 'recyclinglaw37.SetpointConserves', WHERE WHAT IT READS IS OF BULK AT MOST 1048576: true; the input reads as it did. -/
def setpointConservesUptoRow : OpenClaim := { program := "ytcppaddgclkekaa", sum := "ce94725feb0d24cdc010040580ad7896ebc0783ebb3430d95e4ea70995627d57", func := "recycling/recyclinglaw37.SetpointConserves", spec := "setpointConserves", unfollowed := true, recurses := true, named := ["math/bits.divideError", "math/bits.overflowError"], apart := false, narrowed := true }
def SetpointConservesUptoSaid : Prop := setpointConservesUptoRow.holds Try.pinned (OpenSpec.upto setpointConservesSpec)

/-- 'recyclinglaw37.SetpointBest', WHERE WHAT IT READS IS OF BULK AT MOST 1048576: true; the input reads as it did. -/
def setpointBestUptoRow : OpenClaim := { program := "ytcppaddgclkekaa", sum := "ce94725feb0d24cdc010040580ad7896ebc0783ebb3430d95e4ea70995627d57", func := "recycling/recyclinglaw37.SetpointBest", spec := "setpointBest", unfollowed := true, recurses := true, named := ["math/bits.divideError", "math/bits.overflowError"], apart := false, narrowed := true }
def SetpointBestUptoSaid : Prop := setpointBestUptoRow.holds Try.pinned (OpenSpec.upto setpointBestSpec)

/-- 'recyclinglaw37.SetpointPlain', WHERE WHAT IT READS IS OF BULK AT MOST 1048576: true; the input reads as it did. -/
def setpointPlainUptoRow : OpenClaim := { program := "ytcppaddgclkekaa", sum := "ce94725feb0d24cdc010040580ad7896ebc0783ebb3430d95e4ea70995627d57", func := "recycling/recyclinglaw37.SetpointPlain", spec := "setpointPlain", unfollowed := true, recurses := true, named := ["math/bits.divideError", "math/bits.overflowError"], apart := false, narrowed := true }
def SetpointPlainUptoSaid : Prop := setpointPlainUptoRow.holds Try.pinned (OpenSpec.upto setpointPlainSpec)

end Rows
end Go.Proofs.Ytcppaddgclkekaa
