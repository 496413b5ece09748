/-
  No cell of these rows narrows 'for every input' (looked for: loops, veiled, ifaces, maps, wideKeys, modest, calm, conditions, laid).
  DERIVED. THE GIVEN ROWS OF THIS SEAT. 2 by the template 'for every input the law returns true; each argument reads behind the call as it read before'; 0 by the template 'total and deterministic' (their statements: YtdkoindoljngmaaGreatTotals.lean).
  GIVEN WITH THE SEED: the statements are not yours to turn. If you find one false, say at which input.
  Laid BY PROGRAM, IN A SANDBOX (cutbox-rows.mjs): the forced cells as the released guide's own fill.sh prints them over the translation 514bad34d95f6f5f… (all of the seat's roots in one cut). By AI agents, Wed Nov 11 2026. No macro, syntax, notation, axiom, sorry.
-/
import Derived.Test.YtdkoindoljngmaaGreatChecked
import GoSem.Claim
import GoSem.ClaimJoined
import GoSem.ClaimMapViews
import Derived.JoinedTies
import Derived.KernelRfl
namespace Go.Proofs.YtdkoindoljngmaaGreat
/- THE CELL 'sum', in the pinned program and in every row, IS THE sha256 OF THE DUMP (.gsa) THAT YtdkoindoljngmaaGreatProg.lean LOADS. Nothing in Lean hashes anything: it is a label: what it is worth is what the hold of that sum in a sandbox is worth. -/
noncomputable def Tryz.pinned : Pinned := { name := "ytdkoindoljngmaagreat", sum := "514bad34d95f6f5f4c480bcb18d30be7d5249f972dc8196749d2ddb91c1ebc78", checked := Tryz.checked }
namespace Rows
def none {H : Type} : Left H := { results := [], args := [] }

/-- 'recyclinglaw35.PlantCalls': WHATEVER THE INPUT: true; the input reads as it did. -/
def plantCallsSpec : ChangeSpec := { name := "plantCalls", fn := fun _ => fun
  | [d1, d2] => { results := [.lit (.bool true)], args := [d1, d2] }
  | _ => none }
def plantCallsRow : OpenClaim := { program := "ytdkoindoljngmaagreat", sum := "514bad34d95f6f5f4c480bcb18d30be7d5249f972dc8196749d2ddb91c1ebc78", func := "recycling/recyclinglaw35.PlantCalls", spec := "plantCalls", unfollowed := true, recurses := true, named := ["math/bits.divideError", "math/bits.overflowError"], apart := false }
def PlantCallsSaid : Prop := plantCallsRow.holds Tryz.pinned (OpenSpec.ofChange plantCallsSpec)

/-- ITS FALSE NEIGHBOUR: 'it returns false'. Refute it at one input. -/
def plantCallsWrong : ChangeSpec := { name := "plantCalls", fn := fun _ => fun
  | [d1, d2] => { results := [.lit (.bool false)], args := [d1, d2] }
  | _ => none }
def PlantCallsWrongFalsely : Prop := plantCallsRow.holds Tryz.pinned (OpenSpec.ofChange plantCallsWrong)

/-- 'recyclingtop.TopControlPlant': WHATEVER THE INPUT: true; the input reads as it did. -/
def topControlPlantSpec : ChangeSpec := { name := "topControlPlant", fn := fun _ => fun
  | [d1, d2, d3] => { results := [.lit (.bool true)], args := [d1, d2, d3] }
  | _ => none }
def topControlPlantRow : OpenClaim := { program := "ytdkoindoljngmaagreat", sum := "514bad34d95f6f5f4c480bcb18d30be7d5249f972dc8196749d2ddb91c1ebc78", func := "recycling/recyclingtop.TopControlPlant", spec := "topControlPlant", unfollowed := true, recurses := true, named := ["math/bits.divideError", "math/bits.overflowError"], apart := false }
def TopControlPlantSaid : Prop := topControlPlantRow.holds Tryz.pinned (OpenSpec.ofChange topControlPlantSpec)

/-- ITS FALSE NEIGHBOUR: 'it returns false'. Refute it at one input. -/
def topControlPlantWrong : ChangeSpec := { name := "topControlPlant", fn := fun _ => fun
  | [d1, d2, d3] => { results := [.lit (.bool false)], args := [d1, d2, d3] }
  | _ => none }
def TopControlPlantWrongFalsely : Prop := topControlPlantRow.holds Tryz.pinned (OpenSpec.ofChange topControlPlantWrong)

/- THE SECOND FORM. 'bulk': how many values and letters a reading holds, each counted each time it is reached (what is shared counts as often as it is met; a slice's spare places count too). A statement '..UptoSaid' is the law's where the arguments, and the package variables that the reading takes, are together of bulk at most 1048576: NARROWER than '..Said'. Prove '..Said' where nothing that the law and all that it calls make is longer than what came in: it says more and counts as full. Else prove '..UptoSaid'. A law counts once. -/
mutual
def uptoBulk {H : Type} : DataW H → Nat
  | .lit (.string bytes) => bytes.length + 1
  | .lit _ => 1
  | .nil => 1
  | .ptr d => uptoBulk d + 1
  | .slice elems spare => uptoBulkAll elems + uptoBulkAll spare + 1
  | .agg parts => uptoBulkAll parts + 1
  | .iface _ d => uptoBulk d + 1
  | .map entries => uptoBulkEntries entries + 1
  | .held _ => 1
def uptoBulkAll {H : Type} : List (DataW H) → Nat
  | [] => 0
  | d :: r => uptoBulk d + uptoBulkAll r
def uptoBulkEntries {H : Type} : List (Lit × DataW H) → Nat
  | [] => 0
  | x :: r => uptoBulkEntry x + uptoBulkEntries r
def uptoBulkEntry {H : Type} : Lit × DataW H → Nat
  | (.string bytes, d) => bytes.length + uptoBulk d + 1
  | (_, d) => uptoBulk d + 1
 end
def uptoSmall : (H : Type) → List (DataW H) → Bool := fun _ ds => decide (uptoBulkAll ds ≤ 1048576)
def OpenSpec.upto (s : _root_.Go.ChangeSpec) : _root_.Go.OpenSpec := { _root_.Go.OpenSpec.ofChange s with cond := some uptoSmall }

/-- 'recyclinglaw35.PlantCalls', WHERE WHAT IT READS IS OF BULK AT MOST 1048576: true; the input reads as it did. -/
def plantCallsUptoRow : OpenClaim := { program := "ytdkoindoljngmaagreat", sum := "514bad34d95f6f5f4c480bcb18d30be7d5249f972dc8196749d2ddb91c1ebc78", func := "recycling/recyclinglaw35.PlantCalls", spec := "plantCalls", unfollowed := true, recurses := true, named := ["math/bits.divideError", "math/bits.overflowError"], apart := false, narrowed := true }
def PlantCallsUptoSaid : Prop := plantCallsUptoRow.holds Tryz.pinned (OpenSpec.upto plantCallsSpec)

/-- 'recyclingtop.TopControlPlant', WHERE WHAT IT READS IS OF BULK AT MOST 1048576: true; the input reads as it did. -/
def topControlPlantUptoRow : OpenClaim := { program := "ytdkoindoljngmaagreat", sum := "514bad34d95f6f5f4c480bcb18d30be7d5249f972dc8196749d2ddb91c1ebc78", func := "recycling/recyclingtop.TopControlPlant", spec := "topControlPlant", unfollowed := true, recurses := true, named := ["math/bits.divideError", "math/bits.overflowError"], apart := false, narrowed := true }
def TopControlPlantUptoSaid : Prop := topControlPlantUptoRow.holds Tryz.pinned (OpenSpec.upto topControlPlantSpec)

end Rows
end Go.Proofs.YtdkoindoljngmaaGreat
