/-
  No cell of these rows narrows 'for every input' (looked for: loops, veiled, ifaces, maps, wideKeys, modest, calm, conditions, laid).
  DERIVED. THE GIVEN ROWS OF THIS SEAT. 7 by the template 'for every input the law returns true; each argument reads behind the call as it read before'; 0 by the template 'total and deterministic' (their statements: YtbgmhbjfcpddkaaTotals.lean).
  GIVEN WITH THE SEED: the statements are not yours to turn. If you find one false, say at which input.
  Laid BY PROGRAM, IN A SANDBOX (cutbox-rows.mjs): the forced cells as the released guide's own fill.sh prints them over the translation eaa1494aebb7ceaf… (all of the seat's roots in one cut). By AI agents, Wed Nov 11 2026. No macro, syntax, notation, axiom, sorry.
-/
import Derived.Test.YtbgmhbjfcpddkaaChecked
import GoSem.Claim
import GoSem.ClaimJoined
import GoSem.ClaimMapViews
import Derived.JoinedTies
import Derived.KernelRfl
namespace Go.Proofs.Ytbgmhbjfcpddkaa
/- THE CELL 'sum', in the pinned program and in every row, IS THE sha256 OF THE DUMP (.gsa) THAT YtbgmhbjfcpddkaaProg.lean LOADS. Nothing in Lean hashes anything: it is a label: what it is worth is what the hold of that sum in a sandbox is worth. -/
noncomputable def Try.pinned : Pinned := { name := "ytbgmhbjfcpddkaa", sum := "eaa1494aebb7ceaf3c4fcc27ee6866f3999c39d469b6bbd91923385934dacc03", checked := Try.checked }
namespace Rows
def none {H : Type} : Left H := { results := [], args := [] }

/-- 'recyclinglaw38.BalePresses': WHATEVER THE INPUT: true; the input reads as it did. -/
def balePressesSpec : ChangeSpec := { name := "balePresses", fn := fun _ => fun
  | [d] => { results := [.lit (.bool true)], args := [d] }
  | _ => none }
def balePressesRow : OpenClaim := { program := "ytbgmhbjfcpddkaa", sum := "eaa1494aebb7ceaf3c4fcc27ee6866f3999c39d469b6bbd91923385934dacc03", func := "recycling/recyclinglaw38.BalePresses", spec := "balePresses", unfollowed := true, recurses := true, named := ["math/bits.divideError", "math/bits.overflowError"], apart := false }
def BalePressesSaid : Prop := balePressesRow.holds Try.pinned (OpenSpec.ofChange balePressesSpec)

/-- ITS FALSE NEIGHBOUR: 'it returns false'. Refute it at one input. -/
def balePressesWrong : ChangeSpec := { name := "balePresses", fn := fun _ => fun
  | [d] => { results := [.lit (.bool false)], args := [d] }
  | _ => none }
def BalePressesWrongFalsely : Prop := balePressesRow.holds Try.pinned (OpenSpec.ofChange balePressesWrong)

/-- 'recyclinglaw38.BaleChecks': WHATEVER THE INPUT: true; the input reads as it did. -/
def baleChecksSpec : ChangeSpec := { name := "baleChecks", fn := fun _ => fun
  | [d1, d2] => { results := [.lit (.bool true)], args := [d1, d2] }
  | _ => none }
def baleChecksRow : OpenClaim := { program := "ytbgmhbjfcpddkaa", sum := "eaa1494aebb7ceaf3c4fcc27ee6866f3999c39d469b6bbd91923385934dacc03", func := "recycling/recyclinglaw38.BaleChecks", spec := "baleChecks", unfollowed := true, recurses := true, named := ["math/bits.divideError", "math/bits.overflowError"], apart := false }
def BaleChecksSaid : Prop := baleChecksRow.holds Try.pinned (OpenSpec.ofChange baleChecksSpec)

/-- ITS FALSE NEIGHBOUR: 'it returns false'. Refute it at one input. -/
def baleChecksWrong : ChangeSpec := { name := "baleChecks", fn := fun _ => fun
  | [d1, d2] => { results := [.lit (.bool false)], args := [d1, d2] }
  | _ => none }
def BaleChecksWrongFalsely : Prop := baleChecksRow.holds Try.pinned (OpenSpec.ofChange baleChecksWrong)

/-- 'recyclinglaw38.BaleLooks': WHATEVER THE INPUT: true; the input reads as it did. -/
def baleLooksSpec : ChangeSpec := { name := "baleLooks", fn := fun _ => fun
  | [d] => { results := [.lit (.bool true)], args := [d] }
  | _ => none }
def baleLooksRow : OpenClaim := { program := "ytbgmhbjfcpddkaa", sum := "eaa1494aebb7ceaf3c4fcc27ee6866f3999c39d469b6bbd91923385934dacc03", func := "recycling/recyclinglaw38.BaleLooks", spec := "baleLooks", unfollowed := true, recurses := true, named := ["math/bits.divideError", "math/bits.overflowError"], apart := false }
def BaleLooksSaid : Prop := baleLooksRow.holds Try.pinned (OpenSpec.ofChange baleLooksSpec)

/-- ITS FALSE NEIGHBOUR: 'it returns false'. Refute it at one input. -/
def baleLooksWrong : ChangeSpec := { name := "baleLooks", fn := fun _ => fun
  | [d] => { results := [.lit (.bool false)], args := [d] }
  | _ => none }
def BaleLooksWrongFalsely : Prop := baleLooksRow.holds Try.pinned (OpenSpec.ofChange baleLooksWrong)

/-- 'recyclinglaw38.BaleTotals': WHATEVER THE INPUT: true; the input reads as it did. -/
def baleTotalsSpec : ChangeSpec := { name := "baleTotals", fn := fun _ => fun
  | [d1, d2] => { results := [.lit (.bool true)], args := [d1, d2] }
  | _ => none }
def baleTotalsRow : OpenClaim := { program := "ytbgmhbjfcpddkaa", sum := "eaa1494aebb7ceaf3c4fcc27ee6866f3999c39d469b6bbd91923385934dacc03", func := "recycling/recyclinglaw38.BaleTotals", spec := "baleTotals", unfollowed := true, recurses := true, named := ["math/bits.divideError", "math/bits.overflowError"], apart := false }
def BaleTotalsSaid : Prop := baleTotalsRow.holds Try.pinned (OpenSpec.ofChange baleTotalsSpec)

/-- ITS FALSE NEIGHBOUR: 'it returns false'. Refute it at one input. -/
def baleTotalsWrong : ChangeSpec := { name := "baleTotals", fn := fun _ => fun
  | [d1, d2] => { results := [.lit (.bool false)], args := [d1, d2] }
  | _ => none }
def BaleTotalsWrongFalsely : Prop := baleTotalsRow.holds Try.pinned (OpenSpec.ofChange baleTotalsWrong)

/-- 'recyclinglaw38.BaleConserves': WHATEVER THE INPUT: true; the input reads as it did. -/
def baleConservesSpec : ChangeSpec := { name := "baleConserves", fn := fun _ => fun
  | [d] => { results := [.lit (.bool true)], args := [d] }
  | _ => none }
def baleConservesRow : OpenClaim := { program := "ytbgmhbjfcpddkaa", sum := "eaa1494aebb7ceaf3c4fcc27ee6866f3999c39d469b6bbd91923385934dacc03", func := "recycling/recyclinglaw38.BaleConserves", spec := "baleConserves", unfollowed := true, recurses := true, named := ["math/bits.divideError", "math/bits.overflowError"], apart := false }
def BaleConservesSaid : Prop := baleConservesRow.holds Try.pinned (OpenSpec.ofChange baleConservesSpec)

/-- ITS FALSE NEIGHBOUR: 'it returns false'. Refute it at one input. -/
def baleConservesWrong : ChangeSpec := { name := "baleConserves", fn := fun _ => fun
  | [d] => { results := [.lit (.bool false)], args := [d] }
  | _ => none }
def BaleConservesWrongFalsely : Prop := baleConservesRow.holds Try.pinned (OpenSpec.ofChange baleConservesWrong)

/-- 'recyclinglaw38.BaleValid': WHATEVER THE INPUT: true; the input reads as it did. -/
def baleValidSpec : ChangeSpec := { name := "baleValid", fn := fun _ => fun
  | [d] => { results := [.lit (.bool true)], args := [d] }
  | _ => none }
def baleValidRow : OpenClaim := { program := "ytbgmhbjfcpddkaa", sum := "eaa1494aebb7ceaf3c4fcc27ee6866f3999c39d469b6bbd91923385934dacc03", func := "recycling/recyclinglaw38.BaleValid", spec := "baleValid", unfollowed := true, recurses := true, named := ["math/bits.divideError", "math/bits.overflowError"], apart := false }
def BaleValidSaid : Prop := baleValidRow.holds Try.pinned (OpenSpec.ofChange baleValidSpec)

/-- ITS FALSE NEIGHBOUR: 'it returns false'. Refute it at one input. -/
def baleValidWrong : ChangeSpec := { name := "baleValid", fn := fun _ => fun
  | [d] => { results := [.lit (.bool false)], args := [d] }
  | _ => none }
def BaleValidWrongFalsely : Prop := baleValidRow.holds Try.pinned (OpenSpec.ofChange baleValidWrong)

/-- 'recyclinglaw38.BaleProportions': WHATEVER THE INPUT: true; the input reads as it did. -/
def baleProportionsSpec : ChangeSpec := { name := "baleProportions", fn := fun _ => fun
  | [d] => { results := [.lit (.bool true)], args := [d] }
  | _ => none }
def baleProportionsRow : OpenClaim := { program := "ytbgmhbjfcpddkaa", sum := "eaa1494aebb7ceaf3c4fcc27ee6866f3999c39d469b6bbd91923385934dacc03", func := "recycling/recyclinglaw38.BaleProportions", spec := "baleProportions", unfollowed := true, recurses := true, named := ["math/bits.divideError", "math/bits.overflowError"], apart := false }
def BaleProportionsSaid : Prop := baleProportionsRow.holds Try.pinned (OpenSpec.ofChange baleProportionsSpec)

/-- ITS FALSE NEIGHBOUR: 'it returns false'. Refute it at one input. -/
def baleProportionsWrong : ChangeSpec := { name := "baleProportions", fn := fun _ => fun
  | [d] => { results := [.lit (.bool false)], args := [d] }
  | _ => none }
def BaleProportionsWrongFalsely : Prop := baleProportionsRow.holds Try.pinned (OpenSpec.ofChange baleProportionsWrong)

/- THE SECOND FORM. 'bulk': how many values and letters a reading holds, each counted each time it is reached (what is shared counts as often as it is met; a slice's spare places count too). A statement '..UptoSaid' is the law's where the arguments, and the package variables that the reading takes, are together of bulk at most 1048576: NARROWER than '..Said'. Prove '..Said' where nothing that the law and all that it calls make is longer than what came in: it says more and counts as full. Else prove '..UptoSaid'. A law counts once. -/
mutual
def uptoBulk {H : Type} : DataW H → Nat
  | .lit (.string bytes) => bytes.length + 1
  | .lit _ => 1
  | .nil => 1
  | .ptr d => uptoBulk d + 1
  | .slice elems spare => uptoBulkAll elems + uptoBulkAll spare + 1
  | .agg parts => uptoBulkAll parts + 1
  | .iface _ d => uptoBulk d + 1
  | .map entries => uptoBulkEntries entries + 1
  | .held _ => 1
def uptoBulkAll {H : Type} : List (DataW H) → Nat
  | [] => 0
  | d :: r => uptoBulk d + uptoBulkAll r
def uptoBulkEntries {H : Type} : List (Lit × DataW H) → Nat
  | [] => 0
  | x :: r => uptoBulkEntry x + uptoBulkEntries r
def uptoBulkEntry {H : Type} : Lit × DataW H → Nat
  | (.string bytes, d) => bytes.length + uptoBulk d + 1
  | (_, d) => uptoBulk d + 1
 end
def uptoSmall : (H : Type) → List (DataW H) → Bool := fun _ ds => decide (uptoBulkAll ds ≤ 1048576)
def OpenSpec.upto (s : _root_.Go.ChangeSpec) : _root_.Go.OpenSpec := { _root_.Go.OpenSpec.ofChange s with cond := some uptoSmall }

/-- 'recyclinglaw38.BalePresses', WHERE WHAT IT READS IS OF BULK AT MOST 1048576: true; the input reads as it did. -/
def balePressesUptoRow : OpenClaim := { program := "ytbgmhbjfcpddkaa", sum := "eaa1494aebb7ceaf3c4fcc27ee6866f3999c39d469b6bbd91923385934dacc03", func := "recycling/recyclinglaw38.BalePresses", spec := "balePresses", unfollowed := true, recurses := true, named := ["math/bits.divideError", "math/bits.overflowError"], apart := false, narrowed := true }
def BalePressesUptoSaid : Prop := balePressesUptoRow.holds Try.pinned (OpenSpec.upto balePressesSpec)

/-- 'recyclinglaw38.BaleChecks', WHERE WHAT IT READS IS OF BULK AT MOST 1048576: true; the input reads as it did. -/
def baleChecksUptoRow : OpenClaim := { program := "ytbgmhbjfcpddkaa", sum := "eaa1494aebb7ceaf3c4fcc27ee6866f3999c39d469b6bbd91923385934dacc03", func := "recycling/recyclinglaw38.BaleChecks", spec := "baleChecks", unfollowed := true, recurses := true, named := ["math/bits.divideError", "math/bits.overflowError"], apart := false, narrowed := true }
def BaleChecksUptoSaid : Prop := baleChecksUptoRow.holds Try.pinned (OpenSpec.upto baleChecksSpec)

/-- 'recyclinglaw38.BaleLooks', WHERE WHAT IT READS IS OF BULK AT MOST 1048576: true; the input reads as it did. -/
def baleLooksUptoRow : OpenClaim := { program := "ytbgmhbjfcpddkaa", sum := "eaa1494aebb7ceaf3c4fcc27ee6866f3999c39d469b6bbd91923385934dacc03", func := "recycling/recyclinglaw38.BaleLooks", spec := "baleLooks", unfollowed := true, recurses := true, named := ["math/bits.divideError", "math/bits.overflowError"], apart := false, narrowed := true }
def BaleLooksUptoSaid : Prop := baleLooksUptoRow.holds Try.pinned (OpenSpec.upto baleLooksSpec)

/-- 'recyclinglaw38.BaleTotals', WHERE WHAT IT READS IS OF BULK AT MOST 1048576: true; the input reads as it did. -/
def baleTotalsUptoRow : OpenClaim := { program := "ytbgmhbjfcpddkaa", sum := "eaa1494aebb7ceaf3c4fcc27ee6866f3999c39d469b6bbd91923385934dacc03", func := "recycling/recyclinglaw38.BaleTotals", spec := "baleTotals", unfollowed := true, recurses := true, named := ["math/bits.divideError", "math/bits.overflowError"], apart := false, narrowed := true }
def BaleTotalsUptoSaid : Prop := baleTotalsUptoRow.holds Try.pinned (OpenSpec.upto baleTotalsSpec)

/-- 'recyclinglaw38.BaleConserves', WHERE WHAT IT READS IS OF BULK AT MOST 1048576: true; the input reads as it did. -/
def baleConservesUptoRow : OpenClaim := { program := "ytbgmhbjfcpddkaa", sum := "eaa1494aebb7ceaf3c4fcc27ee6866f3999c39d469b6bbd91923385934dacc03", func := "recycling/recyclinglaw38.BaleConserves", spec := "baleConserves", unfollowed := true, recurses := true, named := ["math/bits.divideError", "math/bits.overflowError"], apart := false, narrowed := true }
def BaleConservesUptoSaid : Prop := baleConservesUptoRow.holds Try.pinned (OpenSpec.upto baleConservesSpec)

/-- 'recyclinglaw38.BaleValid', WHERE WHAT IT READS IS OF BULK AT MOST 1048576: true; the input reads as it did. -/
def baleValidUptoRow : OpenClaim := { program := "ytbgmhbjfcpddkaa", sum := "eaa1494aebb7ceaf3c4fcc27ee6866f3999c39d469b6bbd91923385934dacc03", func := "recycling/recyclinglaw38.BaleValid", spec := "baleValid", unfollowed := true, recurses := true, named := ["math/bits.divideError", "math/bits.overflowError"], apart := false, narrowed := true }
def BaleValidUptoSaid : Prop := baleValidUptoRow.holds Try.pinned (OpenSpec.upto baleValidSpec)

/-- 'recyclinglaw38.BaleProportions', WHERE WHAT IT READS IS OF BULK AT MOST 1048576: true; the input reads as it did. -/
def baleProportionsUptoRow : OpenClaim := { program := "ytbgmhbjfcpddkaa", sum := "eaa1494aebb7ceaf3c4fcc27ee6866f3999c39d469b6bbd91923385934dacc03", func := "recycling/recyclinglaw38.BaleProportions", spec := "baleProportions", unfollowed := true, recurses := true, named := ["math/bits.divideError", "math/bits.overflowError"], apart := false, narrowed := true }
def BaleProportionsUptoSaid : Prop := baleProportionsUptoRow.holds Try.pinned (OpenSpec.upto baleProportionsSpec)

end Rows
end Go.Proofs.Ytbgmhbjfcpddkaa
