/-
  No cell of these rows narrows 'for every input' (looked for: loops, veiled, ifaces, maps, wideKeys, modest, calm, conditions, laid).
  DERIVED. THE GIVEN ROWS OF THIS SEAT. 8 by the template 'for every input the law returns true; each argument reads behind the call as it read before'; 0 by the template 'total and deterministic' (their statements: YtnpbnlafaoldcaaTotals.lean).
  GIVEN WITH THE SEED: the statements are not yours to turn. If you find one false, say at which input.
  Laid BY PROGRAM, IN A SANDBOX (cutbox-rows.mjs): the forced cells as the released guide's own fill.sh prints them over the translation 65c80370771d3b68… (all of the seat's roots in one cut). By AI agents, Wed Nov 11 2026. No macro, syntax, notation, axiom, sorry.
-/
import Derived.Test.YtnpbnlafaoldcaaChecked
import GoSem.Claim
import GoSem.ClaimJoined
import GoSem.ClaimMapViews
import Derived.JoinedTies
import Derived.KernelRfl
namespace Go.Proofs.Ytnpbnlafaoldcaa
/- THE CELL 'sum', in the pinned program and in every row, IS THE sha256 OF THE DUMP (.gsa) THAT YtnpbnlafaoldcaaProg.lean LOADS. Nothing in Lean hashes anything: it is a label: what it is worth is what the hold of that sum in a sandbox is worth. -/
noncomputable def Try.pinned : Pinned := { name := "ytnpbnlafaoldcaa", sum := "65c80370771d3b68d357211c7e43e9a68ac7f115359d252772d2d5fa51825993", checked := Try.checked }
namespace Rows
def none {H : Type} : Left H := { results := [], args := [] }

/-- 'recyclinglaw11.ShareNew': WHATEVER THE INPUT: true; the input reads as it did. -/
def shareNewSpec : ChangeSpec := { name := "shareNew", fn := fun _ => fun
  | [d1, d2] => { results := [.lit (.bool true)], args := [d1, d2] }
  | _ => none }
def shareNewRow : OpenClaim := { program := "ytnpbnlafaoldcaa", sum := "65c80370771d3b68d357211c7e43e9a68ac7f115359d252772d2d5fa51825993", func := "recycling/recyclinglaw11.ShareNew", spec := "shareNew", apart := false }
def ShareNewSaid : Prop := shareNewRow.holds Try.pinned (OpenSpec.ofChange shareNewSpec)

/-- ITS FALSE NEIGHBOUR: 'it returns false'. Refute it at one input. -/
def shareNewWrong : ChangeSpec := { name := "shareNew", fn := fun _ => fun
  | [d1, d2] => { results := [.lit (.bool false)], args := [d1, d2] }
  | _ => none }
def ShareNewWrongFalsely : Prop := shareNewRow.holds Try.pinned (OpenSpec.ofChange shareNewWrong)

/-- 'recyclinglaw11.ShareCarry': WHATEVER THE INPUT: true; the input reads as it did. -/
def shareCarrySpec : ChangeSpec := { name := "shareCarry", fn := fun _ => fun
  | [d1, d2] => { results := [.lit (.bool true)], args := [d1, d2] }
  | _ => none }
def shareCarryRow : OpenClaim := { program := "ytnpbnlafaoldcaa", sum := "65c80370771d3b68d357211c7e43e9a68ac7f115359d252772d2d5fa51825993", func := "recycling/recyclinglaw11.ShareCarry", spec := "shareCarry", apart := false }
def ShareCarrySaid : Prop := shareCarryRow.holds Try.pinned (OpenSpec.ofChange shareCarrySpec)

/-- ITS FALSE NEIGHBOUR: 'it returns false'. Refute it at one input. -/
def shareCarryWrong : ChangeSpec := { name := "shareCarry", fn := fun _ => fun
  | [d1, d2] => { results := [.lit (.bool false)], args := [d1, d2] }
  | _ => none }
def ShareCarryWrongFalsely : Prop := shareCarryRow.holds Try.pinned (OpenSpec.ofChange shareCarryWrong)

/-- 'recyclinglaw11.ShareFollows': WHATEVER THE INPUT: true; the input reads as it did. -/
def shareFollowsSpec : ChangeSpec := { name := "shareFollows", fn := fun _ => fun
  | [d1, d2] => { results := [.lit (.bool true)], args := [d1, d2] }
  | _ => none }
def shareFollowsRow : OpenClaim := { program := "ytnpbnlafaoldcaa", sum := "65c80370771d3b68d357211c7e43e9a68ac7f115359d252772d2d5fa51825993", func := "recycling/recyclinglaw11.ShareFollows", spec := "shareFollows", apart := false }
def ShareFollowsSaid : Prop := shareFollowsRow.holds Try.pinned (OpenSpec.ofChange shareFollowsSpec)

/-- ITS FALSE NEIGHBOUR: 'it returns false'. Refute it at one input. -/
def shareFollowsWrong : ChangeSpec := { name := "shareFollows", fn := fun _ => fun
  | [d1, d2] => { results := [.lit (.bool false)], args := [d1, d2] }
  | _ => none }
def ShareFollowsWrongFalsely : Prop := shareFollowsRow.holds Try.pinned (OpenSpec.ofChange shareFollowsWrong)

/-- 'recyclinglaw11.ShareExact': WHATEVER THE INPUT: true; the input reads as it did. -/
def shareExactSpec : ChangeSpec := { name := "shareExact", fn := fun _ => fun
  | [d1, d2] => { results := [.lit (.bool true)], args := [d1, d2] }
  | _ => none }
def shareExactRow : OpenClaim := { program := "ytnpbnlafaoldcaa", sum := "65c80370771d3b68d357211c7e43e9a68ac7f115359d252772d2d5fa51825993", func := "recycling/recyclinglaw11.ShareExact", spec := "shareExact", unfollowed := true, recurses := true, named := ["math/bits.divideError", "math/bits.overflowError"], apart := false }
def ShareExactSaid : Prop := shareExactRow.holds Try.pinned (OpenSpec.ofChange shareExactSpec)

/-- ITS FALSE NEIGHBOUR: 'it returns false'. Refute it at one input. -/
def shareExactWrong : ChangeSpec := { name := "shareExact", fn := fun _ => fun
  | [d1, d2] => { results := [.lit (.bool false)], args := [d1, d2] }
  | _ => none }
def ShareExactWrongFalsely : Prop := shareExactRow.holds Try.pinned (OpenSpec.ofChange shareExactWrong)

/-- 'recyclinglaw11.ShareSplit': WHATEVER THE INPUT: true; the input reads as it did. -/
def shareSplitSpec : ChangeSpec := { name := "shareSplit", fn := fun _ => fun
  | [d1, d2] => { results := [.lit (.bool true)], args := [d1, d2] }
  | _ => none }
def shareSplitRow : OpenClaim := { program := "ytnpbnlafaoldcaa", sum := "65c80370771d3b68d357211c7e43e9a68ac7f115359d252772d2d5fa51825993", func := "recycling/recyclinglaw11.ShareSplit", spec := "shareSplit", unfollowed := true, recurses := true, named := ["math/bits.divideError", "math/bits.overflowError"], apart := false }
def ShareSplitSaid : Prop := shareSplitRow.holds Try.pinned (OpenSpec.ofChange shareSplitSpec)

/-- ITS FALSE NEIGHBOUR: 'it returns false'. Refute it at one input. -/
def shareSplitWrong : ChangeSpec := { name := "shareSplit", fn := fun _ => fun
  | [d1, d2] => { results := [.lit (.bool false)], args := [d1, d2] }
  | _ => none }
def ShareSplitWrongFalsely : Prop := shareSplitRow.holds Try.pinned (OpenSpec.ofChange shareSplitWrong)

/-- 'recyclinglaw11.ShareLargest': WHATEVER THE INPUT: true; the input reads as it did. -/
def shareLargestSpec : ChangeSpec := { name := "shareLargest", fn := fun _ => fun
  | [d1, d2, d3, d4] => { results := [.lit (.bool true)], args := [d1, d2, d3, d4] }
  | _ => none }
def shareLargestRow : OpenClaim := { program := "ytnpbnlafaoldcaa", sum := "65c80370771d3b68d357211c7e43e9a68ac7f115359d252772d2d5fa51825993", func := "recycling/recyclinglaw11.ShareLargest", spec := "shareLargest", unfollowed := true, recurses := true, named := ["math/bits.divideError", "math/bits.overflowError"], apart := false }
def ShareLargestSaid : Prop := shareLargestRow.holds Try.pinned (OpenSpec.ofChange shareLargestSpec)

/-- ITS FALSE NEIGHBOUR: 'it returns false'. Refute it at one input. -/
def shareLargestWrong : ChangeSpec := { name := "shareLargest", fn := fun _ => fun
  | [d1, d2, d3, d4] => { results := [.lit (.bool false)], args := [d1, d2, d3, d4] }
  | _ => none }
def ShareLargestWrongFalsely : Prop := shareLargestRow.holds Try.pinned (OpenSpec.ofChange shareLargestWrong)

/-- 'recyclinglaw11.ShareFactor': WHATEVER THE INPUT: true; the input reads as it did. -/
def shareFactorSpec : ChangeSpec := { name := "shareFactor", fn := fun _ => fun
  | [d1, d2, d3] => { results := [.lit (.bool true)], args := [d1, d2, d3] }
  | _ => none }
def shareFactorRow : OpenClaim := { program := "ytnpbnlafaoldcaa", sum := "65c80370771d3b68d357211c7e43e9a68ac7f115359d252772d2d5fa51825993", func := "recycling/recyclinglaw11.ShareFactor", spec := "shareFactor", unfollowed := true, recurses := true, named := ["math/bits.divideError", "math/bits.overflowError"], apart := false }
def ShareFactorSaid : Prop := shareFactorRow.holds Try.pinned (OpenSpec.ofChange shareFactorSpec)

/-- ITS FALSE NEIGHBOUR: 'it returns false'. Refute it at one input. -/
def shareFactorWrong : ChangeSpec := { name := "shareFactor", fn := fun _ => fun
  | [d1, d2, d3] => { results := [.lit (.bool false)], args := [d1, d2, d3] }
  | _ => none }
def ShareFactorWrongFalsely : Prop := shareFactorRow.holds Try.pinned (OpenSpec.ofChange shareFactorWrong)

/-- 'recyclinglaw11.ShareEven': WHATEVER THE INPUT: true; the input reads as it did. -/
def shareEvenSpec : ChangeSpec := { name := "shareEven", fn := fun _ => fun
  | [d1, d2] => { results := [.lit (.bool true)], args := [d1, d2] }
  | _ => none }
def shareEvenRow : OpenClaim := { program := "ytnpbnlafaoldcaa", sum := "65c80370771d3b68d357211c7e43e9a68ac7f115359d252772d2d5fa51825993", func := "recycling/recyclinglaw11.ShareEven", spec := "shareEven", unfollowed := true, recurses := true, named := ["math/bits.divideError", "math/bits.overflowError"], apart := false }
def ShareEvenSaid : Prop := shareEvenRow.holds Try.pinned (OpenSpec.ofChange shareEvenSpec)

/-- ITS FALSE NEIGHBOUR: 'it returns false'. Refute it at one input. -/
def shareEvenWrong : ChangeSpec := { name := "shareEven", fn := fun _ => fun
  | [d1, d2] => { results := [.lit (.bool false)], args := [d1, d2] }
  | _ => none }
def ShareEvenWrongFalsely : Prop := shareEvenRow.holds Try.pinned (OpenSpec.ofChange shareEvenWrong)

/- THE SECOND FORM. 'bulk': how many values and letters a reading holds, each counted each time it is reached (what is shared counts as often as it is met; a slice's spare places count too). A statement '..UptoSaid' is the law's where the arguments, and the package variables that the reading takes, are together of bulk at most 1048576: NARROWER than '..Said'. Prove '..Said' where nothing that the law and all that it calls make is longer than what came in: it says more and counts as full. Else prove '..UptoSaid'. A law counts once. -/
mutual
def uptoBulk {H : Type} : DataW H → Nat
  | .lit (.string bytes) => bytes.length + 1
  | .lit _ => 1
  | .nil => 1
  | .ptr d => uptoBulk d + 1
  | .slice elems spare => uptoBulkAll elems + uptoBulkAll spare + 1
  | .agg parts => uptoBulkAll parts + 1
  | .iface _ d => uptoBulk d + 1
  | .map entries => uptoBulkEntries entries + 1
  | .held _ => 1
def uptoBulkAll {H : Type} : List (DataW H) → Nat
  | [] => 0
  | d :: r => uptoBulk d + uptoBulkAll r
def uptoBulkEntries {H : Type} : List (Lit × DataW H) → Nat
  | [] => 0
  | x :: r => uptoBulkEntry x + uptoBulkEntries r
def uptoBulkEntry {H : Type} : Lit × DataW H → Nat
  | (.string bytes, d) => bytes.length + uptoBulk d + 1
  | (_, d) => uptoBulk d + 1
 end
def uptoSmall : (H : Type) → List (DataW H) → Bool := fun _ ds => decide (uptoBulkAll ds ≤ 1048576)
def OpenSpec.upto (s : _root_.Go.ChangeSpec) : _root_.Go.OpenSpec := { _root_.Go.OpenSpec.ofChange s with cond := some uptoSmall }

/-- 'recyclinglaw11.ShareNew', WHERE WHAT IT READS IS OF BULK AT MOST 1048576: true; the input reads as it did. -/
def shareNewUptoRow : OpenClaim := { program := "ytnpbnlafaoldcaa", sum := "65c80370771d3b68d357211c7e43e9a68ac7f115359d252772d2d5fa51825993", func := "recycling/recyclinglaw11.ShareNew", spec := "shareNew", apart := false, narrowed := true }
def ShareNewUptoSaid : Prop := shareNewUptoRow.holds Try.pinned (OpenSpec.upto shareNewSpec)

/-- 'recyclinglaw11.ShareCarry', WHERE WHAT IT READS IS OF BULK AT MOST 1048576: true; the input reads as it did. -/
def shareCarryUptoRow : OpenClaim := { program := "ytnpbnlafaoldcaa", sum := "65c80370771d3b68d357211c7e43e9a68ac7f115359d252772d2d5fa51825993", func := "recycling/recyclinglaw11.ShareCarry", spec := "shareCarry", apart := false, narrowed := true }
def ShareCarryUptoSaid : Prop := shareCarryUptoRow.holds Try.pinned (OpenSpec.upto shareCarrySpec)

/-- 'recyclinglaw11.ShareFollows', WHERE WHAT IT READS IS OF BULK AT MOST 1048576: true; the input reads as it did. -/
def shareFollowsUptoRow : OpenClaim := { program := "ytnpbnlafaoldcaa", sum := "65c80370771d3b68d357211c7e43e9a68ac7f115359d252772d2d5fa51825993", func := "recycling/recyclinglaw11.ShareFollows", spec := "shareFollows", apart := false, narrowed := true }
def ShareFollowsUptoSaid : Prop := shareFollowsUptoRow.holds Try.pinned (OpenSpec.upto shareFollowsSpec)

/-- 'recyclinglaw11.ShareExact', WHERE WHAT IT READS IS OF BULK AT MOST 1048576: true; the input reads as it did. -/
def shareExactUptoRow : OpenClaim := { program := "ytnpbnlafaoldcaa", sum := "65c80370771d3b68d357211c7e43e9a68ac7f115359d252772d2d5fa51825993", func := "recycling/recyclinglaw11.ShareExact", spec := "shareExact", unfollowed := true, recurses := true, named := ["math/bits.divideError", "math/bits.overflowError"], apart := false, narrowed := true }
def ShareExactUptoSaid : Prop := shareExactUptoRow.holds Try.pinned (OpenSpec.upto shareExactSpec)

/-- 'recyclinglaw11.ShareSplit', WHERE WHAT IT READS IS OF BULK AT MOST 1048576: true; the input reads as it did. -/
def shareSplitUptoRow : OpenClaim := { program := "ytnpbnlafaoldcaa", sum := "65c80370771d3b68d357211c7e43e9a68ac7f115359d252772d2d5fa51825993", func := "recycling/recyclinglaw11.ShareSplit", spec := "shareSplit", unfollowed := true, recurses := true, named := ["math/bits.divideError", "math/bits.overflowError"], apart := false, narrowed := true }
def ShareSplitUptoSaid : Prop := shareSplitUptoRow.holds Try.pinned (OpenSpec.upto shareSplitSpec)

/-- 'recyclinglaw11.ShareLargest', WHERE WHAT IT READS IS OF BULK AT MOST 1048576: true; the input reads as it did. -/
def shareLargestUptoRow : OpenClaim := { program := "ytnpbnlafaoldcaa", sum := "65c80370771d3b68d357211c7e43e9a68ac7f115359d252772d2d5fa51825993", func := "recycling/recyclinglaw11.ShareLargest", spec := "shareLargest", unfollowed := true, recurses := true, named := ["math/bits.divideError", "math/bits.overflowError"], apart := false, narrowed := true }
def ShareLargestUptoSaid : Prop := shareLargestUptoRow.holds Try.pinned (OpenSpec.upto shareLargestSpec)

/-- 'recyclinglaw11.ShareFactor', WHERE WHAT IT READS IS OF BULK AT MOST 1048576: true; the input reads as it did. -/
def shareFactorUptoRow : OpenClaim := { program := "ytnpbnlafaoldcaa", sum := "65c80370771d3b68d357211c7e43e9a68ac7f115359d252772d2d5fa51825993", func := "recycling/recyclinglaw11.ShareFactor", spec := "shareFactor", unfollowed := true, recurses := true, named := ["math/bits.divideError", "math/bits.overflowError"], apart := false, narrowed := true }
def ShareFactorUptoSaid : Prop := shareFactorUptoRow.holds Try.pinned (OpenSpec.upto shareFactorSpec)

/-- 'recyclinglaw11.ShareEven', WHERE WHAT IT READS IS OF BULK AT MOST 1048576: true; the input reads as it did. -/
def shareEvenUptoRow : OpenClaim := { program := "ytnpbnlafaoldcaa", sum := "65c80370771d3b68d357211c7e43e9a68ac7f115359d252772d2d5fa51825993", func := "recycling/recyclinglaw11.ShareEven", spec := "shareEven", unfollowed := true, recurses := true, named := ["math/bits.divideError", "math/bits.overflowError"], apart := false, narrowed := true }
def ShareEvenUptoSaid : Prop := shareEvenUptoRow.holds Try.pinned (OpenSpec.upto shareEvenSpec)

end Rows
end Go.Proofs.Ytnpbnlafaoldcaa
