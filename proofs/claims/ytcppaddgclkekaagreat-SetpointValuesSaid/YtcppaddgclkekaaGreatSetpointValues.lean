/- SetpointValues: the proof that the statement Rows.SetpointValuesSaid holds. Its frame follows the kit's skeleton; the walk and the reading of the arguments are my own (Yh). -/
import Derived.Test.YtcppaddgclkekaaGreatSetpointValuesZau
import Derived.Test.YtcppaddgclkekaaGreatRows
import Derived.WalkKit
import Derived.ProofKit
import Derived.OpenShut
import Derived.ChangeOld
import Derived.Below
namespace Go.Proofs.YtcppaddgclkekaaGreat.setpointValues
open Go.ChangeShapes Go.WideShapes Go.ChangeAt Go.RowKit
set_option linter.unusedVariables false

theorem own : ownKnob Tryz.prog.godebug = none := by kernel_rfl
theorem laidOut : laidOutB Tryz.prog = true := by kernel_rfl

theorem walk (w : World) (v0 : Value) (a0 : List Lft.A) (s0 : tyPlant.Sh true a0) (r0 : Lft.Rel (fun _ => Lft.hp w) (fun _ _ => none) (tyPlant.pk a0) v0) (v1 : Value) (a1 : List Lft.A) (s1 : tyMix.Sh true a1) (r1 : Lft.Rel (fun _ => Lft.hp w) (fun _ _ => none) (tyMix.pk a1) v1) (v2 : Value) (a2 : List Lft.A) (s2 : tyGoals.Sh true a2) (r2 : Lft.Rel (fun _ => Lft.hp w) (fun _ _ => none) (tyGoals.pk a2) v2) :
    Calls Tryz.prog 4 #[v0, v1, v2] w fun e w' => e = .returned (.bool true) ∧ Below w.heap.size w w' := by
  obtain ⟨p, e⟩ := plant_of s0
  rw [e] at r0
  obtain ⟨xs, e1, hx, _⟩ := mix_of s1
  rw [e1] at r1
  obtain ⟨gl, e2⟩ := goals_of s2
  rw [e2] at r2
  exact Lft.law_calls (setpointValues_vr p xs gl (Nat.le_trans hx (by decide))) (Lft.RL.cons r0 (Lft.RL.cons r1 (Lft.RL.cons r2 Lft.RL.nil)))

set_option maxRecDepth 100000 in
theorem lifted (os : Os) (started : os.Started) (H : Type) (enc : TypeId × Value → H) :
    ReturnsInHanded {} Tryz.checked os 4 .any (Rows.setpointValuesSpec.pre6 enc Tryz.prog Tryz.f4 Rows.setpointValuesRow.domain false) (Rows.setpointValuesSpec.post enc Tryz.prog Tryz.f4 false true false false) := by
  refine returnsInHanded_of_change (C := Tryz.checked) own started (by kernel_rfl) Tryz.func4
    (ChangeSpec.witness6 (enc := enc) (C := Tryz.checked) false ⟨#[], #[.agg #[.int .i64 0, .slice none 0 0, .slice none 0 0, .int .i64 0], .slice none 0 0, .slice none 0 0], []⟩ 8 (by kernel_rfl) (by kernel_rfl) (by kernel_rfl) (by kernel_rfl)) ?_
  intro W base args ds gs before hval0 hW hcnd _
  have hval : ∀ (j : Nat) t v, Tryz.f4.params[j]? = some t → args[j]? = some v → Value.okWide Tryz.prog W .any base t v := hval0
  have hW' := hW
  obtain ⟨p, q, hA0, hV, rfl, hfz, hnd⟩ := hW
  have hA : DataW.TrodAll enc Tryz.prog W 0 (fun _ => true) true Tryz.f4.params.toList args.toList ds p := hA0
  rw [Tryz.params4] at hA hval
  obtain ⟨v0, vs0, d0, ds0, p0, q0, hargs, rfl, rfl, h0, r0⟩ := trodAll_cons hA
  obtain ⟨v1, vs1, d1, ds1, p1, q1, rfl, rfl, rfl, h1, r1⟩ := trodAll_cons r0
  obtain ⟨v2, vs2, d2, ds2, p2, q2, rfl, rfl, rfl, h2, r2⟩ := trodAll_cons r1
  obtain ⟨rfl, rfl, rfl⟩ := trodAll_nil r2
  obtain rfl : args = #[v0, v1, v2] := by cases args; simp_all
  obtain ⟨rfl, rfl⟩ := trodVars_none hV
  have k0 := h0
  have lt0 : ∀ x ∈ p0, x.block < W.heap.size := by obtain ⟨m, hm⟩ := k0; exact DataW.trod_lt m _ _ _ hm
  obtain ⟨a0, s0, g0⟩ := Lft.arg_open true tyPlant tyPlant_is (hval 0 25 v0 rfl rfl) h0
  have k1 := h1
  have lt1 : ∀ x ∈ p1, x.block < W.heap.size := by obtain ⟨m, hm⟩ := k1; exact DataW.trod_lt m _ _ _ hm
  obtain ⟨a1, s1, g1⟩ := Lft.arg_open true tyMix tyMix_is (hval 1 27 v1 rfl rfl) h1
  have k2 := h2
  have lt2 : ∀ x ∈ p2, x.block < W.heap.size := by obtain ⟨m, hm⟩ := k2; exact DataW.trod_lt m _ _ _ hm
  obtain ⟨a2, s2, g2⟩ := Lft.arg_open true tyGoals tyGoals_is (hval 2 30 v2 rfl rfl) h2
  clear hA0 hval0
  refine (walk W v0 a0 s0 g0 v1 a1 s1 g1 v2 a2 s2 g2).mono fun e W' ⟨he, bel⟩ => ?_
  subst he
  exact ⟨_, rfl, _, _, _, [], _, [], hW', trodAll_mk1 (shut_bool Tryz.underlying4 _), (trodAll_cons_mk (Below.trod laidOut (by kernel_rfl) (of_decide_eq_true (by kernel_rfl)) k0 bel lt0) (trodAll_cons_mk (Below.trod laidOut (by kernel_rfl) (of_decide_eq_true (by kernel_rfl)) k1 bel lt1) (trodAll_cons_mk (Below.trod laidOut (by kernel_rfl) (of_decide_eq_true (by kernel_rfl)) k2 bel lt2) trodAll_mk0))), rfl, bel.frame _, fun h => by cases h⟩

theorem over : Rows.setpointValuesRow.holds Tryz.pinned (OpenSpec.ofChange Rows.setpointValuesSpec) :=
  OpenClaim.holds_of_wide 4 Tryz.f4 rfl rfl rfl rfl rfl rfl rfl ⟨rfl, rfl, rfl, rfl, rfl⟩ rfl rfl rfl rfl rfl (by kernel_rfl) Tryz.func4 (by kernel_rfl)
    (of_decide_eq_true (by kernel_rfl)) (by unfold Func.isWrapper; first | (rw [if_pos (by decide +kernel)]; kernel_rfl) | (rw [if_neg (by decide +kernel)]; exact ⟨rfl, rfl⟩))
    (fun os started H enc _ => lifted os started H enc)

theorem proved : Rows.SetpointValuesSaid := over
#print axioms proved
end Go.Proofs.YtcppaddgclkekaaGreat.setpointValues
