/- The machine's functions that plants use, and the reference's. No statement is claimed here. -/
import Derived.Test.YtjhdedifmhkhbaaPb
namespace Go.Proofs.Ytjhdedifmhkhbaa
open Go Go.Lft
set_option linter.unusedSimpArgs false
set_option linter.unusedVariables false
attribute [local congr] ob_congr bw_congr ib_congr ck_congr iwA_congr itA_congr aw_congr awp_congr sqA_congr bkA_congr vr_congr gd_congr

theorem machineOuts_vr {w : Bool} (m : Mc) : VR P false n_machine_Outs [mcA w m] [] (isR (.v (.int .i64 (outsN m)))) := by
  refine vr_machine_Outs (by simp) (.inr rfl) fun _ _ => ?_
  unfold mcA mcC
  simp (disch := ((try simp only [List.length_set, List.length_replicate, List.length_append, List.length_cons, List.length_nil]); omega)) only [aW, aX, aV, aB, aN, aL, aP, aH, aM, s_machine_Outs, v_machine_Outs]
  refine ib_intro (fun h1 => ?_) (fun h1 => ?_)
  · simp (disch := ((try simp only [List.length_set, List.length_replicate, List.length_append, List.length_cons, List.length_nil]); omega)) only [aW, aX, aV, aB, aN, aL, aP, aH, aM, r_machine_Outs]
    refine post_v ⟨?_, rfl⟩
    have : m = [] := List.eq_nil_of_length_eq_zero (by omega)
    subst this; rfl
  · simp (disch := ((try simp only [List.length_set, List.length_replicate, List.length_append, List.length_cons, List.length_nil]); omega)) only [aW, aX, aV, aB, aN, aL, aP, aH, aM, r_machine_Outs]
    exact post_v ⟨rfl, rfl⟩

theorem refOuts_vr {w : Bool} (m : Mc) : VR P false n_ref33_Outs [mcA w m] [] (isR (.v (.int .i64 (outsN m)))) := by
  refine vr_ref33_Outs (by simp) (.inr rfl) fun _ _ => ?_
  unfold mcA mcC
  simp (disch := ((try simp only [List.length_set, List.length_replicate, List.length_append, List.length_cons, List.length_nil]); omega)) only [aW, aX, aV, aB, aN, aL, aP, aH, aM, s_ref33_Outs, v_ref33_Outs]
  refine ib_intro (fun h1 => ?_) (fun h1 => ?_)
  · simp (disch := ((try simp only [List.length_set, List.length_replicate, List.length_append, List.length_cons, List.length_nil]); omega)) only [aW, aX, aV, aB, aN, aL, aP, aH, aM, r_ref33_Outs]
    refine post_v ⟨?_, rfl⟩
    have : m = [] := List.eq_nil_of_length_eq_zero (by omega)
    subst this; rfl
  · simp (disch := ((try simp only [List.length_set, List.length_replicate, List.length_append, List.length_cons, List.length_nil]); omega)) only [aW, aX, aV, aB, aN, aL, aP, aH, aM, r_ref33_Outs]
    exact post_v ⟨rfl, rfl⟩

theorem mainN_hit {m : Mc} {mat : Int} (h : ¬ (mat < 0 ∨ (m.length : Int) ≤ mat)) {k : Nat} (hk : k < (m.getD mat.toNat []).length) (hb : ∀ i, i < k → ¬ 0 < (m.getD mat.toNat []).getD i 0) (hp : 0 < (m.getD mat.toNat []).getD k 0) : mainN m mat = k := by
  unfold mainN; rw [if_neg h]
  exact idxE_hit (p := fun r : Int => 0 < r) 0 hk hb hp
theorem mainN_none {m : Mc} {mat : Int} (h : ¬ (mat < 0 ∨ (m.length : Int) ≤ mat)) (hb : ∀ i, i < (m.getD mat.toNat []).length → ¬ 0 < (m.getD mat.toNat []).getD i 0) : mainN m mat = -1 := by
  unfold mainN; rw [if_neg h]
  exact idxE_none (p := fun r : Int => 0 < r) 0 hb

theorem machineMain_vr {w : Bool} (m : Mc) (mat : Int) (hl : (m.getD mat.toNat []).length < 1000000000) : VR P false n_machine_Main [mcA w m, .v (.int .i64 mat)] [] (isR (.v (.int .i64 (mainN m mat)))) := by
  refine vr_machine_Main (by simp) (.inr rfl) fun _ _ => ?_
  unfold mcA mcC
  simp (disch := ((try simp only [List.length_set, List.length_replicate, List.length_append, List.length_cons, List.length_nil]); omega)) only [aW, aX, aV, aB, aN, aL, aP, aH, aM, s_machine_Main, v_machine_Main]
  refine ib_intro (fun h1 => ?_) (fun h1 => ?_)
  · simp (disch := ((try simp only [List.length_set, List.length_replicate, List.length_append, List.length_cons, List.length_nil]); omega)) only [aW, aX, aV, aB, aN, aL, aP, aH, aM, r_machine_Main]
    exact post_v ⟨by unfold mainN; rw [if_pos h1], rfl⟩
  simp (disch := ((try simp only [List.length_set, List.length_replicate, List.length_append, List.length_cons, List.length_nil]); omega)) only [aW, aX, aV, aB, aN, aL, aP, aH, aM]
  refine AWP.loopP g_machine_Main_0 (fun k : Nat => k ≤ (m.getD mat.toNat []).length ∧ ∀ i, i < k → ¬ 0 < (m.getD mat.toNat []).getD i 0) (fun k => [(2, .v (.int .i64 0)), (4, .v (.int .i64 k))]) (fun _ => []) (fun k => (m.getD mat.toNat []).length - k) 0 ⟨by omega, fun i hi => by omega⟩ (by refine Cut.of' (1) ?_ (by omega) ?_ ?_ <;> simp (disch := first | omega | simp (disch := omega) only [aF, aL, aN]) only [aW, aX, aV, aB, aN, aL, aP, aH, aM, aF, Int.natCast_add, Int.natCast_mul, Int.add_sub_cancel, List.length_nil, Int.cast_ofNat_Int, and_true, true_and]) ?_
  rintro k ⟨hk, hb⟩
  by_cases hlt : k < (m.getD mat.toNat []).length
  · simp (disch := ((try simp only [List.length_set, List.length_replicate, List.length_append, List.length_cons, List.length_nil]); omega)) only [aW, aX, aV, aB, aN, aL, aP, aH, aM]
    refine ib_intro (fun h3 => ?_) (fun h3 => ?_)
    · simp (disch := ((try simp only [List.length_set, List.length_replicate, List.length_append, List.length_cons, List.length_nil]); omega)) only [aW, aX, aV, aB, aN, aL, aP, aH, aM, r_machine_Main]
      exact post_v ⟨by rw [mainN_hit h1 hlt hb h3], rfl⟩
    · simp (disch := ((try simp only [List.length_set, List.length_replicate, List.length_append, List.length_cons, List.length_nil]); omega)) only [aW, aX, aV, aB, aN, aL, aP, aH, aM]
      refine ⟨k + 1, ⟨by omega, fun i hi => ?_⟩, by omega, (by refine Cut.of' (1) ?_ (by omega) ?_ ?_ <;> simp (disch := first | omega | simp (disch := omega) only [aF, aL, aN]) only [aW, aX, aV, aB, aN, aL, aP, aH, aM, aF, Int.natCast_add, Int.natCast_mul, Int.add_sub_cancel, List.length_nil, Int.cast_ofNat_Int, and_true, true_and])⟩
      rcases Nat.lt_succ_iff_lt_or_eq.1 hi with h | rfl
      · exact hb i h
      · exact h3
  · simp (disch := ((try simp only [List.length_set, List.length_replicate, List.length_append, List.length_cons, List.length_nil]); omega)) only [aW, aX, aV, aB, aN, aL, aP, aH, aM, r_machine_Main]
    exact post_v ⟨by rw [mainN_none h1 fun i hi => hb i (by omega)], rfl⟩

theorem refMain_vr {w : Bool} (m : Mc) (mat : Int) (hl : (m.getD mat.toNat []).length < 1000000000) : VR P false n_ref33_Main [mcA w m, .v (.int .i64 mat)] [] (isR (.v (.int .i64 (mainN m mat)))) := by
  refine vr_ref33_Main (by simp) (.inr rfl) fun _ _ => ?_
  unfold mcA mcC
  simp (disch := ((try simp only [List.length_set, List.length_replicate, List.length_append, List.length_cons, List.length_nil]); omega)) only [aW, aX, aV, aB, aN, aL, aP, aH, aM, s_ref33_Main, v_ref33_Main]
  refine ib_intro (fun h1 => ?_) (fun h1 => ?_)
  · simp (disch := ((try simp only [List.length_set, List.length_replicate, List.length_append, List.length_cons, List.length_nil]); omega)) only [aW, aX, aV, aB, aN, aL, aP, aH, aM, r_ref33_Main]
    exact post_v ⟨by unfold mainN; rw [if_pos h1], rfl⟩
  simp (disch := ((try simp only [List.length_set, List.length_replicate, List.length_append, List.length_cons, List.length_nil]); omega)) only [aW, aX, aV, aB, aN, aL, aP, aH, aM]
  refine AWP.loopP g_ref33_Main_0 (fun k : Nat => k ≤ (m.getD mat.toNat []).length ∧ ∀ i, i < k → ¬ 0 < (m.getD mat.toNat []).getD i 0) (fun k => [(2, .v (.int .i64 0)), (4, .v (.int .i64 k))]) (fun _ => []) (fun k => (m.getD mat.toNat []).length - k) 0 ⟨by omega, fun i hi => by omega⟩ (by refine Cut.of' (1) ?_ (by omega) ?_ ?_ <;> simp (disch := first | omega | simp (disch := omega) only [aF, aL, aN]) only [aW, aX, aV, aB, aN, aL, aP, aH, aM, aF, Int.natCast_add, Int.natCast_mul, Int.add_sub_cancel, List.length_nil, Int.cast_ofNat_Int, and_true, true_and]) ?_
  rintro k ⟨hk, hb⟩
  by_cases hlt : k < (m.getD mat.toNat []).length
  · simp (disch := ((try simp only [List.length_set, List.length_replicate, List.length_append, List.length_cons, List.length_nil]); omega)) only [aW, aX, aV, aB, aN, aL, aP, aH, aM]
    refine ib_intro (fun h3 => ?_) (fun h3 => ?_)
    · simp (disch := ((try simp only [List.length_set, List.length_replicate, List.length_append, List.length_cons, List.length_nil]); omega)) only [aW, aX, aV, aB, aN, aL, aP, aH, aM, r_ref33_Main]
      exact post_v ⟨by rw [mainN_hit h1 hlt hb h3], rfl⟩
    · simp (disch := ((try simp only [List.length_set, List.length_replicate, List.length_append, List.length_cons, List.length_nil]); omega)) only [aW, aX, aV, aB, aN, aL, aP, aH, aM]
      refine ⟨k + 1, ⟨by omega, fun i hi => ?_⟩, by omega, (by refine Cut.of' (1) ?_ (by omega) ?_ ?_ <;> simp (disch := first | omega | simp (disch := omega) only [aF, aL, aN]) only [aW, aX, aV, aB, aN, aL, aP, aH, aM, aF, Int.natCast_add, Int.natCast_mul, Int.add_sub_cancel, List.length_nil, Int.cast_ofNat_Int, and_true, true_and])⟩
      rcases Nat.lt_succ_iff_lt_or_eq.1 hi with h | rfl
      · exact hb i h
      · exact h3
  · simp (disch := ((try simp only [List.length_set, List.length_replicate, List.length_append, List.length_cons, List.length_nil]); omega)) only [aW, aX, aV, aB, aN, aL, aP, aH, aM, r_ref33_Main]
    exact post_v ⟨by rw [mainN_none h1 fun i hi => hb i (by omega)], rfl⟩

theorem row_full {outs : Nat} {r : List Int} (h : 4 < r.length) : rowE outs r = 8 := by unfold rowE; rw [if_pos h]
theorem row_form {outs : Nat} {r : List Int} (h : ¬ 4 < r.length) (h2 : r.length ≠ outs) : rowE outs r = 3 := by unfold rowE; rw [if_neg h, if_pos h2]
theorem row_range {outs : Nat} {r : List Int} (h : ¬ 4 < r.length) (h2 : r.length = outs) {k : Nat} (hk : k < r.length) (hb : ∀ i, i < k → rangeE (r.getD i 0) = 0) (hn : r.getD k 0 < 0 ∨ 1000 < r.getD k 0) : rowE outs r = 1 := by
  unfold rowE
  have h3 := firstE_hit (f := rangeE) 0 hk hb (by rw [rangeE_bad hn]; omega)
  rw [rangeE_bad hn] at h3
  rw [if_neg h, if_neg (by omega), h3]; rfl
theorem row_sum {outs : Nat} {r : List Int} (h : ¬ 4 < r.length) (h2 : r.length = outs) (hb : ∀ i, i < r.length → rangeE (r.getD i 0) = 0) (hs : 0 < r.length ∧ r.sum ≠ 1000) : rowE outs r = 17 := by
  unfold rowE
  have h3 := firstE_none (f := rangeE) 0 hb
  rw [if_neg h, if_neg (by omega), h3, if_neg (by omega), if_pos hs]
theorem row_ok {outs : Nat} {r : List Int} (h : ¬ 4 < r.length) (h2 : r.length = outs) (hb : ∀ i, i < r.length → rangeE (r.getD i 0) = 0) (hs : ¬ (0 < r.length ∧ r.sum ≠ 1000)) : rowE outs r = 0 := by
  unfold rowE
  have h3 := firstE_none (f := rangeE) 0 hb
  rw [if_neg h, if_neg (by omega), h3, if_neg (by omega), if_neg hs]
theorem sum_le {r : List Int} {k : Nat} (hk : k ≤ r.length) (h4 : ¬ 4 < r.length) (hb : ∀ i, i < k → rangeE (r.getD i 0) = 0) : 0 ≤ sumT r k ∧ sumT r k ≤ 4000 := by
  have := sumT_bd r 0 1000 k hk fun i hi => rangeE_zero (hb i hi)
  omega

theorem refRow_vr {w : Bool} (r : List Int) (outs : Nat) : VR P false n_ref33_row [.fs w (ints r), .v (.int .i64 outs)] [] (isR (.v (.int .i64 (rowE outs r)))) := by
  refine vr_ref33_row (by simp) (.inr rfl) fun _ _ => ?_
  simp (disch := ((try simp only [List.length_set, List.length_replicate, List.length_append, List.length_cons, List.length_nil]); omega)) only [aW, aX, aV, aB, aN, aL, aP, aH, aM, s_ref33_row, v_ref33_row]
  refine ib_intro (fun h1 => ?_) (fun h1 => ?_)
  · simp (disch := ((try simp only [List.length_set, List.length_replicate, List.length_append, List.length_cons, List.length_nil]); omega)) only [aW, aX, aV, aB, aN, aL, aP, aH, aM, r_ref33_row]
    exact post_v ⟨by rw [row_full (by omega)], rfl⟩
  have h1 : ¬ 4 < r.length := by omega
  simp (disch := ((try simp only [List.length_set, List.length_replicate, List.length_append, List.length_cons, List.length_nil]); omega)) only [aW, aX, aV, aB, aN, aL, aP, aH, aM]
  refine ib_intro (fun h2 => ?_) (fun h2 => ?_)
  · simp (disch := ((try simp only [List.length_set, List.length_replicate, List.length_append, List.length_cons, List.length_nil]); omega)) only [aW, aX, aV, aB, aN, aL, aP, aH, aM, r_ref33_row]
    exact post_v ⟨by rw [row_form h1 (by omega)], rfl⟩
  have h2 : r.length = outs := by omega
  simp (disch := ((try simp only [List.length_set, List.length_replicate, List.length_append, List.length_cons, List.length_nil]); omega)) only [aW, aX, aV, aB, aN, aL, aP, aH, aM]
  refine AWP.loopP g_ref33_row_0 (fun k : Nat => k ≤ r.length ∧ ∀ i, i < k → rangeE (r.getD i 0) = 0) (fun k => [(2, .v (.int .i64 0)), (3, .v (.int .i64 (sumT r k))), (4, .v (.int .i64 k))]) (fun _ => []) (fun k => r.length - k) 0 ⟨by omega, fun i hi => by omega⟩ (by refine Cut.of' (0) ?_ (by omega) ?_ ?_ <;> simp (disch := first | omega | simp (disch := omega) only [aF, aL, aN]) only [aW, aX, aV, aB, aN, aL, aP, aH, aM, aF, Int.natCast_add, Int.natCast_mul, Int.add_sub_cancel, List.length_nil, Int.cast_ofNat_Int, and_true, true_and, sumT_zero]) ?_
  rintro k ⟨hk, hb⟩
  have hs := sum_le hk h1 hb
  by_cases hlt : k < r.length
  · simp (disch := ((try simp only [List.length_set, List.length_replicate, List.length_append, List.length_cons, List.length_nil]); omega)) only [aW, aX, aV, aB, aN, aL, aP, aH, aM]
    refine ib_intro (fun h3 => ?_) (fun h3 => ?_)
    · simp (disch := ((try simp only [List.length_set, List.length_replicate, List.length_append, List.length_cons, List.length_nil]); omega)) only [aW, aX, aV, aB, aN, aL, aP, aH, aM, r_ref33_row]
      exact post_v ⟨by rw [row_range h1 h2 hlt hb h3], rfl⟩
    · simp (disch := ((try simp only [List.length_set, List.length_replicate, List.length_append, List.length_cons, List.length_nil]); omega)) only [aW, aX, aV, aB, aN, aL, aP, aH, aM]
      refine ⟨k + 1, ⟨by omega, fun i hi => ?_⟩, by omega, (by refine Cut.of' (0) ?_ (by omega) ?_ ?_ <;> simp (disch := first | omega | simp (disch := omega) only [aF, aL, aN]) only [aW, aX, aV, aB, aN, aL, aP, aH, aM, aF, Int.natCast_add, Int.natCast_mul, Int.add_sub_cancel, List.length_nil, Int.cast_ofNat_Int, and_true, true_and, sumT_succ r k hlt])⟩
      rcases Nat.lt_succ_iff_lt_or_eq.1 hi with h | rfl
      · exact hb i h
      · exact rangeE_ok h3
  · have hkl : k = r.length := by omega
    subst hkl
    rw [sumT_all]
    simp (disch := ((try simp only [List.length_set, List.length_replicate, List.length_append, List.length_cons, List.length_nil]); omega)) only [aW, aX, aV, aB, aN, aL, aP, aH, aM]
    refine ib_intro (fun h3 => ?_) (fun h3 => ?_)
    · simp (disch := ((try simp only [List.length_set, List.length_replicate, List.length_append, List.length_cons, List.length_nil]); omega)) only [aW, aX, aV, aB, aN, aL, aP, aH, aM, r_ref33_row]
      exact post_v ⟨by rw [row_sum h1 h2 hb (by omega)], rfl⟩
    · simp (disch := ((try simp only [List.length_set, List.length_replicate, List.length_append, List.length_cons, List.length_nil]); omega)) only [aW, aX, aV, aB, aN, aL, aP, aH, aM, r_ref33_row]
      exact post_v ⟨by rw [row_ok h1 h2 hb (by omega)], rfl⟩

theorem mcheck_range {m : Mc} {mat : Int} (h : mat < 1 ∨ 16 < mat) : mcheck m mat = 1 := by unfold mcheck; rw [if_pos h]
theorem mcheck_len {m : Mc} {mat : Int} (h : ¬ (mat < 1 ∨ 16 < mat)) (h2 : (m.length : Int) ≠ mat) : mcheck m mat = 18 := by unfold mcheck; rw [if_neg h, if_pos h2]
theorem mcheck_hit {m : Mc} {mat : Int} (h : ¬ (mat < 1 ∨ 16 < mat)) (h2 : (m.length : Int) = mat) {k : Nat} (hk : k < m.length) (hb : ∀ i, i < k → rowE (outsN m) (m.getD i []) = 0) (hn : rowE (outsN m) (m.getD k []) ≠ 0) : mcheck m mat = rowE (outsN m) (m.getD k []) := by
  unfold mcheck; rw [if_neg h, if_neg (by omega)]
  exact firstE_hit [] hk hb hn
theorem mcheck_none {m : Mc} {mat : Int} (h : ¬ (mat < 1 ∨ 16 < mat)) (h2 : (m.length : Int) = mat) (hb : ∀ i, i < m.length → rowE (outsN m) (m.getD i []) = 0) : mcheck m mat = 0 := by
  unfold mcheck; rw [if_neg h, if_neg (by omega)]
  exact firstE_none [] hb
theorem outs_get (m : Mc) : (m.getD 0 []).length = outsN m := rfl

theorem ref33Check_vr {w : Bool} (m : Mc) (mat : Int) : VR P false n_ref33_Check [mcA w m, .v (.int .i64 mat)] [] (isR (.v (.int .i64 (mcheck m mat)))) := by
  refine vr_ref33_Check (by simp) (.inr rfl) fun _ _ => ?_
  unfold mcA mcC
  simp (disch := ((try simp only [List.length_set, List.length_replicate, List.length_append, List.length_cons, List.length_nil]); omega)) only [aW, aX, aV, aB, aN, aL, aP, aH, aM, s_ref33_Check, v_ref33_Check]
  refine ib_intro (fun h1 => ?_) (fun h1 => ?_)
  · simp (disch := ((try simp only [List.length_set, List.length_replicate, List.length_append, List.length_cons, List.length_nil]); omega)) only [aW, aX, aV, aB, aN, aL, aP, aH, aM, r_ref33_Check]
    exact post_v ⟨by rw [mcheck_range h1], rfl⟩
  simp (disch := ((try simp only [List.length_set, List.length_replicate, List.length_append, List.length_cons, List.length_nil]); omega)) only [aW, aX, aV, aB, aN, aL, aP, aH, aM]
  refine ib_intro (fun h2 => ?_) (fun h2 => ?_)
  · simp (disch := ((try simp only [List.length_set, List.length_replicate, List.length_append, List.length_cons, List.length_nil]); omega)) only [aW, aX, aV, aB, aN, aL, aP, aH, aM, r_ref33_Check]
    exact post_v ⟨by rw [mcheck_len h1 h2], rfl⟩
  have h2 : (m.length : Int) = mat := by omega
  subst h2
  simp (disch := ((try simp only [List.length_set, List.length_replicate, List.length_append, List.length_cons, List.length_nil]); omega)) only [aW, aX, aV, aB, aN, aL, aP, aH, aM]
  refine AWP.loopP g_ref33_Check_0 (fun k : Nat => k ≤ m.length ∧ ∀ i, i < k → rowE (outsN m) (m.getD i []) = 0) (fun k => [(2, .v (.int .i64 0)), (4, .v (.int .i64 k))]) (fun _ => []) (fun k => m.length - k) 0 ⟨by omega, fun i hi => by omega⟩ (by refine Cut.of' (1) ?_ (by omega) ?_ ?_ <;> simp (disch := first | omega | simp (disch := omega) only [aF, aL, aN]) only [aW, aX, aV, aB, aN, aL, aP, aH, aM, aF, Int.natCast_add, Int.natCast_mul, Int.add_sub_cancel, List.length_nil, Int.cast_ofNat_Int, and_true, true_and]) ?_
  rintro k ⟨hk, hb⟩
  by_cases hlt : k < m.length
  · simp (disch := ((try simp only [List.length_set, List.length_replicate, List.length_append, List.length_cons, List.length_nil]); omega)) only [aW, aX, aV, aB, aN, aL, aP, aH, aM, outs_get]
    refine (refRow_vr (w := w) (m.getD k []) (outsN m)).same (by simp (disch := first | omega | simp (disch := omega) only [aF, aL, aN]) only [aW, aX, aV, aB, aN, aL, aP, aH, aM, aF, Int.natCast_add, Int.natCast_mul, Int.add_sub_cancel, List.length_nil, Int.cast_ofNat_Int, and_true, true_and]) rfl (aret_of ?_)
    simp (disch := ((try simp only [List.length_set, List.length_replicate, List.length_append, List.length_cons, List.length_nil]); omega)) only [aW, aX, aV, aB, aN, aL, aP, aH, aM]
    refine ib_intro (fun h3 => ?_) (fun h3 => ?_)
    · simp (disch := ((try simp only [List.length_set, List.length_replicate, List.length_append, List.length_cons, List.length_nil]); omega)) only [aW, aX, aV, aB, aN, aL, aP, aH, aM, r_ref33_Check]
      exact post_v ⟨by rw [mcheck_hit h1 rfl hlt hb h3], rfl⟩
    · simp (disch := ((try simp only [List.length_set, List.length_replicate, List.length_append, List.length_cons, List.length_nil]); omega)) only [aW, aX, aV, aB, aN, aL, aP, aH, aM]
      refine ⟨k + 1, ⟨by omega, fun i hi => ?_⟩, by omega, (by refine Cut.of' (1) ?_ (by omega) ?_ ?_ <;> simp (disch := first | omega | simp (disch := omega) only [aF, aL, aN]) only [aW, aX, aV, aB, aN, aL, aP, aH, aM, aF, Int.natCast_add, Int.natCast_mul, Int.add_sub_cancel, List.length_nil, Int.cast_ofNat_Int, and_true, true_and])⟩
      rcases Nat.lt_succ_iff_lt_or_eq.1 hi with h | rfl
      · exact hb i h
      · exact Classical.not_not.1 h3
  · have hkl : k = m.length := by omega
    subst hkl
    simp (disch := ((try simp only [List.length_set, List.length_replicate, List.length_append, List.length_cons, List.length_nil]); omega)) only [aW, aX, aV, aB, aN, aL, aP, aH, aM, r_ref33_Check]
    exact post_v ⟨by rw [mcheck_none h1 rfl hb], rfl⟩

theorem machineCheck_vr {w : Bool} (m : Mc) (mat : Int) : VR P false n_machine_Check [mcA w m, .v (.int .i64 mat)] [] (isR (.v (.int .i64 (mcheck m mat)))) := by
  have hou := outs_get m
  refine vr_machine_Check (by simp) (.inr rfl) fun _ _ => ?_
  unfold mcA mcC
  simp (disch := ((try simp only [List.length_set, List.length_replicate, List.length_append, List.length_cons, List.length_nil]); omega)) only [aW, aX, aV, aB, aN, aL, aP, aH, aM, s_machine_Check, v_machine_Check]
  refine ib_intro (fun h1 => ?_) (fun h1 => ?_)
  · simp (disch := ((try simp only [List.length_set, List.length_replicate, List.length_append, List.length_cons, List.length_nil]); omega)) only [aW, aX, aV, aB, aN, aL, aP, aH, aM, r_machine_Check]
    exact post_v ⟨by rw [mcheck_range h1], rfl⟩
  simp (disch := ((try simp only [List.length_set, List.length_replicate, List.length_append, List.length_cons, List.length_nil]); omega)) only [aW, aX, aV, aB, aN, aL, aP, aH, aM]
  refine ib_intro (fun h2 => ?_) (fun h2 => ?_)
  · simp (disch := ((try simp only [List.length_set, List.length_replicate, List.length_append, List.length_cons, List.length_nil]); omega)) only [aW, aX, aV, aB, aN, aL, aP, aH, aM, r_machine_Check]
    exact post_v ⟨by rw [mcheck_len h1 h2], rfl⟩
  have h2 : (m.length : Int) = mat := by omega
  subst h2
  simp (disch := ((try simp only [List.length_set, List.length_replicate, List.length_append, List.length_cons, List.length_nil]); omega)) only [aW, aX, aV, aB, aN, aL, aP, aH, aM]
  refine AWP.loopP g_machine_Check_0 (fun k : Nat => k ≤ m.length ∧ ∀ i, i < k → rowE (outsN m) (m.getD i []) = 0) (fun k => [(4, .v (.int .i64 0)), (5, .v (.int .i64 k))]) (fun _ => []) (fun k => m.length - k) 0 ⟨by omega, fun i hi => by omega⟩ (by refine Cut.of' (1) ?_ (by omega) ?_ ?_ <;> simp (disch := first | omega | simp (disch := omega) only [aF, aL, aN]) only [aW, aX, aV, aB, aN, aL, aP, aH, aM, aF, Int.natCast_add, Int.natCast_mul, Int.add_sub_cancel, List.length_nil, Int.cast_ofNat_Int, and_true, true_and]) ?_
  rintro k ⟨hk, hb⟩
  by_cases hlt : k < m.length
  · simp (disch := ((try simp only [List.length_set, List.length_replicate, List.length_append, List.length_cons, List.length_nil]); omega)) only [aW, aX, aV, aB, aN, aL, aP, aH, aM, outs_get]
    refine ib_intro (fun h3 => ?_) (fun h3 => ?_)
    · have hr : rowE (outsN m) (m.getD k []) = 8 := row_full (by omega)
      simp (disch := ((try simp only [List.length_set, List.length_replicate, List.length_append, List.length_cons, List.length_nil]); omega)) only [aW, aX, aV, aB, aN, aL, aP, aH, aM, r_machine_Check]
      exact post_v ⟨by rw [mcheck_hit h1 rfl hlt hb (by omega), hr], rfl⟩
    have h3 : ¬ 4 < (m.getD k []).length := by omega
    simp (disch := ((try simp only [List.length_set, List.length_replicate, List.length_append, List.length_cons, List.length_nil]); omega)) only [aW, aX, aV, aB, aN, aL, aP, aH, aM]
    refine ib_intro (fun h4 => ?_) (fun h4 => ?_)
    · have hr : rowE (outsN m) (m.getD k []) = 3 := row_form h3 (by omega)
      simp (disch := ((try simp only [List.length_set, List.length_replicate, List.length_append, List.length_cons, List.length_nil]); omega)) only [aW, aX, aV, aB, aN, aL, aP, aH, aM, r_machine_Check]
      exact post_v ⟨by rw [mcheck_hit h1 rfl hlt hb (by omega), hr], rfl⟩
    have h4 : (m.getD k []).length = outsN m := by omega
    simp (disch := ((try simp only [List.length_set, List.length_replicate, List.length_append, List.length_cons, List.length_nil]); omega)) only [aW, aX, aV, aB, aN, aL, aP, aH, aM]
    refine AWP.loopP g_machine_Check_1 (fun j : Nat => j ≤ (m.getD k []).length ∧ ∀ i, i < j → rangeE ((m.getD k []).getD i 0) = 0) (fun j => [(4, .v (.int .i64 0)), (10, .v (.int .i64 (sumT (m.getD k []) j))), (11, .v (.int .i64 j))]) (fun _ => []) (fun j => (m.getD k []).length - j) 0 ⟨by omega, fun i hi => by omega⟩ (by refine Cut.of' (1) ?_ (by omega) ?_ ?_ <;> simp (disch := first | omega | simp (disch := omega) only [aF, aL, aN]) only [aW, aX, aV, aB, aN, aL, aP, aH, aM, aF, Int.natCast_add, Int.natCast_mul, Int.add_sub_cancel, List.length_nil, Int.cast_ofNat_Int, and_true, true_and, sumT_zero]) ?_
    rintro j ⟨hj, hc⟩
    have hs := sum_le hj h3 hc
    by_cases hjl : j < (m.getD k []).length
    · simp (disch := ((try simp only [List.length_set, List.length_replicate, List.length_append, List.length_cons, List.length_nil]); omega)) only [aW, aX, aV, aB, aN, aL, aP, aH, aM]
      refine ib_intro (fun h5 => ?_) (fun h5 => ?_)
      · have hr := row_range h3 h4 hjl hc h5
        simp (disch := ((try simp only [List.length_set, List.length_replicate, List.length_append, List.length_cons, List.length_nil]); omega)) only [aW, aX, aV, aB, aN, aL, aP, aH, aM, r_machine_Check]
        exact post_v ⟨by rw [mcheck_hit h1 rfl hlt hb (by omega), hr], rfl⟩
      · simp (disch := ((try simp only [List.length_set, List.length_replicate, List.length_append, List.length_cons, List.length_nil]); omega)) only [aW, aX, aV, aB, aN, aL, aP, aH, aM]
        refine ⟨j + 1, ⟨by omega, fun i hi => ?_⟩, by omega, (by refine Cut.of' (1) ?_ (by omega) ?_ ?_ <;> simp (disch := first | omega | simp (disch := omega) only [aF, aL, aN]) only [aW, aX, aV, aB, aN, aL, aP, aH, aM, aF, Int.natCast_add, Int.natCast_mul, Int.add_sub_cancel, List.length_nil, Int.cast_ofNat_Int, and_true, true_and, sumT_succ _ j hjl])⟩
        rcases Nat.lt_succ_iff_lt_or_eq.1 hi with h | rfl
        · exact hc i h
        · exact rangeE_ok h5
    · have hje : j = (m.getD k []).length := by omega
      subst hje
      rw [sumT_all]
      rw [sumT_all] at hs
      simp (disch := ((try simp only [List.length_set, List.length_replicate, List.length_append, List.length_cons, List.length_nil]); omega)) only [aW, aX, aV, aB, aN, aL, aP, aH, aM]
      refine ib_intro (fun h5 => ?_) (fun h5 => ?_)
      · have hr := row_sum h3 h4 hc (by omega)
        simp (disch := ((try simp only [List.length_set, List.length_replicate, List.length_append, List.length_cons, List.length_nil]); omega)) only [aW, aX, aV, aB, aN, aL, aP, aH, aM, r_machine_Check]
        exact post_v ⟨by rw [mcheck_hit h1 rfl hlt hb (by omega), hr], rfl⟩
      · have hr := row_ok h3 h4 hc (by omega)
        simp (disch := ((try simp only [List.length_set, List.length_replicate, List.length_append, List.length_cons, List.length_nil]); omega)) only [aW, aX, aV, aB, aN, aL, aP, aH, aM]
        refine ⟨k + 1, ⟨by omega, fun i hi => ?_⟩, by omega, (by refine Cut.of' (1) ?_ (by omega) ?_ ?_ <;> simp (disch := first | omega | simp (disch := omega) only [aF, aL, aN]) only [aW, aX, aV, aB, aN, aL, aP, aH, aM, aF, Int.natCast_add, Int.natCast_mul, Int.add_sub_cancel, List.length_nil, Int.cast_ofNat_Int, and_true, true_and])⟩
        rcases Nat.lt_succ_iff_lt_or_eq.1 hi with h | rfl
        · exact hb i h
        · exact hr
  · have hkl : k = m.length := by omega
    subst hkl
    simp (disch := ((try simp only [List.length_set, List.length_replicate, List.length_append, List.length_cons, List.length_nil]); omega)) only [aW, aX, aV, aB, aN, aL, aP, aH, aM, r_machine_Check]
    exact post_v ⟨by rw [mcheck_none h1 rfl hb], rfl⟩
end Go.Proofs.Ytjhdedifmhkhbaa
