/- Sums of weights; products and quotients of words; the reference's division. No statement is claimed here. -/
import Derived.Test.YtnpbnlafaoldcaaRg
namespace Go.Proofs.Ytnpbnlafaoldcaa
open Go Go.Lft
set_option linter.unusedSimpArgs false
set_option linter.unusedVariables false
attribute [local congr] ob_congr bw_congr ib_congr ck_congr iwA_congr itA_congr aw_congr awp_congr sqA_congr bkA_congr vr_congr gd_congr

theorem take_succ_I (l : List Int) (k : Nat) (h : k < l.length) : l.take (k + 1) = l.take k ++ [l.getD k 0] := by
  rw [List.take_succ_eq_append_getElem h]; simp [List.getD_eq_getElem?_getD, h]
def sumK (l : List Int) (k : Nat) : Int := (l.take k).sum
theorem sumK_zero (l : List Int) : sumK l 0 = 0 := by simp [sumK]
theorem sumK_succ (l : List Int) (k : Nat) (h : k < l.length) : sumK l (k + 1) = sumK l k + l.getD k 0 := by
  unfold sumK; rw [take_succ_I l k h]; simp
theorem sumK_all (l : List Int) : sumK l l.length = l.sum := by simp [sumK]

theorem numIn_vr {w : Bool} (x : Int) : VR P false n_num_in [.fs w [.v (.int .i64 x)]] [] (isR (.v (.bool (decide (-1125899906842624 ≤ x ∧ x ≤ 1125899906842624))))) := by
  refine vr_num_in (by simp) (.inr rfl) fun _ _ => ?_
  have e : [A.v (.int .i64 x)] = ints [x] := rfl
  rw [e]
  simp (disch := ((try simp only [List.length_set, List.length_replicate, List.length_append, List.length_cons, List.length_nil]); omega)) only [aW, aX, aV, aB, aN, aL, aP, aH, s_num_in, v_num_in]
  refine AWP.loopP g_num_in_0 (fun k : Nat => k ≤ 1 ∧ (k = 1 → -1125899906842624 ≤ x ∧ x ≤ 1125899906842624)) (fun k => [(1, .v (.bool false)), (2, .v (.int .i64 k))]) (fun _ => []) (fun k => 1 - k) 0 ⟨by omega, fun h => by omega⟩ ?_ ?_
  · simp only [List.length_cons, List.length_nil]
    exact Cut.of' 0 rfl (by omega) (by simp (disch := first | omega | simp (disch := omega) only [aF, aL, aN]) only [aW, aX, aV, aB, aN, aL, aP, aH, aF, Int.natCast_add, Int.natCast_mul, Int.add_sub_cancel, List.length_nil, Int.cast_ofNat_Int, and_true, true_and]) (by simp (disch := first | omega | simp (disch := omega) only [aF, aL, aN]) only [aW, aX, aV, aB, aN, aL, aP, aH, aF, Int.natCast_add, Int.natCast_mul, Int.add_sub_cancel, List.length_nil, Int.cast_ofNat_Int, and_true, true_and])
  rintro k ⟨hk, hx⟩
  by_cases hlt : k < 1
  · have hk0 : k = 0 := by omega
    subst hk0
    simp (disch := ((try simp only [List.length_set, List.length_replicate, List.length_append, List.length_cons, List.length_nil]); omega)) only [aW, aX, aV, aB, aN, aL, aP, aH, List.length_cons, List.length_nil, List.getD_cons_zero]
    refine ib_intro (fun h3 => ?_) (fun h3 => ?_)
    · simp (disch := ((try simp only [List.length_set, List.length_replicate, List.length_append, List.length_cons, List.length_nil]); omega)) only [aW, aX, aV, aB, aN, aL, aP, aH, r_num_in]
      exact post_v ⟨vfalse (by omega), rfl⟩
    · simp (disch := ((try simp only [List.length_set, List.length_replicate, List.length_append, List.length_cons, List.length_nil]); omega)) only [aW, aX, aV, aB, aN, aL, aP, aH]
      exact ⟨1, ⟨by omega, fun _ => by omega⟩, by omega, (by refine Cut.of' (0) ?_ (by omega) ?_ ?_ <;> simp (disch := first | omega | simp (disch := omega) only [aF, aL, aN]) only [aW, aX, aV, aB, aN, aL, aP, aH, aF, Int.natCast_add, Int.natCast_mul, Int.add_sub_cancel, List.length_nil, Int.cast_ofNat_Int, and_true, true_and, Int.zero_add])⟩
  · have hk1 : k = 1 := by omega
    subst hk1
    simp (disch := ((try simp only [List.length_set, List.length_replicate, List.length_append, List.length_cons, List.length_nil]); omega)) only [aW, aX, aV, aB, aN, aL, aP, aH, r_num_in, List.length_cons, List.length_nil]
    exact post_v ⟨vtrue (hx rfl), rfl⟩

theorem checked_vr (x : Int) : VR P false n_num_checked [.v (.int .i64 x)] [] (isR (.tup [.v (.int .i64 (if -1125899906842624 ≤ x ∧ x ≤ 1125899906842624 then x else 0)), .v (.int .i64 (if -1125899906842624 ≤ x ∧ x ≤ 1125899906842624 then 0 else 2))])) := by
  refine vr_num_checked (by simp) (.inr rfl) fun _ _ => ?_
  simp (disch := ((try simp only [List.length_set, List.length_replicate, List.length_append, List.length_cons, List.length_nil]); omega)) only [aW, aX, aV, aB, aN, aL, aP, aH, s_num_checked, v_num_checked]
  refine (numIn_vr (w := false) x).use ⟨ld_slI _ 0 0 1 [x] rfl rfl, trivial⟩ rfl (aret_of ?_)
  by_cases h : -1125899906842624 ≤ x ∧ x ≤ 1125899906842624
  · rw [if_pos h, if_pos h]
    simp (disch := ((try simp only [List.length_set, List.length_replicate, List.length_append, List.length_cons, List.length_nil]); omega)) only [aW, aX, aV, aB, aN, aL, aP, aH, decide_eq_true h, r_num_checked]
    exact post0 (Fz.refl rfl) ⟨rfl, rfl⟩
  · rw [if_neg h, if_neg h]
    simp (disch := ((try simp only [List.length_set, List.length_replicate, List.length_append, List.length_cons, List.length_nil]); omega)) only [aW, aX, aV, aB, aN, aL, aP, aH, decide_eq_false h, r_num_checked]
    exact post0 (Fz.refl rfl) ⟨rfl, rfl⟩

theorem numSum_vr {w : Bool} (l : List Int) (hl : l.length ≤ 512) (hr : ∀ x ∈ l, 0 ≤ x ∧ x ≤ 1125899906842624) : VR P false n_num_Sum [.fs w (ints l)] [] (isR (.tup [.v (.int .i64 (if l.sum ≤ 1125899906842624 then l.sum else 0)), .v (.int .i64 (if l.sum ≤ 1125899906842624 then 0 else 2))])) := by
  refine vr_num_Sum (by simp) (.inr rfl) fun _ _ => ?_
  have e25 : (2 : Int) ^ (25 : Int).toNat = 33554432 := by decide
  have e25' : (2 : Int) ^ 25 = 33554432 := by decide
  simp (disch := ((try simp only [List.length_set, List.length_replicate, List.length_append, List.length_cons, List.length_nil]); omega)) only [aW, aX, aV, aB, aN, aL, aP, aH, s_num_Sum, v_num_Sum]
  refine AWP.loopP (α := Nat × Int × Int) g_num_Sum_0 (fun s => s.1 ≤ l.length ∧ s.2.1 * 33554432 + s.2.2 = sumK l s.1 ∧ 0 ≤ s.2.1 ∧ s.2.1 ≤ s.1 * 33554432 ∧ 0 ≤ s.2.2 ∧ s.2.2 ≤ s.1 * 33554432) (fun s => [(1, .v (.int .i64 0)), (2, .v (.int .i64 0)), (3, .v (.int .i64 s.2.1)), (4, .v (.int .i64 s.2.2)), (5, .v (.int .i64 s.1))]) (fun _ => []) (fun s => l.length - s.1) (0, 0, 0) ⟨by omega, by simp [sumK_zero], by simp, by simp, by simp, by simp⟩ ?_ ?_
  · exact Cut.of' 0 rfl (by omega) (by simp (disch := first | omega | simp (disch := omega) only [aF, aL, aN]) only [aW, aX, aV, aB, aN, aL, aP, aH, aF, Int.natCast_add, Int.natCast_mul, Int.add_sub_cancel, List.length_nil, Int.cast_ofNat_Int, and_true, true_and]) (by simp (disch := first | omega | simp (disch := omega) only [aF, aL, aN]) only [aW, aX, aV, aB, aN, aL, aP, aH, aF, Int.natCast_add, Int.natCast_mul, Int.add_sub_cancel, List.length_nil, Int.cast_ofNat_Int, and_true, true_and])
  rintro ⟨k, hi, lo⟩ ⟨h1, h2, h3, h4, h5, h6⟩
  simp only at h1 h2 h3 h4 h5 h6
  by_cases hlt : k < l.length
  · have hx := hr _ (mem_getD hlt)
    have hs := sumK_succ l k hlt
    simp (disch := ((try simp only [List.length_set, List.length_replicate, List.length_append, List.length_cons, List.length_nil]); omega)) only [aW, aX, aV, aB, aN, aL, aP, aH]
    refine (numIn_vr (w := false) (l.getD k 0)).use ⟨ld_slI _ 0 0 1 [l.getD k 0] rfl rfl, trivial⟩ rfl (aret_of ?_)
    simp (disch := ((try simp only [List.length_set, List.length_replicate, List.length_append, List.length_cons, List.length_nil]); omega)) only [aW, aX, aV, aB, aN, aL, aP, aH, decide_eq_true (show -1125899906842624 ≤ l.getD k 0 ∧ l.getD k 0 ≤ 1125899906842624 by omega), s_shrI, e25, s_andI (l.getD k 0) 33554431 25 (by omega) rfl (by omega) (by omega), e25']
    refine ⟨(k + 1, hi + l.getD k 0 / 33554432, lo + l.getD k 0 % 33554432), ⟨by simp only; omega, ?_, ?_, ?_, ?_, ?_⟩, by simp only; omega, ?_⟩
    · simp only; omega
    · simp only; omega
    · simp only; omega
    · simp only; omega
    · simp only; omega
    · exact Cut.of' 0 rfl (by omega) (by simp (disch := first | omega | simp (disch := omega) only [aF, aL, aN]) only [aW, aX, aV, aB, aN, aL, aP, aH, aF, Int.natCast_add, Int.natCast_mul, Int.add_sub_cancel, List.length_nil, Int.cast_ofNat_Int, and_true, true_and]) (by simp (disch := first | omega | simp (disch := omega) only [aF, aL, aN]) only [aW, aX, aV, aB, aN, aL, aP, aH, aF, Int.natCast_add, Int.natCast_mul, Int.add_sub_cancel, List.length_nil, Int.cast_ofNat_Int, and_true, true_and])
  · have hke : k = l.length := by omega
    subst hke
    rw [sumK_all] at h2
    simp (disch := ((try simp only [List.length_set, List.length_replicate, List.length_append, List.length_cons, List.length_nil]); omega)) only [aW, aX, aV, aB, aN, aL, aP, aH, s_shrI, e25]
    refine ib_intro (fun h7 => ?_) (fun h7 => ?_)
    · rw [if_neg (by omega), if_neg (by omega)]
      simp (disch := ((try simp only [List.length_set, List.length_replicate, List.length_append, List.length_cons, List.length_nil]); omega)) only [aW, aX, aV, aB, aN, aL, aP, aH, r_num_Sum]
      exact post0 (Fz.refl rfl) ⟨rfl, rfl⟩
    · have e5 : (hi + lo / 33554432) * 33554432 + lo % 33554432 = l.sum := by omega
      simp (disch := ((try simp only [List.length_set, List.length_replicate, List.length_append, List.length_cons, List.length_nil]); omega)) only [aW, aX, aV, aB, aN, aL, aP, aH, s_shlI, e25, s_andI lo 33554431 25 (by omega) rfl (by omega) (by omega), e25', e5]
      refine (checked_vr l.sum).same (by simp (disch := first | omega | simp (disch := omega) only [aF, aL, aN]) only [aW, aX, aV, aB, aN, aL, aP, aH, aF, Int.natCast_add, Int.natCast_mul, Int.add_sub_cancel, List.length_nil, Int.cast_ofNat_Int, and_true, true_and]) rfl (aret_of ?_)
      have e6 : (-1125899906842624 ≤ l.sum ∧ l.sum ≤ 1125899906842624) = (l.sum ≤ 1125899906842624) := propext (by omega)
      simp only [e6]
      simp (disch := ((try simp only [List.length_set, List.length_replicate, List.length_append, List.length_cons, List.length_nil]); omega)) only [aW, aX, aV, aB, aN, aL, aP, aH, r_num_Sum]
      exact post0 (Fz.refl rfl) ⟨rfl, rfl⟩

/-! ### Sums of weights -/
def badW (w : Int) : Prop := w < 0 ∨ 1125899906842624 < w
instance : DecidablePred badW := fun w => by unfold badW; infer_instance
def weighE (ws : List Int) : Int × Int :=
  if ws.length < 1 ∨ 512 < ws.length then (0, 1) else if ∃ i, i < ws.length ∧ badW (ws.getD i 0) then (0, 1) else if ws.sum ≤ 1125899906842624 then (ws.sum, 0) else (0, 2)
theorem weigh_len {ws : List Int} (h : ws.length < 1 ∨ 512 < ws.length) : weighE ws = (0, 1) := by unfold weighE; rw [if_pos h]
theorem weigh_bad {ws : List Int} (h : ¬ (ws.length < 1 ∨ 512 < ws.length)) (h2 : ∃ i, i < ws.length ∧ badW (ws.getD i 0)) : weighE ws = (0, 1) := by unfold weighE; rw [if_neg h, if_pos h2]
theorem weigh_sum {ws : List Int} (h : ¬ (ws.length < 1 ∨ 512 < ws.length)) (h2 : ¬ ∃ i, i < ws.length ∧ badW (ws.getD i 0)) : weighE ws = if ws.sum ≤ 1125899906842624 then (ws.sum, 0) else (0, 2) := by unfold weighE; rw [if_neg h, if_neg h2]
def pairT (x : Int × Int) : A := .tup [.v (.int .i64 x.1), .v (.int .i64 x.2)]

theorem weighed_vr {w : Bool} (ws : List Int) : VR P false n_share_weighed [.fs w (ints ws)] [] (isR (pairT (weighE ws))) := by
  refine vr_share_weighed (by simp) (.inr rfl) fun _ _ => ?_
  unfold pairT
  simp (disch := ((try simp only [List.length_set, List.length_replicate, List.length_append, List.length_cons, List.length_nil]); omega)) only [aW, aX, aV, aB, aN, aL, aP, aH, s_share_weighed, v_share_weighed]
  refine ib_intro (fun h1 => ?_) (fun h1 => ?_)
  · rw [weigh_len (by omega)]
    simp (disch := ((try simp only [List.length_set, List.length_replicate, List.length_append, List.length_cons, List.length_nil]); omega)) only [aW, aX, aV, aB, aN, aL, aP, aH, r_share_weighed]
    exact post0 (Fz.refl rfl) ⟨rfl, rfl⟩
  have h1 : ¬ (ws.length < 1 ∨ 512 < ws.length) := by omega
  simp (disch := ((try simp only [List.length_set, List.length_replicate, List.length_append, List.length_cons, List.length_nil]); omega)) only [aW, aX, aV, aB, aN, aL, aP, aH]
  refine AWP.loopP g_share_weighed_0 (fun k : Nat => k ≤ ws.length ∧ ∀ i, i < k → ¬ badW (ws.getD i 0)) (fun k => [(1, .v (.int .i64 0)), (2, .v (.int .i64 0)), (3, .v (.int .i64 k))]) (fun _ => []) (fun k => ws.length - k) 0 ⟨by omega, fun i hi => by omega⟩ (by refine Cut.of' (0) ?_ (by omega) ?_ ?_ <;> simp (disch := first | omega | simp (disch := omega) only [aF, aL, aN]) only [aW, aX, aV, aB, aN, aL, aP, aH, aF, Int.natCast_add, Int.natCast_mul, Int.add_sub_cancel, List.length_nil, Int.cast_ofNat_Int, and_true, true_and]) ?_
  rintro k ⟨hk, hb⟩
  by_cases hlt : k < ws.length
  · simp (disch := ((try simp only [List.length_set, List.length_replicate, List.length_append, List.length_cons, List.length_nil]); omega)) only [aW, aX, aV, aB, aN, aL, aP, aH]
    refine ib_intro (fun h3 => ?_) (fun h3 => ?_)
    · rw [weigh_bad h1 ⟨k, hlt, h3⟩]
      simp (disch := ((try simp only [List.length_set, List.length_replicate, List.length_append, List.length_cons, List.length_nil]); omega)) only [aW, aX, aV, aB, aN, aL, aP, aH, r_share_weighed]
      exact post0 (Fz.refl rfl) ⟨rfl, rfl⟩
    · simp (disch := ((try simp only [List.length_set, List.length_replicate, List.length_append, List.length_cons, List.length_nil]); omega)) only [aW, aX, aV, aB, aN, aL, aP, aH]
      refine ⟨k + 1, ⟨by omega, fun i hi => ?_⟩, by omega, (by refine Cut.of' (0) ?_ (by omega) ?_ ?_ <;> simp (disch := first | omega | simp (disch := omega) only [aF, aL, aN]) only [aW, aX, aV, aB, aN, aL, aP, aH, aF, Int.natCast_add, Int.natCast_mul, Int.add_sub_cancel, List.length_nil, Int.cast_ofNat_Int, and_true, true_and])⟩
      rcases Nat.lt_succ_iff_lt_or_eq.1 hi with h | rfl
      · exact hb i h
      · exact h3
  · have hno : ¬ ∃ i, i < ws.length ∧ badW (ws.getD i 0) := by
      rintro ⟨i, h2, h3⟩; exact hb i (by omega) h3
    have hall : ∀ x ∈ ws, 0 ≤ x ∧ x ≤ 1125899906842624 := fun x hx => by
      obtain ⟨i, h2, rfl⟩ := getD_mem hx
      have := hb i (by omega)
      unfold badW at this; omega
    rw [weigh_sum h1 hno]
    simp (disch := ((try simp only [List.length_set, List.length_replicate, List.length_append, List.length_cons, List.length_nil]); omega)) only [aW, aX, aV, aB, aN, aL, aP, aH]
    refine (numSum_vr (w := w) ws (by omega) hall).same (by simp (disch := first | omega | simp (disch := omega) only [aF, aL, aN]) only [aW, aX, aV, aB, aN, aL, aP, aH, aF, Int.natCast_add, Int.natCast_mul, Int.add_sub_cancel, List.length_nil, Int.cast_ofNat_Int, and_true, true_and]) rfl (aret_of ?_)
    by_cases h4 : ws.sum ≤ 1125899906842624
    · simp only [if_pos h4]
      simp (disch := ((try simp only [List.length_set, List.length_replicate, List.length_append, List.length_cons, List.length_nil]); omega)) only [aW, aX, aV, aB, aN, aL, aP, aH, r_share_weighed]
      exact post0 (Fz.refl rfl) ⟨rfl, rfl⟩
    · simp only [if_neg h4]
      simp (disch := ((try simp only [List.length_set, List.length_replicate, List.length_append, List.length_cons, List.length_nil]); omega)) only [aW, aX, aV, aB, aN, aL, aP, aH, r_share_weighed]
      exact post0 (Fz.refl rfl) ⟨rfl, rfl⟩

theorem sumK_le {ws : List Int} (h : ∀ i, i < ws.length → ¬ badW (ws.getD i 0)) : ∀ k, k ≤ ws.length → 0 ≤ sumK ws k ∧ sumK ws k ≤ sumK ws ws.length := fun k hk => by
  have hall : ∀ x ∈ ws, 0 ≤ x := fun x hx => by
    obtain ⟨i, h2, rfl⟩ := getD_mem hx
    have := h i (by omega)
    unfold badW at this; omega
  have h1 := sum_ge0 (ws.take k) fun x hx => hall x (List.mem_of_mem_take hx)
  have h2 := sum_ge0 (ws.drop k) fun x hx => hall x (List.mem_of_mem_drop hx)
  have h3 : ws.sum = (ws.take k).sum + (ws.drop k).sum := by rw [← List.sum_append, List.take_append_drop]
  rw [sumK_all]
  unfold sumK
  omega
theorem ref11Sum_vr {w : Bool} (ws : List Int) : VR P false n_ref11_sum [.fs w (ints ws)] [] (isR (pairT (weighE ws))) := by
  refine vr_ref11_sum (by simp) (.inr rfl) fun _ _ => ?_
  unfold pairT
  simp (disch := ((try simp only [List.length_set, List.length_replicate, List.length_append, List.length_cons, List.length_nil]); omega)) only [aW, aX, aV, aB, aN, aL, aP, aH, s_ref11_sum, v_ref11_sum]
  refine ib_intro (fun h1 => ?_) (fun h1 => ?_)
  · rw [weigh_len (by omega)]
    simp (disch := ((try simp only [List.length_set, List.length_replicate, List.length_append, List.length_cons, List.length_nil]); omega)) only [aW, aX, aV, aB, aN, aL, aP, aH, r_ref11_sum]
    exact post0 (Fz.refl rfl) ⟨rfl, rfl⟩
  have h1 : ¬ (ws.length < 1 ∨ 512 < ws.length) := by omega
  simp (disch := ((try simp only [List.length_set, List.length_replicate, List.length_append, List.length_cons, List.length_nil]); omega)) only [aW, aX, aV, aB, aN, aL, aP, aH]
  refine AWP.loopP g_ref11_sum_0 (fun k : Nat => k ≤ ws.length ∧ ∀ i, i < k → ¬ badW (ws.getD i 0)) (fun k => [(1, .v (.int .i64 0)), (2, .v (.int .i64 0)), (3, .v (.int .i64 k))]) (fun _ => []) (fun k => ws.length - k) 0 ⟨by omega, fun i hi => by omega⟩ (by refine Cut.of' (0) ?_ (by omega) ?_ ?_ <;> simp (disch := first | omega | simp (disch := omega) only [aF, aL, aN]) only [aW, aX, aV, aB, aN, aL, aP, aH, aF, Int.natCast_add, Int.natCast_mul, Int.add_sub_cancel, List.length_nil, Int.cast_ofNat_Int, and_true, true_and]) ?_
  rintro k ⟨hk, hb⟩
  by_cases hlt : k < ws.length
  · simp (disch := ((try simp only [List.length_set, List.length_replicate, List.length_append, List.length_cons, List.length_nil]); omega)) only [aW, aX, aV, aB, aN, aL, aP, aH]
    refine ib_intro (fun h3 => ?_) (fun h3 => ?_)
    · rw [weigh_bad h1 ⟨k, hlt, h3⟩]
      simp (disch := ((try simp only [List.length_set, List.length_replicate, List.length_append, List.length_cons, List.length_nil]); omega)) only [aW, aX, aV, aB, aN, aL, aP, aH, r_ref11_sum]
      exact post0 (Fz.refl rfl) ⟨rfl, rfl⟩
    · simp (disch := ((try simp only [List.length_set, List.length_replicate, List.length_append, List.length_cons, List.length_nil]); omega)) only [aW, aX, aV, aB, aN, aL, aP, aH]
      refine ⟨k + 1, ⟨by omega, fun i hi => ?_⟩, by omega, (by refine Cut.of' (0) ?_ (by omega) ?_ ?_ <;> simp (disch := first | omega | simp (disch := omega) only [aF, aL, aN]) only [aW, aX, aV, aB, aN, aL, aP, aH, aF, Int.natCast_add, Int.natCast_mul, Int.add_sub_cancel, List.length_nil, Int.cast_ofNat_Int, and_true, true_and])⟩
      rcases Nat.lt_succ_iff_lt_or_eq.1 hi with h | rfl
      · exact hb i h
      · exact h3
  have hb : ∀ i, i < ws.length → ¬ badW (ws.getD i 0) := fun i hi => hb i (by omega)
  have hno : ¬ ∃ i, i < ws.length ∧ badW (ws.getD i 0) := by
    rintro ⟨i, h2, h3⟩; exact hb i h2 h3
  have hle := sumK_le hb
  rw [weigh_sum h1 hno]
  simp (disch := ((try simp only [List.length_set, List.length_replicate, List.length_append, List.length_cons, List.length_nil]); omega)) only [aW, aX, aV, aB, aN, aL, aP, aH]
  refine AWP.loopP g_ref11_sum_1 (fun k : Nat => k ≤ ws.length ∧ sumK ws k ≤ 1125899906842624) (fun k => [(1, .v (.int .i64 0)), (2, .v (.int .i64 0)), (4, .v (.int .i64 (sumK ws k))), (5, .v (.int .i64 k))]) (fun _ => []) (fun k => ws.length - k) 0 ⟨by omega, by rw [sumK_zero]; omega⟩ (by refine Cut.of' (0) ?_ (by omega) ?_ ?_ <;> simp (disch := first | omega | simp (disch := omega) only [aF, aL, aN]) only [aW, aX, aV, aB, aN, aL, aP, aH, aF, Int.natCast_add, Int.natCast_mul, Int.add_sub_cancel, List.length_nil, Int.cast_ofNat_Int, and_true, true_and, sumK_zero]) ?_
  rintro k ⟨hk, hs⟩
  by_cases hlt : k < ws.length
  · have h5 := hle k (by omega)
    have h6 := hle (k + 1) (by omega)
    have h7 := sumK_succ ws k hlt
    have h8 := hb k hlt
    unfold badW at h8
    simp (disch := ((try simp only [List.length_set, List.length_replicate, List.length_append, List.length_cons, List.length_nil]); omega)) only [aW, aX, aV, aB, aN, aL, aP, aH, ← h7]
    refine ib_intro (fun h3 => ?_) (fun h3 => ?_)
    · rw [sumK_all] at h6
      rw [if_neg (by omega)]
      simp (disch := ((try simp only [List.length_set, List.length_replicate, List.length_append, List.length_cons, List.length_nil]); omega)) only [aW, aX, aV, aB, aN, aL, aP, aH, r_ref11_sum]
      exact post0 (Fz.refl rfl) ⟨rfl, rfl⟩
    · simp (disch := ((try simp only [List.length_set, List.length_replicate, List.length_append, List.length_cons, List.length_nil]); omega)) only [aW, aX, aV, aB, aN, aL, aP, aH]
      exact ⟨k + 1, ⟨by omega, by omega⟩, by omega, (by refine Cut.of' (0) ?_ (by omega) ?_ ?_ <;> simp (disch := first | omega | simp (disch := omega) only [aF, aL, aN]) only [aW, aX, aV, aB, aN, aL, aP, aH, aF, Int.natCast_add, Int.natCast_mul, Int.add_sub_cancel, List.length_nil, Int.cast_ofNat_Int, and_true, true_and])⟩
  · have hke : k = ws.length := by omega
    subst hke
    rw [sumK_all] at hs ⊢
    rw [if_pos hs]
    simp (disch := ((try simp only [List.length_set, List.length_replicate, List.length_append, List.length_cons, List.length_nil]); omega)) only [aW, aX, aV, aB, aN, aL, aP, aH, r_ref11_sum]
    exact post0 (Fz.refl rfl) ⟨rfl, rfl⟩

/-! ### The reference's division -/
theorem half_pow (a : Int) (ha : 0 ≤ a) (k : Nat) : a / 2 ^ k = 2 * (a / 2 ^ (k + 1)) + a / 2 ^ k % 2 := by
  have h1 : a / 2 ^ (k + 1) = a / 2 ^ k / 2 := by
    rw [Int.pow_succ, Int.ediv_ediv_of_nonneg (Int.le_of_lt (Int.pow_pos (by decide)))]
  rw [h1]; omega
theorem pow_small (a : Int) (h0 : 0 ≤ a) (h1 : a ≤ 70368744177664) : a / 2 ^ 51 = 0 := by
  have : (2 : Int) ^ 51 = 2251799813685248 := by decide
  rw [this]; omega
theorem div_bound (a : Int) (h0 : 0 ≤ a) (h1 : a ≤ 70368744177664) (k : Nat) : 0 ≤ a / 2 ^ k ∧ a / 2 ^ k ≤ 70368744177664 := by
  have hp : (0 : Int) < 2 ^ k := Int.pow_pos (by decide)
  refine ⟨Int.ediv_nonneg h0 (Int.le_of_lt hp), ?_⟩
  have := Int.ediv_le_self (2 ^ k) h0
  omega
theorem divide_vr (a b c : Int) (ha : 0 ≤ a ∧ a ≤ 70368744177664) (hb : 0 ≤ b ∧ b ≤ c) (hc : 0 < c ∧ c ≤ 1125899906842624) : VR P false n_ref11_divide [.v (.int .i64 a), .v (.int .i64 b), .v (.int .i64 c)] [] (isR (pairT (a * b / c, a * b % c))) := by
  refine vr_ref11_divide (by simp) (.inr rfl) fun _ _ => ?_
  simp (disch := ((try simp only [List.length_set, List.length_replicate, List.length_append, List.length_cons, List.length_nil]); omega)) only [aW, aX, aV, aB, aN, aL, aP, aH, s_ref11_divide, v_ref11_divide]
  refine AWP.loopP (α := Nat × Int × Int) g_ref11_divide_0 (fun s => s.1 ≤ 51 ∧ c * s.2.1 + s.2.2 = a / 2 ^ s.1 * b ∧ 0 ≤ s.2.2 ∧ s.2.2 < c ∧ 0 ≤ s.2.1 ∧ s.2.1 ≤ a / 2 ^ s.1) (fun s => [(5, .v (.int .i64 s.2.1)), (6, .v (.int .i64 s.2.2)), (7, .v (.int .i64 (s.1 - 1)))]) (fun _ => []) (fun s => s.1) (51, 0, 0) ⟨Nat.le_refl _, ?_, by simp, by simp only; omega, by simp, ?_⟩ ?_ ?_
  · simp only; rw [pow_small a ha.1 ha.2]; simp
  · simp only; rw [pow_small a ha.1 ha.2]; simp
  · have e51 : ((51 : Nat) : Int) - 1 = 50 := by omega
    simp only [e51]
    exact Cut.of' 0 rfl (by omega) (by simp (disch := first | omega | simp (disch := omega) only [aF, aL, aN]) only [aW, aX, aV, aB, aN, aL, aP, aH, aF, Int.natCast_add, Int.natCast_mul, Int.add_sub_cancel, List.length_nil, Int.cast_ofNat_Int, and_true, true_and]) (by simp (disch := first | omega | simp (disch := omega) only [aF, aL, aN]) only [aW, aX, aV, aB, aN, aL, aP, aH, aF, Int.natCast_add, Int.natCast_mul, Int.add_sub_cancel, List.length_nil, Int.cast_ofNat_Int, and_true, true_and])
  rintro ⟨m, q, r⟩ ⟨h1, h2, h3, h4, h5, h6⟩
  simp only at h1 h2 h3 h4 h5 h6
  by_cases hm : 0 < m
  · obtain ⟨k, rfl⟩ : ∃ k, m = k + 1 := ⟨m - 1, by omega⟩
    have e1 : ((k + 1 : Nat) : Int) - 1 = (k : Nat) := by omega
    have hh := half_pow a ha.1 k
    have hd := div_bound a ha.1 ha.2 (k + 1)
    have hd2 := div_bound a ha.1 ha.2 k
    have e2 : (2 : Int) ^ 1 = 2 := by decide
    generalize hA : a / 2 ^ (k + 1) = A1 at *
    generalize hB : a / 2 ^ k = A0 at *
    have hbit : A0 % 2 = 0 ∨ A0 % 2 = 1 := by omega
    have hA0 : A0 * b = 2 * (A1 * b) + A0 % 2 * b := by
      have : A0 * b = (2 * A1 + A0 % 2) * b := by rw [← hh]
      rw [this, Int.add_mul, Int.mul_assoc]
    simp (disch := ((try simp only [List.length_set, List.length_replicate, List.length_append, List.length_cons, List.length_nil]); omega)) only [aW, aX, aV, aB, aN, aL, aP, aH, e1, wrap_u64, s_shrI, Int.toNat_natCast, hB, s_andI A0 1 1 (by omega) rfl (by omega) (by omega), e2]
    have hAb : A0 * b ≤ A0 * c := Int.mul_le_mul_of_nonneg_left hb.2 hd2.1
    obtain ⟨R, hR⟩ : ∃ R, R = 2 * r + A0 % 2 * b := ⟨_, rfl⟩
    have hRb : 0 ≤ R ∧ R < 3 * c ∧ c * (2 * q) + R = A0 * b := by
      have : c * (2 * q) = 2 * (c * q) := by rw [← Int.mul_assoc, Int.mul_comm c 2, Int.mul_assoc]
      rcases hbit with h | h <;> rw [h] at hR hA0 <;> omega
    refine aif_merge2 (fun e' => e' = [.v (.int .i64 a), .v (.int .i64 b), .v (.int .i64 c), .v (.int .i64 0), .v (.int .i64 0), .v (.int .i64 (2 * q)), .v (.int .i64 R), .v (.int .i64 (k : Nat))]) ?_ ?_ ?_
    · intro ht
      have h1 := of_decide_eq_true ht
      rw [h1] at hR
      have : 2 * r + b = R := by omega
      simp (disch := ((try simp only [List.length_set, List.length_replicate, List.length_append, List.length_cons, List.length_nil]); omega)) only [aW, aX, aV, aB, aN, aL, aP, aH, this]
      exact ⟨trivial, trivial, by first | rfl | trivial⟩
    · intro ht
      have h1 := of_decide_eq_false ht
      have h0 : A0 % 2 = 0 := by omega
      rw [h0] at hR
      have : 2 * r = R := by omega
      simp (disch := ((try simp only [List.length_set, List.length_replicate, List.length_append, List.length_cons, List.length_nil]); omega)) only [aW, aX, aV, aB, aN, aL, aP, aH, this]
      exact ⟨trivial, trivial, by first | rfl | trivial⟩
    rintro e' rfl
    clear hbit hh hA0
    simp (disch := ((try simp only [List.length_set, List.length_replicate, List.length_append, List.length_cons, List.length_nil]); omega)) only [aW, aX, aV, aB, aN, aL, aP, aH]
    refine AWP.loopP (α := Int × Int) g_ref11_divide_1 (fun s => c * s.1 + s.2 = A0 * b ∧ 0 ≤ s.2 ∧ s.2 < 3 * c ∧ 0 ≤ s.1) (fun s => [(5, .v (.int .i64 s.1)), (6, .v (.int .i64 s.2))]) (fun _ => []) (fun s => s.2.toNat) (2 * q, R) ⟨hRb.2.2, hRb.1, hRb.2.1, by simp only; omega⟩ ?_ ?_
    · exact Cut.of' 0 rfl (by omega) (by simp (disch := first | omega | simp (disch := omega) only [aF, aL, aN]) only [aW, aX, aV, aB, aN, aL, aP, aH, aF, Int.natCast_add, Int.natCast_mul, Int.add_sub_cancel, List.length_nil, Int.cast_ofNat_Int, and_true, true_and]) (by simp (disch := first | omega | simp (disch := omega) only [aF, aL, aN]) only [aW, aX, aV, aB, aN, aL, aP, aH, aF, Int.natCast_add, Int.natCast_mul, Int.add_sub_cancel, List.length_nil, Int.cast_ofNat_Int, and_true, true_and])
    rintro ⟨u, v⟩ ⟨g1, g2, g3, g4⟩
    simp only at g1 g2 g3 g4
    have hu : u ≤ A0 := by
      apply Int.le_of_mul_le_mul_left (a := c) _ hc.1
      rw [Int.mul_comm c A0]; omega
    by_cases hv : c ≤ v
    · simp (disch := ((try simp only [List.length_set, List.length_replicate, List.length_append, List.length_cons, List.length_nil]); omega)) only [aW, aX, aV, aB, aN, aL, aP, aH]
      refine ⟨(u + 1, v - c), ⟨?_, by simp only; omega, by simp only; omega, by simp only; omega⟩, by simp only; omega, ?_⟩
      · simp only; rw [Int.mul_add]; omega
      · exact Cut.of' 0 rfl (by omega) (by simp (disch := first | omega | simp (disch := omega) only [aF, aL, aN]) only [aW, aX, aV, aB, aN, aL, aP, aH, aF, Int.natCast_add, Int.natCast_mul, Int.add_sub_cancel, List.length_nil, Int.cast_ofNat_Int, and_true, true_and]) (by simp (disch := first | omega | simp (disch := omega) only [aF, aL, aN]) only [aW, aX, aV, aB, aN, aL, aP, aH, aF, Int.natCast_add, Int.natCast_mul, Int.add_sub_cancel, List.length_nil, Int.cast_ofNat_Int, and_true, true_and])
    · simp (disch := ((try simp only [List.length_set, List.length_replicate, List.length_append, List.length_cons, List.length_nil]); omega)) only [aW, aX, aV, aB, aN, aL, aP, aH]
      refine ⟨(k, u, v), ⟨by simp only; omega, by simp only [hB]; exact g1, g2, by simp only; omega, g4, by simp only [hB]; exact hu⟩, by simp only; omega, ?_⟩
      exact Cut.of' 0 rfl (by omega) (by simp (disch := first | omega | simp (disch := omega) only [aF, aL, aN]) only [aW, aX, aV, aB, aN, aL, aP, aH, aF, Int.natCast_add, Int.natCast_mul, Int.add_sub_cancel, List.length_nil, Int.cast_ofNat_Int, and_true, true_and]) (by simp (disch := first | omega | simp (disch := omega) only [aF, aL, aN]) only [aW, aX, aV, aB, aN, aL, aP, aH, aF, Int.natCast_add, Int.natCast_mul, Int.add_sub_cancel, List.length_nil, Int.cast_ofNat_Int, and_true, true_and])
  · have hm0 : m = 0 := by omega
    subst hm0
    rw [Int.pow_zero, Int.ediv_one] at h2
    have hq : a * b / c = q := by
      rw [← h2, Int.add_comm, Int.add_mul_ediv_left _ _ (by omega), Int.ediv_eq_zero_of_lt h3 h4, Int.zero_add]
    have hr : a * b % c = r := by
      rw [← h2, Int.add_comm, Int.add_mul_emod_self_left, Int.emod_eq_of_lt h3 h4]
    rw [hq, hr]
    unfold pairT
    simp (disch := ((try simp only [List.length_set, List.length_replicate, List.length_append, List.length_cons, List.length_nil]); omega)) only [aW, aX, aV, aB, aN, aL, aP, aH, r_ref11_divide]
    exact post0 (Fz.refl rfl) ⟨rfl, rfl⟩
end Go.Proofs.Ytnpbnlafaoldcaa
