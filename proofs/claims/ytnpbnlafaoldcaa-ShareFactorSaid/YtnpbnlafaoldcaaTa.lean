/- Small functions of the reference of share; equal parts; the laws' example. No statement is claimed here. -/
import Derived.Test.YtnpbnlafaoldcaaRj
import Derived.Test.YtnpbnlafaoldcaaPa
namespace Go.Proofs.Ytnpbnlafaoldcaa
open Go Go.Lft
set_option linter.unusedSimpArgs false
set_option linter.unusedVariables false
attribute [local congr] ob_congr bw_congr ib_congr ck_congr iwA_congr itA_congr aw_congr awp_congr sqA_congr bkA_congr vr_congr gd_congr

theorem eq_of_getS {α : Type} {a b : List α} (d : α) (hl : a.length = b.length) (h : ∀ i, i < a.length → a.getD i d = b.getD i d) : a = b := by
  apply List.ext_getElem hl
  intro i h1 h2
  have := h i h1
  simpa [List.getD_eq_getElem?_getD, h1, h2] using this
theorem same11_vr {w v : Bool} (a b : List Int) (ha : a.length < 1000000000) : VR P false n_ref11_Same [.fs w (ints a), .fs v (ints b)] [] (isR (.v (.bool (decide (a = b))))) := by
  refine vr_ref11_Same (by simp) (.inr rfl) fun _ _ => ?_
  simp (disch := ((try simp only [List.length_set, List.length_replicate, List.length_append, List.length_cons, List.length_nil]); omega)) only [aW, aX, aV, aB, aN, aL, aP, aH, s_ref11_Same, v_ref11_Same]
  refine ib_intro (fun h1 => ?_) (fun h1 => ?_)
  · simp (disch := ((try simp only [List.length_set, List.length_replicate, List.length_append, List.length_cons, List.length_nil]); omega)) only [aW, aX, aV, aB, aN, aL, aP, aH, r_ref11_Same]
    exact post_v ⟨vfalse (fun h => h1 (by rw [h])), rfl⟩
  have hl : a.length = b.length := by omega
  simp (disch := ((try simp only [List.length_set, List.length_replicate, List.length_append, List.length_cons, List.length_nil]); omega)) only [aW, aX, aV, aB, aN, aL, aP, aH]
  refine AWP.loopP g_ref11_Same_0 (fun k : Nat => k ≤ a.length ∧ ∀ i, i < k → a.getD i 0 = b.getD i 0) (fun k => [(2, .v (.bool false)), (3, .v (.int .i64 k))]) (fun _ => []) (fun k => a.length - k) 0 ⟨by omega, fun i hi => by omega⟩ (by refine Cut.of' (0) ?_ (by omega) ?_ ?_ <;> simp (disch := first | omega | simp (disch := omega) only [aF, aL, aN]) only [aW, aX, aV, aB, aN, aL, aP, aH, aF, Int.natCast_add, Int.natCast_mul, Int.add_sub_cancel, List.length_nil, Int.cast_ofNat_Int, and_true, true_and]) ?_
  rintro k ⟨hk, hg⟩
  by_cases hlt : k < a.length
  · simp (disch := ((try simp only [List.length_set, List.length_replicate, List.length_append, List.length_cons, List.length_nil]); omega)) only [aW, aX, aV, aB, aN, aL, aP, aH]
    refine ib_split (fun h3 => ?_) (fun h3 => ?_)
    · simp (disch := ((try simp only [List.length_set, List.length_replicate, List.length_append, List.length_cons, List.length_nil]); omega)) only [aW, aX, aV, aB, aN, aL, aP, aH, r_ref11_Same]
      refine post_v ⟨vfalse (fun h => ?_), rfl⟩
      subst h; simp at h3
    · simp (disch := ((try simp only [List.length_set, List.length_replicate, List.length_append, List.length_cons, List.length_nil]); omega)) only [aW, aX, aV, aB, aN, aL, aP, aH]
      refine ⟨k + 1, ⟨by omega, fun i hi => ?_⟩, by omega, (by refine Cut.of' (0) ?_ (by omega) ?_ ?_ <;> simp (disch := first | omega | simp (disch := omega) only [aF, aL, aN]) only [aW, aX, aV, aB, aN, aL, aP, aH, aF, Int.natCast_add, Int.natCast_mul, Int.add_sub_cancel, List.length_nil, Int.cast_ofNat_Int, and_true, true_and])⟩
      rcases Nat.lt_succ_iff_lt_or_eq.1 hi with h | rfl
      · exact hg i h
      · simpa using h3
  · simp (disch := ((try simp only [List.length_set, List.length_replicate, List.length_append, List.length_cons, List.length_nil]); omega)) only [aW, aX, aV, aB, aN, aL, aP, aH, r_ref11_Same]
    exact post_v ⟨vtrue (eq_of_getS 0 hl (fun i hi => hg i (by omega))), rfl⟩
theorem total11_vr {w : Bool} (l : List Int) (hl : l.length ≤ 512) (h : ∀ i, i < l.length → 0 ≤ l.getD i 0 ∧ l.getD i 0 ≤ 1125899906842624) : VR P false n_ref11_Total [.fs w (ints l)] [] (isR (.v (.int .i64 l.sum))) := by
  refine vr_ref11_Total (by simp) (.inr rfl) fun _ _ => ?_
  simp (disch := ((try simp only [List.length_set, List.length_replicate, List.length_append, List.length_cons, List.length_nil]); omega)) only [aW, aX, aV, aB, aN, aL, aP, aH, s_ref11_Total, v_ref11_Total]
  refine AWP.loopP g_ref11_Total_0 (fun k : Nat => k ≤ l.length) (fun k => [(2, .v (.int .i64 (sumT l k))), (3, .v (.int .i64 k))]) (fun _ => []) (fun k => l.length - k) 0 (by omega) ?_ ?_
  · rw [sumT_zero]
    exact Cut.of' 0 rfl (by omega) (by simp (disch := first | omega | simp (disch := omega) only [aF, aL, aN]) only [aW, aX, aV, aB, aN, aL, aP, aH, aF, Int.natCast_add, Int.natCast_mul, Int.add_sub_cancel, List.length_nil, Int.cast_ofNat_Int, and_true, true_and]) (by simp (disch := first | omega | simp (disch := omega) only [aF, aL, aN]) only [aW, aX, aV, aB, aN, aL, aP, aH, aF, Int.natCast_add, Int.natCast_mul, Int.add_sub_cancel, List.length_nil, Int.cast_ofNat_Int, and_true, true_and])
  rintro k hk
  by_cases hlt : k < l.length
  · have h1 := sumT_bd l 0 1125899906842624 k hk fun i hi => h i (by omega)
    have h2 := h k hlt
    simp (disch := ((try simp only [List.length_set, List.length_replicate, List.length_append, List.length_cons, List.length_nil]); omega)) only [aW, aX, aV, aB, aN, aL, aP, aH]
    refine ⟨k + 1, by omega, by omega, ?_⟩
    rw [sumT_succ l k hlt]
    exact Cut.of' 0 rfl (by omega) (by simp (disch := first | omega | simp (disch := omega) only [aF, aL, aN]) only [aW, aX, aV, aB, aN, aL, aP, aH, aF, Int.natCast_add, Int.natCast_mul, Int.add_sub_cancel, List.length_nil, Int.cast_ofNat_Int, and_true, true_and]) (by simp (disch := first | omega | simp (disch := omega) only [aF, aL, aN]) only [aW, aX, aV, aB, aN, aL, aP, aH, aF, Int.natCast_add, Int.natCast_mul, Int.add_sub_cancel, List.length_nil, Int.cast_ofNat_Int, and_true, true_and])
  · have hke : k = l.length := by omega
    subst hke
    simp (disch := ((try simp only [List.length_set, List.length_replicate, List.length_append, List.length_cons, List.length_nil]); omega)) only [aW, aX, aV, aB, aN, aL, aP, aH, r_ref11_Total, sumT_all]
    exact post_v ⟨rfl, rfl⟩

/-- The i-th of n parts of t that differ by at most 1. -/
def evK (t n : Int) (i : Nat) : Int := if (i : Int) < t % n then t / n + 1 else t / n
def evN (t n : Int) (k : Nat) : List Int := (List.range k).map (evK t n)
def evM (t n : Int) (N k : Nat) : List Int := evN t n k ++ List.replicate (N - k) 0
def evE (t n : Int) : Int := if t < 0 ∨ 70368744177664 < t ∨ n < 1 ∨ 512 < n then 1 else 0
def evV (t n : Int) : List Int × Int := if evE t n ≠ 0 then ([], evE t n) else (evN t n n.toNat, 0)
theorem evN_len (t n : Int) (k : Nat) : (evN t n k).length = k := by simp [evN]
theorem evN_succ (t n : Int) (k : Nat) : evN t n k ++ [evK t n k] = evN t n (k + 1) := by simp [evN, List.range_succ]
theorem evN_get (t n : Int) {k i : Nat} (h : i < k) : (evN t n k).getD i 0 = evK t n i := by simp [evN, List.getD_eq_getElem?_getD, h]
theorem evM_len (t n : Int) {N k : Nat} (h : k ≤ N) : (evM t n N k).length = N := by simp [evM, evN_len]; omega
theorem evM_zero (t n : Int) (N : Nat) : List.replicate N 0 = evM t n N 0 := by simp [evM, evN]
theorem evM_all (t n : Int) (N : Nat) : evM t n N N = evN t n N := by simp [evM]
theorem evM_set (t n : Int) {N k : Nat} (h : k < N) : (evM t n N k).set k (evK t n k) = evM t n N (k + 1) := by
  have h2 : N - k = (N - (k + 1)) + 1 := by omega
  unfold evM
  rw [h2, List.replicate_succ, List.set_append_right _ _ (by rw [evN_len]; exact Nat.le_refl _), evN_len, Nat.sub_self, List.set_cons_zero, ← evN_succ]
  simp
theorem ev_bd {t n : Int} (ht : 0 ≤ t) (hn : 1 ≤ n) : 0 ≤ t / n ∧ t / n ≤ t ∧ 0 ≤ t % n ∧ t % n < n := ⟨Int.ediv_nonneg ht (by omega), Int.ediv_le_self n ht, Int.emod_nonneg t (by omega), Int.emod_lt_of_pos t (by omega)⟩

theorem refEven_vr (t n : Int) : VR P false n_ref11_Even [.v (.int .i64 t), .v (.int .i64 n)] [] (isR (listT (evV t n))) := by
  refine vr_ref11_Even (by simp) (.inr rfl) fun _ _ => ?_
  simp (disch := ((try simp only [List.length_set, List.length_replicate, List.length_append, List.length_cons, List.length_nil]); omega)) only [aW, aX, aV, aB, aN, aL, aP, aH, s_ref11_Even, v_ref11_Even]
  refine ib_intro (fun h1 => ?_) (fun h1 => ?_)
  · have he : evV t n = ([], 1) := by
      have : evE t n = 1 := by unfold evE; rw [if_pos (by omega)]
      unfold evV; rw [this, if_pos (by omega)]
    simp (disch := ((try simp only [List.length_set, List.length_replicate, List.length_append, List.length_cons, List.length_nil]); omega)) only [aW, aX, aV, aB, aN, aL, aP, aH, r_ref11_Even]
    exact post0 (r := listT (evV t n)) (by rw [he]; exact Fz.tup ⟨fz_nil _ _, Fz.refl rfl, trivial⟩) ⟨rfl, rfl⟩
  have he : evV t n = (evN t n n.toNat, 0) := by
    have : evE t n = 0 := by unfold evE; rw [if_neg (by omega)]
    unfold evV; rw [this, if_neg (by omega)]
  obtain ⟨b1, b2, b3, b4⟩ := ev_bd (t := t) (n := n) (by omega) (by omega)
  have t1 : t.tdiv n = t / n := Int.tdiv_eq_ediv_of_nonneg (by omega)
  have t2 : t.tmod n = t % n := Int.tmod_eq_emod_of_nonneg (by omega)
  obtain ⟨N, hN⟩ : ∃ N : Nat, n = N := ⟨n.toNat, by omega⟩
  have hNn : n.toNat = N := by omega
  simp (disch := ((try simp only [List.length_set, List.length_replicate, List.length_append, List.length_cons, List.length_nil]); omega)) only [aW, aX, aV, aB, aN, aL, aP, aH]
  refine AWP.loopP (α := Nat) g_ref11_Even_0 (fun k => k ≤ N) (fun k => [(4, .sl 0 k 1 0 k), (5, .v (.int .i64 k))]) (fun k => [(0, ⟨k, ints (evN t n k)⟩)]) (fun k => N - k) 0 (by omega) ?_ ?_
  · have e0 : evN t n 0 = [] := rfl
    try simp (disch := ((try simp only [List.length_set, List.length_replicate, List.length_append, List.length_cons, List.length_nil]); omega)) only [aW, aX, aV, aB, aN, aL, aP, aH]
    exact Cut.of' 1 rfl (by omega) (by simp (disch := first | omega | simp (disch := omega) only [aF, aL, aN]) only [aW, aX, aV, aB, aN, aL, aP, aH, aF, Int.natCast_add, Int.natCast_mul, Int.add_sub_cancel, List.length_nil, Int.cast_ofNat_Int, and_true, true_and, e0, ii_nil]) (by simp (disch := first | omega | simp (disch := omega) only [aF, aL, aN]) only [aW, aX, aV, aB, aN, aL, aP, aH, aF, Int.natCast_add, Int.natCast_mul, Int.add_sub_cancel, List.length_nil, Int.cast_ofNat_Int, and_true, true_and])
  rintro k hk
  have hl := evN_len t n k
  by_cases hlt : k < N
  · simp (disch := ((try simp only [List.length_set, List.length_replicate, List.length_append, List.length_cons, List.length_nil]); omega)) only [aW, aX, aV, aB, aN, aL, aP, aH, t1, t2]
    refine ib_intro (fun h2 => ?_) (fun h2 => ?_)
    · have hk2 : evK t n k = t / n + 1 := by unfold evK; rw [if_pos h2]
      simp (disch := ((try simp only [List.length_set, List.length_replicate, List.length_append, List.length_cons, List.length_nil]); omega)) only [aW, aX, aV, aB, aN, aL, aP, aH, t1, t2, ← hk2, evN_succ]
      refine ⟨k + 1, by omega, by omega, ?_⟩
      exact Cut.of' 1 rfl (by omega) (by simp (disch := first | omega | simp (disch := omega) only [aF, aL, aN]) only [aW, aX, aV, aB, aN, aL, aP, aH, aF, Int.natCast_add, Int.natCast_mul, Int.add_sub_cancel, List.length_nil, Int.cast_ofNat_Int, and_true, true_and]) (by simp (disch := first | omega | simp (disch := omega) only [aF, aL, aN]) only [aW, aX, aV, aB, aN, aL, aP, aH, aF, Int.natCast_add, Int.natCast_mul, Int.add_sub_cancel, List.length_nil, Int.cast_ofNat_Int, and_true, true_and])
    · have hk2 : evK t n k = t / n := by unfold evK; rw [if_neg h2]
      simp (disch := ((try simp only [List.length_set, List.length_replicate, List.length_append, List.length_cons, List.length_nil]); omega)) only [aW, aX, aV, aB, aN, aL, aP, aH, t1, t2, ← hk2, evN_succ]
      refine ⟨k + 1, by omega, by omega, ?_⟩
      exact Cut.of' 1 rfl (by omega) (by simp (disch := first | omega | simp (disch := omega) only [aF, aL, aN]) only [aW, aX, aV, aB, aN, aL, aP, aH, aF, Int.natCast_add, Int.natCast_mul, Int.add_sub_cancel, List.length_nil, Int.cast_ofNat_Int, and_true, true_and]) (by simp (disch := first | omega | simp (disch := omega) only [aF, aL, aN]) only [aW, aX, aV, aB, aN, aL, aP, aH, aF, Int.natCast_add, Int.natCast_mul, Int.add_sub_cancel, List.length_nil, Int.cast_ofNat_Int, and_true, true_and])
  · have hke : k = N := by omega
    subst hke
    simp (disch := ((try simp only [List.length_set, List.length_replicate, List.length_append, List.length_cons, List.length_nil]); omega)) only [aW, aX, aV, aB, aN, aL, aP, aH, r_ref11_Even]
    refine post0 (r := listT (evV t n)) ?_ ⟨rfl, rfl⟩
    rw [he, hNn]
    exact Fz.tup ⟨fz_slI _ _ _ _ _ _ (by omega) hl.symm (by simp (disch := ((try simp only [List.length_set, List.length_replicate, List.length_append, List.length_cons, List.length_nil]); omega)) only [aW, aX, aV, aB, aN, aL, aP, aH]), Fz.refl rfl, trivial⟩
theorem shareEven_vr (t n : Int) : VR P false n_share_Even [.v (.int .i64 t), .v (.int .i64 n)] [] (isR (listT (evV t n))) := by
  refine vr_share_Even (by simp) (.inr rfl) fun _ _ => ?_
  simp (disch := ((try simp only [List.length_set, List.length_replicate, List.length_append, List.length_cons, List.length_nil]); omega)) only [aW, aX, aV, aB, aN, aL, aP, aH, s_share_Even, v_share_Even]
  refine ib_intro (fun h1 => ?_) (fun h1 => ?_)
  · have he : evV t n = ([], 1) := by
      have : evE t n = 1 := by unfold evE; rw [if_pos (by omega)]
      unfold evV; rw [this, if_pos (by omega)]
    simp (disch := ((try simp only [List.length_set, List.length_replicate, List.length_append, List.length_cons, List.length_nil]); omega)) only [aW, aX, aV, aB, aN, aL, aP, aH, r_share_Even]
    exact post0 (r := listT (evV t n)) (by rw [he]; exact Fz.tup ⟨fz_nil _ _, Fz.refl rfl, trivial⟩) ⟨rfl, rfl⟩
  have he : evV t n = (evN t n n.toNat, 0) := by
    have : evE t n = 0 := by unfold evE; rw [if_neg (by omega)]
    unfold evV; rw [this, if_neg (by omega)]
  obtain ⟨b1, b2, b3, b4⟩ := ev_bd (t := t) (n := n) (by omega) (by omega)
  have t1 : t.tdiv n = t / n := Int.tdiv_eq_ediv_of_nonneg (by omega)
  have t2 : t.tmod n = t % n := Int.tmod_eq_emod_of_nonneg (by omega)
  obtain ⟨N, hN⟩ : ∃ N : Nat, n = N := ⟨n.toNat, by omega⟩
  have hNn : n.toNat = N := by omega
  simp (disch := ((try simp only [List.length_set, List.length_replicate, List.length_append, List.length_cons, List.length_nil]); omega)) only [aW, aX, aV, aB, aN, aL, aP, aH, hNn]
  refine AWP.loopP (α := Nat) g_share_Even_0 (fun k => k ≤ N) (fun k => [(5, .v (.int .i64 k))]) (fun k => [(0, ⟨0, ints (evM t n N k)⟩)]) (fun k => N - k) 0 (by omega) ?_ ?_
  · simp (disch := ((try simp only [List.length_set, List.length_replicate, List.length_append, List.length_cons, List.length_nil]); omega)) only [aW, aX, aV, aB, aN, aL, aP, aH, evM_zero t n N]
    exact Cut.of' 1 rfl (by omega) (by simp (disch := first | omega | simp (disch := omega) only [aF, aL, aN]) only [aW, aX, aV, aB, aN, aL, aP, aH, aF, Int.natCast_add, Int.natCast_mul, Int.add_sub_cancel, List.length_nil, Int.cast_ofNat_Int, and_true, true_and]) (by simp (disch := first | omega | simp (disch := omega) only [aF, aL, aN]) only [aW, aX, aV, aB, aN, aL, aP, aH, aF, Int.natCast_add, Int.natCast_mul, Int.add_sub_cancel, List.length_nil, Int.cast_ofNat_Int, and_true, true_and])
  rintro k hk
  have hl := evM_len t n hk
  by_cases hlt : k < N
  · have hs := evM_set t n hlt
    have hg : ((evM t n N k).set k (t / n)).getD k 0 = t / n := by rw [getD_seti, if_pos ⟨rfl, by omega⟩]
    simp (disch := ((try simp only [List.length_set, List.length_replicate, List.length_append, List.length_cons, List.length_nil]); omega)) only [aW, aX, aV, aB, aN, aL, aP, aH, t1, t2]
    refine ib_intro (fun h2 => ?_) (fun h2 => ?_)
    · have hk2 : evK t n k = t / n + 1 := by unfold evK; rw [if_pos h2]
      simp (disch := ((try simp only [List.length_set, List.length_replicate, List.length_append, List.length_cons, List.length_nil]); omega)) only [aW, aX, aV, aB, aN, aL, aP, aH, t1, t2, hg, List.set_set, ← hk2, hs]
      refine ⟨k + 1, by omega, by omega, ?_⟩
      exact Cut.of' 1 rfl (by omega) (by simp (disch := first | omega | simp (disch := omega) only [aF, aL, aN]) only [aW, aX, aV, aB, aN, aL, aP, aH, aF, Int.natCast_add, Int.natCast_mul, Int.add_sub_cancel, List.length_nil, Int.cast_ofNat_Int, and_true, true_and]) (by simp (disch := first | omega | simp (disch := omega) only [aF, aL, aN]) only [aW, aX, aV, aB, aN, aL, aP, aH, aF, Int.natCast_add, Int.natCast_mul, Int.add_sub_cancel, List.length_nil, Int.cast_ofNat_Int, and_true, true_and])
    · have hk2 : evK t n k = t / n := by unfold evK; rw [if_neg h2]
      simp (disch := ((try simp only [List.length_set, List.length_replicate, List.length_append, List.length_cons, List.length_nil]); omega)) only [aW, aX, aV, aB, aN, aL, aP, aH, t1, t2, ← hk2, hs]
      refine ⟨k + 1, by omega, by omega, ?_⟩
      exact Cut.of' 1 rfl (by omega) (by simp (disch := first | omega | simp (disch := omega) only [aF, aL, aN]) only [aW, aX, aV, aB, aN, aL, aP, aH, aF, Int.natCast_add, Int.natCast_mul, Int.add_sub_cancel, List.length_nil, Int.cast_ofNat_Int, and_true, true_and]) (by simp (disch := first | omega | simp (disch := omega) only [aF, aL, aN]) only [aW, aX, aV, aB, aN, aL, aP, aH, aF, Int.natCast_add, Int.natCast_mul, Int.add_sub_cancel, List.length_nil, Int.cast_ofNat_Int, and_true, true_and])
  · have hke : k = N := by omega
    subst hke
    simp (disch := ((try simp only [List.length_set, List.length_replicate, List.length_append, List.length_cons, List.length_nil]); omega)) only [aW, aX, aV, aB, aN, aL, aP, aH, r_share_Even]
    refine post0 (r := listT (evV t n)) ?_ ⟨rfl, rfl⟩
    rw [he, hNn, ← evM_all]
    exact Fz.tup ⟨fz_slI _ _ _ _ _ _ (by omega) hl.symm (by simp (disch := ((try simp only [List.length_set, List.length_replicate, List.length_append, List.length_cons, List.length_nil]); omega)) only [aW, aX, aV, aB, aN, aL, aP, aH]), Fz.refl rfl, trivial⟩
end Go.Proofs.Ytnpbnlafaoldcaa
