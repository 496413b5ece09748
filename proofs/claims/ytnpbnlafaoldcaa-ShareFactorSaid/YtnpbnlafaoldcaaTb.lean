/- The laws' example and bound; the walks of ShareExact, ShareLargest and ShareEven. -/
import Derived.Test.YtnpbnlafaoldcaaTa
import Derived.Test.YtnpbnlafaoldcaaPt
namespace Go.Proofs.Ytnpbnlafaoldcaa
open Go Go.Lft
set_option linter.unusedSimpArgs false
set_option linter.unusedVariables false
attribute [local congr] ob_congr bw_congr ib_congr ck_congr iwA_congr itA_congr aw_congr awp_congr sqA_congr bkA_congr vr_congr gd_congr

theorem splitE_small {t : Int} {ws : List Int} (ht : 0 ≤ t ∧ t ≤ 70368744177664) (hl : 1 ≤ ws.length ∧ ws.length ≤ 512) (hw : ∀ i, i < ws.length → 0 ≤ ws.getD i 0 ∧ ws.getD i 0 ≤ 2147483648) (hs : 0 < ws.sum) : splitE t ws = 0 := by
  have h1 : ws.sum ≤ 2147483648 * ws.length := sum_le_c 2147483648 ws fun x hx => by
    obtain ⟨i, h1, rfl⟩ := getD_mem hx
    exact (hw i h1).2
  have h2 : weighE ws = (ws.sum, 0) := by
    rw [weigh_sum (by omega) (by
      rintro ⟨i, hi, h2⟩
      have := hw i hi
      unfold badW at h2; omega), if_pos (by omega)]
  unfold splitE
  rw [h2, if_neg (by omega), if_neg (by simp), if_neg (by simp; omega)]
theorem split_small_vr {w : Bool} {t : Int} {ws : List Int} (ht : 0 ≤ t ∧ t ≤ 70368744177664) (hl : 1 ≤ ws.length ∧ ws.length ≤ 512) (hw : ∀ i, i < ws.length → 0 ≤ ws.getD i 0 ∧ ws.getD i 0 ≤ 2147483648) (hs : 0 < ws.sum) (hp : ∀ i, i < ws.length → t * ws.getD i 0 ≤ 18446744073709551615) :
    VR P false n_share_Split [.v (.int .i64 t), .fs w (ints ws)] [] (isR (.tup [.fs true (ints (partsR t ws)), .v (.int .i64 0)])) ∧ SplitOk t ws ∧ SpR t ws (partsR t ws) := by
  have h0 := splitE_small ht hl hw hs
  have ok := splitE_ok h0
  have h := shareSplit_vr (w := w) t ws fun _ => divOk_small ok hp
  have e : splitV t ws = (partsR t ws, 0) := by unfold splitV; rw [if_neg (by omega)]
  rw [e] at h
  exact ⟨h, ok, partsR_ok ok.sp⟩

theorem exampleHolds_vr : VR P false n_law11_exampleHolds [] [] (isR (.v (.bool true))) := by
  refine vr_law11_exampleHolds (by simp) (.inr rfl) fun _ _ => ?_
  have a1 : partsR 100 [1, 1, 1] = [34, 33, 33] := by decide +kernel
  have a2 : evV 11 4 = ([3, 3, 3, 2], 0) := by decide +kernel
  have b1 := (split_small_vr (w := false) (t := 100) (ws := [1, 1, 1]) (by omega) (by decide) (by decide) (by decide) (by decide)).1
  rw [a1] at b1
  have b2 := shareEven_vr 11 4
  rw [a2] at b2
  unfold listT at b2
  have b3 := same11_vr (w := true) (v := false) [34, 33, 33] [34, 33, 33] (by decide)
  have b4 := same11_vr (w := true) (v := false) [3, 3, 3, 2] [3, 3, 3, 2] (by decide)
  rw [decide_eq_true rfl] at b3 b4
  simp (disch := ((try simp only [List.length_set, List.length_replicate, List.length_append, List.length_cons, List.length_nil]); omega)) only [aW, aX, aV, aB, aN, aL, aP, aH, s_law11_exampleHolds, v_law11_exampleHolds]
  refine b1.use (ld_all (by simp [frzL_nil, frzL_cons, fzp_any, fzp_nil, fzp_v, fzp_agg, fzp_tup, fzp_fn, fzp_fs, fzp_fp, fzp_sl, fzp_vs, fzp_lp, ldp_any, ldp_nil, ldp_v, ldp_agg, ldp_fn, ldp_fs, ldp_fp, ldp_sl, ldp_vs, ldp_lp, blkAt, flatA, A.cells, A.one, Lft.one, retA, A.bdL, A.bd, ints])) rfl (aret_of ?_)
  simp (disch := ((try simp only [List.length_set, List.length_replicate, List.length_append, List.length_cons, List.length_nil]); omega)) only [aW, aX, aV, aB, aN, aL, aP, aH]
  refine b2.same (by simp (disch := first | omega | simp (disch := omega) only [aF, aL, aN]) only [aW, aX, aV, aB, aN, aL, aP, aH, aF, Int.natCast_add, Int.natCast_mul, Int.add_sub_cancel, List.length_nil, Int.cast_ofNat_Int, and_true, true_and]) rfl (aret_of ?_)
  simp (disch := ((try simp only [List.length_set, List.length_replicate, List.length_append, List.length_cons, List.length_nil]); omega)) only [aW, aX, aV, aB, aN, aL, aP, aH]
  refine b3.use (ld_all (by simp [frzL_nil, frzL_cons, fzp_any, fzp_nil, fzp_v, fzp_agg, fzp_tup, fzp_fn, fzp_fs, fzp_fp, fzp_sl, fzp_vs, fzp_lp, ldp_any, ldp_nil, ldp_v, ldp_agg, ldp_fn, ldp_fs, ldp_fp, ldp_sl, ldp_vs, ldp_lp, blkAt, flatA, A.cells, A.one, Lft.one, retA, A.bdL, A.bd, ints])) rfl (aret_of ?_)
  simp (disch := ((try simp only [List.length_set, List.length_replicate, List.length_append, List.length_cons, List.length_nil]); omega)) only [aW, aX, aV, aB, aN, aL, aP, aH]
  refine b4.use (ld_all (by simp [frzL_nil, frzL_cons, fzp_any, fzp_nil, fzp_v, fzp_agg, fzp_tup, fzp_fn, fzp_fs, fzp_fp, fzp_sl, fzp_vs, fzp_lp, ldp_any, ldp_nil, ldp_v, ldp_agg, ldp_fn, ldp_fs, ldp_fp, ldp_sl, ldp_vs, ldp_lp, blkAt, flatA, A.cells, A.one, Lft.one, retA, A.bdL, A.bd, ints])) rfl (aret_of ?_)
  simp (disch := ((try simp only [List.length_set, List.length_replicate, List.length_append, List.length_cons, List.length_nil]); omega)) only [aW, aX, aV, aB, aN, aL, aP, aH, r_law11_exampleHolds]
  exact post_v ⟨rfl, rfl⟩

def Small (ws : List Int) : Prop := (1 ≤ ws.length ∧ ws.length ≤ 40) ∧ (∀ i, i < ws.length → 0 ≤ ws.getD i 0 ∧ ws.getD i 0 ≤ 1048576) ∧ 0 < ws.sum
theorem small_vr {w : Bool} (ws : List Int) : VR P false n_law11_small [.fs w (ints ws)] [] (fun r G => G = [] ∧ ∃ b : Bool, r = .v (.bool b) ∧ (b = true → Small ws)) := by
  refine vr_law11_small (by simp) (.inr rfl) fun _ _ => ?_
  simp (disch := ((try simp only [List.length_set, List.length_replicate, List.length_append, List.length_cons, List.length_nil]); omega)) only [aW, aX, aV, aB, aN, aL, aP, aH, s_law11_small, v_law11_small]
  refine ib_intro (fun h1 => ?_) (fun h1 => ?_)
  · simp (disch := ((try simp only [List.length_set, List.length_replicate, List.length_append, List.length_cons, List.length_nil]); omega)) only [aW, aX, aV, aB, aN, aL, aP, aH, r_law11_small]
    exact post_v ⟨rfl, _, rfl, by simp⟩
  simp (disch := ((try simp only [List.length_set, List.length_replicate, List.length_append, List.length_cons, List.length_nil]); omega)) only [aW, aX, aV, aB, aN, aL, aP, aH]
  refine AWP.loopP g_law11_small_0 (fun k : Nat => k ≤ ws.length ∧ ∀ i, i < k → 0 ≤ ws.getD i 0 ∧ ws.getD i 0 ≤ 1048576) (fun k => [(1, .v (.bool false)), (2, .v (.int .i64 (sumT ws k))), (3, .v (.int .i64 k))]) (fun _ => []) (fun k => ws.length - k) 0 ⟨by omega, by omega⟩ ?_ ?_
  · rw [sumT_zero]
    exact Cut.of' 0 rfl (by omega) (by simp (disch := first | omega | simp (disch := omega) only [aF, aL, aN]) only [aW, aX, aV, aB, aN, aL, aP, aH, aF, Int.natCast_add, Int.natCast_mul, Int.add_sub_cancel, List.length_nil, Int.cast_ofNat_Int, and_true, true_and]) (by simp (disch := first | omega | simp (disch := omega) only [aF, aL, aN]) only [aW, aX, aV, aB, aN, aL, aP, aH, aF, Int.natCast_add, Int.natCast_mul, Int.add_sub_cancel, List.length_nil, Int.cast_ofNat_Int, and_true, true_and])
  rintro k ⟨hk, hk2⟩
  by_cases hlt : k < ws.length
  · have h2 := sumT_bd ws 0 1048576 k hk hk2
    simp (disch := ((try simp only [List.length_set, List.length_replicate, List.length_append, List.length_cons, List.length_nil]); omega)) only [aW, aX, aV, aB, aN, aL, aP, aH]
    refine ib_intro (fun h3 => ?_) (fun h3 => ?_)
    · simp (disch := ((try simp only [List.length_set, List.length_replicate, List.length_append, List.length_cons, List.length_nil]); omega)) only [aW, aX, aV, aB, aN, aL, aP, aH, r_law11_small]
      exact post_v ⟨rfl, _, rfl, by simp⟩
    · simp (disch := ((try simp only [List.length_set, List.length_replicate, List.length_append, List.length_cons, List.length_nil]); omega)) only [aW, aX, aV, aB, aN, aL, aP, aH]
      refine ⟨k + 1, ⟨by omega, fun i hi => ?_⟩, by omega, ?_⟩
      · by_cases hik : i = k
        · subst hik; omega
        · exact hk2 i (by omega)
      rw [sumT_succ ws k hlt]
      exact Cut.of' 0 rfl (by omega) (by simp (disch := first | omega | simp (disch := omega) only [aF, aL, aN]) only [aW, aX, aV, aB, aN, aL, aP, aH, aF, Int.natCast_add, Int.natCast_mul, Int.add_sub_cancel, List.length_nil, Int.cast_ofNat_Int, and_true, true_and]) (by simp (disch := first | omega | simp (disch := omega) only [aF, aL, aN]) only [aW, aX, aV, aB, aN, aL, aP, aH, aF, Int.natCast_add, Int.natCast_mul, Int.add_sub_cancel, List.length_nil, Int.cast_ofNat_Int, and_true, true_and])
  · have hke : k = ws.length := by omega
    subst hke
    simp (disch := ((try simp only [List.length_set, List.length_replicate, List.length_append, List.length_cons, List.length_nil]); omega)) only [aW, aX, aV, aB, aN, aL, aP, aH, r_law11_small, sumT_all]
    exact post_v ⟨rfl, _, rfl, fun h => ⟨by omega, hk2, by simpa using h⟩⟩
theorem small_c {ws : List Int} (r : A) (G : List Blk) (h : G = [] ∧ ∃ b : Bool, r = .v (.bool b) ∧ (b = true → Small ws)) : G = [] ∧ (r.cl && r.bd 0) = true := by
  obtain ⟨h1, b, rfl, _⟩ := h; exact ⟨h1, rfl⟩

theorem parts_bd2 {t : Int} {ws l : List Int} (h : SpR t ws l) (ok : SplitOk t ws) : ∀ i, i < l.length → 0 ≤ l.getD i 0 ∧ l.getD i 0 ≤ t + 1 := fun i hi => by
  have := q_le ok (i := i) (by rw [← h.len]; exact hi)
  rcases h.two i (by rw [← h.len]; exact hi) with h1 | ⟨h1, _⟩ <;> omega
theorem mul_bd {a b A B : Int} (ha : 0 ≤ a ∧ a ≤ A) (hb : 0 ≤ b ∧ b ≤ B) : 0 ≤ a * b ∧ a * b ≤ A * B := ⟨Int.mul_nonneg ha.1 hb.1, Int.mul_le_mul ha.2 hb.2 hb.1 (by omega)⟩

theorem shareExact_vr (t : Int) (ws : List Int) : VR P false n_law11_ShareExact [.v (.int .i64 t), .fs true (ints ws)] [] (isR (.v (.bool true))) := by
  refine vr_law11_ShareExact (by simp) (.inr rfl) fun _ _ => ?_
  by_cases ht : t < 0 ∨ 1073741824 < t
  · simp (disch := ((try simp only [List.length_set, List.length_replicate, List.length_append, List.length_cons, List.length_nil]); omega)) only [aW, aX, aV, aB, aN, aL, aP, aH, s_law11_ShareExact, v_law11_ShareExact]
    refine exampleHolds_vr.same (by simp (disch := first | omega | simp (disch := omega) only [aF, aL, aN]) only [aW, aX, aV, aB, aN, aL, aP, aH, aF, Int.natCast_add, Int.natCast_mul, Int.add_sub_cancel, List.length_nil, Int.cast_ofNat_Int, and_true, true_and]) rfl (aret_of ?_)
    simp (disch := ((try simp only [List.length_set, List.length_replicate, List.length_append, List.length_cons, List.length_nil]); omega)) only [aW, aX, aV, aB, aN, aL, aP, aH, r_law11_ShareExact]
    exact post_v ⟨rfl, rfl⟩
  simp (disch := ((try simp only [List.length_set, List.length_replicate, List.length_append, List.length_cons, List.length_nil]); omega)) only [aW, aX, aV, aB, aN, aL, aP, aH, s_law11_ShareExact, v_law11_ShareExact]
  refine (small_vr (w := true) ws).useE (LdL.refl (by simp (disch := first | omega | simp (disch := omega) only [aF, aL, aN]) only [aW, aX, aV, aB, aN, aL, aP, aH, aF, Int.natCast_add, Int.natCast_mul, Int.add_sub_cancel, List.length_nil, Int.cast_ofNat_Int, and_true, true_and])) small_c ?_
  rintro r ⟨_, b, rfl, hb⟩
  refine aret_of ?_
  cases b with
  | false =>
    simp (disch := ((try simp only [List.length_set, List.length_replicate, List.length_append, List.length_cons, List.length_nil]); omega)) only [aW, aX, aV, aB, aN, aL, aP, aH]
    refine exampleHolds_vr.same (by simp (disch := first | omega | simp (disch := omega) only [aF, aL, aN]) only [aW, aX, aV, aB, aN, aL, aP, aH, aF, Int.natCast_add, Int.natCast_mul, Int.add_sub_cancel, List.length_nil, Int.cast_ofNat_Int, and_true, true_and]) rfl (aret_of ?_)
    simp (disch := ((try simp only [List.length_set, List.length_replicate, List.length_append, List.length_cons, List.length_nil]); omega)) only [aW, aX, aV, aB, aN, aL, aP, aH, r_law11_ShareExact]
    exact post_v ⟨rfl, rfl⟩
  | true =>
    obtain ⟨h1, h2, h3⟩ := hb rfl
    have hm : ∀ i, i < ws.length → 0 ≤ t * ws.getD i 0 ∧ t * ws.getD i 0 ≤ 1073741824 * 1048576 := fun i hi => mul_bd (by omega) (h2 i hi)
    obtain ⟨hv, ok, hsp⟩ := split_small_vr (w := true) (t := t) (ws := ws) (by omega) (by omega) (fun i hi => by have := h2 i hi; omega) h3 (fun i hi => by have := hm i hi; omega)
    have hs1 := sum_le_c 1048576 ws fun x hx => by
      obtain ⟨i, h4, rfl⟩ := getD_mem hx
      exact (h2 i h4).2
    have hb2 := parts_bd2 hsp ok
    have hpl := hsp.len
    have hps := hsp.sum
    have htw := hsp.two
    generalize hp : partsR t ws = p at *
    simp (disch := ((try simp only [List.length_set, List.length_replicate, List.length_append, List.length_cons, List.length_nil]); omega)) only [aW, aX, aV, aB, aN, aL, aP, aH]
    refine hv.same (by simp (disch := first | omega | simp (disch := omega) only [aF, aL, aN]) only [aW, aX, aV, aB, aN, aL, aP, aH, aF, Int.natCast_add, Int.natCast_mul, Int.add_sub_cancel, List.length_nil, Int.cast_ofNat_Int, and_true, true_and]) (by simp (disch := first | omega | simp (disch := omega) only [aF, aL, aN]) only [aW, aX, aV, aB, aN, aL, aP, aH, aF, Int.natCast_add, Int.natCast_mul, Int.add_sub_cancel, List.length_nil, Int.cast_ofNat_Int, and_true, true_and]) (aret_of ?_)
    simp (disch := ((try simp only [List.length_set, List.length_replicate, List.length_append, List.length_cons, List.length_nil]); omega)) only [aW, aX, aV, aB, aN, aL, aP, aH]
    refine (total11_vr (w := true) ws (by omega) (fun i hi => by have := h2 i hi; omega)).same (by simp (disch := first | omega | simp (disch := omega) only [aF, aL, aN]) only [aW, aX, aV, aB, aN, aL, aP, aH, aF, Int.natCast_add, Int.natCast_mul, Int.add_sub_cancel, List.length_nil, Int.cast_ofNat_Int, and_true, true_and]) rfl (aret_of ?_)
    simp (disch := ((try simp only [List.length_set, List.length_replicate, List.length_append, List.length_cons, List.length_nil]); omega)) only [aW, aX, aV, aB, aN, aL, aP, aH]
    refine AWP.loopP g_law11_ShareExact_0 (fun k : Nat => k ≤ ws.length) (fun k => [(2, .v (.bool false)), (6, .v (.int .i64 k))]) (fun _ => []) (fun k => ws.length - k) 0 (by omega) ?_ ?_
    · exact Cut.of' 0 rfl (by omega) (by simp (disch := first | omega | simp (disch := omega) only [aF, aL, aN]) only [aW, aX, aV, aB, aN, aL, aP, aH, aF, Int.natCast_add, Int.natCast_mul, Int.add_sub_cancel, List.length_nil, Int.cast_ofNat_Int, and_true, true_and]) (by simp (disch := first | omega | simp (disch := omega) only [aF, aL, aN]) only [aW, aX, aV, aB, aN, aL, aP, aH, aF, Int.natCast_add, Int.natCast_mul, Int.add_sub_cancel, List.length_nil, Int.cast_ofNat_Int, and_true, true_and])
    rintro k hk
    by_cases hlt : k < ws.length
    · have c1 := hm k hlt
      have c2 := q_le ok hlt
      have c3 := r_le ok hlt
      have t1 : (t * ws.getD k 0).tdiv ws.sum = t * ws.getD k 0 / ws.sum := Int.tdiv_eq_ediv_of_nonneg c1.1
      have t2 : (t * ws.getD k 0).tmod ws.sum = t * ws.getD k 0 % ws.sum := Int.tmod_eq_emod_of_nonneg c1.1
      rcases htw k hlt with h5 | ⟨h5, h6⟩
      all_goals
        simp (disch := ((try simp only [List.length_set, List.length_replicate, List.length_append, List.length_cons, List.length_nil]); omega)) only [aW, aX, aV, aB, aN, aL, aP, aH, t1, t2]
        refine ⟨k + 1, by omega, by omega, ?_⟩
        exact Cut.of' 0 rfl (by omega) (by simp (disch := first | omega | simp (disch := omega) only [aF, aL, aN]) only [aW, aX, aV, aB, aN, aL, aP, aH, aF, Int.natCast_add, Int.natCast_mul, Int.add_sub_cancel, List.length_nil, Int.cast_ofNat_Int, and_true, true_and]) (by simp (disch := first | omega | simp (disch := omega) only [aF, aL, aN]) only [aW, aX, aV, aB, aN, aL, aP, aH, aF, Int.natCast_add, Int.natCast_mul, Int.add_sub_cancel, List.length_nil, Int.cast_ofNat_Int, and_true, true_and])
    · have hke : k = ws.length := by omega
      subst hke
      simp (disch := ((try simp only [List.length_set, List.length_replicate, List.length_append, List.length_cons, List.length_nil]); omega)) only [aW, aX, aV, aB, aN, aL, aP, aH]
      refine (total11_vr (w := true) p (by omega) (fun i hi => by have := hb2 i hi; omega)).same (by simp (disch := first | omega | simp (disch := omega) only [aF, aL, aN]) only [aW, aX, aV, aB, aN, aL, aP, aH, aF, Int.natCast_add, Int.natCast_mul, Int.add_sub_cancel, List.length_nil, Int.cast_ofNat_Int, and_true, true_and]) rfl (aret_of ?_)
      rw [hps]
      simp (disch := ((try simp only [List.length_set, List.length_replicate, List.length_append, List.length_cons, List.length_nil]); omega)) only [aW, aX, aV, aB, aN, aL, aP, aH]
      refine exampleHolds_vr.same (by simp (disch := first | omega | simp (disch := omega) only [aF, aL, aN]) only [aW, aX, aV, aB, aN, aL, aP, aH, aF, Int.natCast_add, Int.natCast_mul, Int.add_sub_cancel, List.length_nil, Int.cast_ofNat_Int, and_true, true_and]) rfl (aret_of ?_)
      simp (disch := ((try simp only [List.length_set, List.length_replicate, List.length_append, List.length_cons, List.length_nil]); omega)) only [aW, aX, aV, aB, aN, aL, aP, aH, r_law11_ShareExact]
      exact post_v ⟨rfl, rfl⟩

theorem shareLargest_vr (t : Int) (ws : List Int) (i k : Int) : VR P false n_law11_ShareLargest [.v (.int .i64 t), .fs true (ints ws), .v (.int .i64 i), .v (.int .i64 k)] [] (isR (.v (.bool true))) := by
  refine vr_law11_ShareLargest (by simp) (.inr rfl) fun _ _ => ?_
  by_cases ht : t < 0 ∨ 1073741824 < t
  · simp (disch := ((try simp only [List.length_set, List.length_replicate, List.length_append, List.length_cons, List.length_nil]); omega)) only [aW, aX, aV, aB, aN, aL, aP, aH, s_law11_ShareLargest, v_law11_ShareLargest]
    refine exampleHolds_vr.same (by simp (disch := first | omega | simp (disch := omega) only [aF, aL, aN]) only [aW, aX, aV, aB, aN, aL, aP, aH, aF, Int.natCast_add, Int.natCast_mul, Int.add_sub_cancel, List.length_nil, Int.cast_ofNat_Int, and_true, true_and]) rfl (aret_of ?_)
    simp (disch := ((try simp only [List.length_set, List.length_replicate, List.length_append, List.length_cons, List.length_nil]); omega)) only [aW, aX, aV, aB, aN, aL, aP, aH, r_law11_ShareLargest]
    exact post_v ⟨rfl, rfl⟩
  simp (disch := ((try simp only [List.length_set, List.length_replicate, List.length_append, List.length_cons, List.length_nil]); omega)) only [aW, aX, aV, aB, aN, aL, aP, aH, s_law11_ShareLargest, v_law11_ShareLargest]
  refine (small_vr (w := true) ws).useE (LdL.refl (by simp (disch := first | omega | simp (disch := omega) only [aF, aL, aN]) only [aW, aX, aV, aB, aN, aL, aP, aH, aF, Int.natCast_add, Int.natCast_mul, Int.add_sub_cancel, List.length_nil, Int.cast_ofNat_Int, and_true, true_and])) small_c ?_
  rintro r ⟨_, b, rfl, hb⟩
  refine aret_of ?_
  by_cases hg : b = true ∧ 0 ≤ i ∧ i < ws.length ∧ 0 ≤ k ∧ k < ws.length
  case neg =>
    cases b with
    | false =>
      simp (disch := ((try simp only [List.length_set, List.length_replicate, List.length_append, List.length_cons, List.length_nil]); omega)) only [aW, aX, aV, aB, aN, aL, aP, aH]
      refine exampleHolds_vr.same (by simp (disch := first | omega | simp (disch := omega) only [aF, aL, aN]) only [aW, aX, aV, aB, aN, aL, aP, aH, aF, Int.natCast_add, Int.natCast_mul, Int.add_sub_cancel, List.length_nil, Int.cast_ofNat_Int, and_true, true_and]) rfl (aret_of ?_)
      simp (disch := ((try simp only [List.length_set, List.length_replicate, List.length_append, List.length_cons, List.length_nil]); omega)) only [aW, aX, aV, aB, aN, aL, aP, aH, r_law11_ShareLargest]
      exact post_v ⟨rfl, rfl⟩
    | true =>
      have hg' : i < 0 ∨ (ws.length : Int) ≤ i ∨ k < 0 ∨ (ws.length : Int) ≤ k := by
        apply Classical.byContradiction; intro hc; exact hg ⟨rfl, by omega, by omega, by omega, by omega⟩
      simp (disch := ((try simp only [List.length_set, List.length_replicate, List.length_append, List.length_cons, List.length_nil]); omega)) only [aW, aX, aV, aB, aN, aL, aP, aH]
      refine exampleHolds_vr.same (by simp (disch := first | omega | simp (disch := omega) only [aF, aL, aN]) only [aW, aX, aV, aB, aN, aL, aP, aH, aF, Int.natCast_add, Int.natCast_mul, Int.add_sub_cancel, List.length_nil, Int.cast_ofNat_Int, and_true, true_and]) rfl (aret_of ?_)
      simp (disch := ((try simp only [List.length_set, List.length_replicate, List.length_append, List.length_cons, List.length_nil]); omega)) only [aW, aX, aV, aB, aN, aL, aP, aH, r_law11_ShareLargest]
      exact post_v ⟨rfl, rfl⟩
  obtain ⟨rfl, i1, i2, k1, k2⟩ := hg
  obtain ⟨h1, h2, h3⟩ := hb rfl
  have hm : ∀ i, i < ws.length → 0 ≤ t * ws.getD i 0 ∧ t * ws.getD i 0 ≤ 1073741824 * 1048576 := fun i hi => mul_bd (by omega) (h2 i hi)
  obtain ⟨hv, ok, hsp⟩ := split_small_vr (w := true) (t := t) (ws := ws) (by omega) (by omega) (fun i hi => by have := h2 i hi; omega) h3 (fun i hi => by have := hm i hi; omega)
  have hs1 := sum_le_c 1048576 ws fun x hx => by
    obtain ⟨i, h4, rfl⟩ := getD_mem hx
    exact (h2 i h4).2
  have hpl := hsp.len
  obtain ⟨I, rfl⟩ : ∃ I : Nat, i = I := ⟨i.toNat, by omega⟩
  obtain ⟨K, rfl⟩ : ∃ K : Nat, k = K := ⟨k.toNat, by omega⟩
  have hlI : I < ws.length := by omega
  have hlK : K < ws.length := by omega
  have hlow := hsp.low K I hlK hlI
  have htI := hsp.two I hlI
  have htK := hsp.two K hlK
  generalize hp : partsR t ws = p at *
  have c1 := hm I hlI
  have c2 := q_le ok hlI
  have c3 := r_le ok hlI
  have d1 := hm K hlK
  have d2 := q_le ok hlK
  have d3 := r_le ok hlK
  have t1 : (t * ws.getD I 0).tdiv ws.sum = t * ws.getD I 0 / ws.sum := Int.tdiv_eq_ediv_of_nonneg c1.1
  have t2 : (t * ws.getD I 0).tmod ws.sum = t * ws.getD I 0 % ws.sum := Int.tmod_eq_emod_of_nonneg c1.1
  have t3 : (t * ws.getD K 0).tdiv ws.sum = t * ws.getD K 0 / ws.sum := Int.tdiv_eq_ediv_of_nonneg d1.1
  have t4 : (t * ws.getD K 0).tmod ws.sum = t * ws.getD K 0 % ws.sum := Int.tmod_eq_emod_of_nonneg d1.1
  simp (disch := ((try simp only [List.length_set, List.length_replicate, List.length_append, List.length_cons, List.length_nil]); omega)) only [aW, aX, aV, aB, aN, aL, aP, aH]
  refine hv.same (by simp (disch := first | omega | simp (disch := omega) only [aF, aL, aN]) only [aW, aX, aV, aB, aN, aL, aP, aH, aF, Int.natCast_add, Int.natCast_mul, Int.add_sub_cancel, List.length_nil, Int.cast_ofNat_Int, and_true, true_and]) (by simp (disch := first | omega | simp (disch := omega) only [aF, aL, aN]) only [aW, aX, aV, aB, aN, aL, aP, aH, aF, Int.natCast_add, Int.natCast_mul, Int.add_sub_cancel, List.length_nil, Int.cast_ofNat_Int, and_true, true_and]) (aret_of ?_)
  simp (disch := ((try simp only [List.length_set, List.length_replicate, List.length_append, List.length_cons, List.length_nil]); omega)) only [aW, aX, aV, aB, aN, aL, aP, aH]
  refine (total11_vr (w := true) ws (by omega) (fun i hi => by have := h2 i hi; omega)).same (by simp (disch := first | omega | simp (disch := omega) only [aF, aL, aN]) only [aW, aX, aV, aB, aN, aL, aP, aH, aF, Int.natCast_add, Int.natCast_mul, Int.add_sub_cancel, List.length_nil, Int.cast_ofNat_Int, and_true, true_and]) rfl (aret_of ?_)
  simp (disch := ((try simp only [List.length_set, List.length_replicate, List.length_append, List.length_cons, List.length_nil]); omega)) only [aW, aX, aV, aB, aN, aL, aP, aH, t1, t2, t3, t4]
  refine exampleHolds_vr.same (by simp (disch := first | omega | simp (disch := omega) only [aF, aL, aN]) only [aW, aX, aV, aB, aN, aL, aP, aH, aF, Int.natCast_add, Int.natCast_mul, Int.add_sub_cancel, List.length_nil, Int.cast_ofNat_Int, and_true, true_and]) rfl (aret_of ?_)
  simp (disch := ((try simp only [List.length_set, List.length_replicate, List.length_append, List.length_cons, List.length_nil]); omega)) only [aW, aX, aV, aB, aN, aL, aP, aH, r_law11_ShareLargest]
  exact post_v ⟨rfl, rfl⟩

/-- Parts of two sizes, the larger ones first, are told by their sum. -/
theorem two_sizes (q : Int) : ∀ (p : List Int), (∀ x ∈ p, x = q ∨ x = q + 1) → p.Pairwise (fun a b => b = q + 1 → a = q + 1) → 0 ≤ p.sum - q * p.length ∧ ∀ i, i < p.length → p.getD i 0 = if (i : Int) < p.sum - q * p.length then q + 1 else q
  | [], _, _ => by simp
  | a :: p, h, hp => by
    obtain ⟨h1, h2⟩ := List.pairwise_cons.1 hp
    obtain ⟨i1, i2⟩ := two_sizes q p (fun x hx => h x (by simp [hx])) h2
    have e1 : (a :: p).sum = a + p.sum := by simp
    have e2 : q * ((a :: p).length : Int) = q * p.length + q := by
      rw [List.length_cons, Int.natCast_add, Int.mul_add]; simp
    rw [e1, e2]
    rcases h a (by simp) with rfl | rfl
    · have h3 : p.sum - a * p.length = 0 := by
        apply Classical.byContradiction; intro hc
        have hl : 0 < p.length := by
          cases p with
          | nil => simp at hc
          | cons b p => simp
        have h4 := i2 0 hl
        rw [if_pos (by omega)] at h4
        have := h1 _ (mem_getD hl) h4
        omega
      refine ⟨by omega, fun i hi => ?_⟩
      rw [if_neg (by omega)]
      cases i with
      | zero => rfl
      | succ i =>
        have := i2 i (by simpa using hi)
        rw [if_neg (by omega)] at this
        exact this
    · refine ⟨by omega, fun i hi => ?_⟩
      cases i with
      | zero => rw [if_pos (by omega)]; rfl
      | succ i =>
        have := i2 i (by simpa using hi)
        rw [List.getD_cons_succ, this]
        by_cases hc : (i : Int) < p.sum - q * p.length
        · rw [if_pos hc, if_pos (by omega)]
        · rw [if_neg hc, if_neg (by omega)]
theorem ones_get (n i : Nat) (h : i < n) : (List.replicate n (1 : Int)).getD i 0 = 1 := by simp [List.getD_eq_getElem?_getD, h]
theorem ones_sum (n : Nat) : (List.replicate n (1 : Int)).sum = n := by
  induction n with
  | zero => rfl
  | succ n ih => rw [List.replicate_succ, List.sum_cons, ih]; omega
theorem parts_ones {t : Int} {N : Nat} (ht : 0 ≤ t) (hN : 1 ≤ N) (h : SpR t (List.replicate N 1) (partsR t (List.replicate N 1))) : partsR t (List.replicate N 1) = evN t N N := by
  have hl := h.len
  have htw := h.two
  have hlow := h.low
  have hsum := h.sum
  rw [ones_sum] at htw hlow
  simp only [List.length_replicate] at hl htw hlow
  generalize partsR t (List.replicate N 1) = p at *
  have hd := Int.mul_ediv_add_emod t N
  obtain ⟨h1, h2⟩ := two_sizes (t / N) p (fun x hx => by
    obtain ⟨i, hi, rfl⟩ := getD_mem hx
    have := htw i (by omega)
    rw [ones_get N i (by omega), Int.mul_one] at this
    rcases this with h | ⟨h, _⟩
    · exact .inl h
    · exact .inr h) (by
    rw [List.pairwise_iff_getElem]
    intro i j hi hj hij hb
    have e1 : p.getD i 0 = p[i] := by simp [List.getD_eq_getElem?_getD, hi]
    have e2 : p.getD j 0 = p[j] := by simp [List.getD_eq_getElem?_getD, hj]
    rw [← e1]; rw [← e2] at hb
    apply Classical.byContradiction; intro hc
    have g1 := htw i (by omega)
    rw [ones_get N i (by omega), Int.mul_one] at g1
    have g2 := hlow j i (by omega) (by omega)
    rw [ones_get N i (by omega), ones_get N j (by omega), Int.mul_one] at g2
    have := g2 hb (by omega)
    omega)
  refine eq_of_getS 0 (by rw [hl, evN_len]) fun i hi => ?_
  rw [h2 i hi, evN_get _ _ (by omega), hsum, hl]
  unfold evK
  have e : t - t / N * N = t % N := by rw [Int.mul_comm (t / N)]; omega
  rw [e]

theorem lawEven_vr (t n : Int) : VR P false n_law11_ShareEven [.v (.int .i64 t), .v (.int .i64 n)] [] (isR (.v (.bool true))) := by
  refine vr_law11_ShareEven (by simp) (.inr rfl) fun _ _ => ?_
  have hv1 := refEven_vr t n
  have hv2 := shareEven_vr t n
  unfold listT at hv1 hv2
  by_cases he : evE t n = 0
  case neg =>
    have e : evV t n = ([], evE t n) := by unfold evV; rw [if_pos he]
    rw [e] at hv1 hv2
    have hs := same11_vr (w := true) (v := true) [] [] (by decide)
    rw [decide_eq_true rfl] at hs
    simp (disch := ((try simp only [List.length_set, List.length_replicate, List.length_append, List.length_cons, List.length_nil]); omega)) only [aW, aX, aV, aB, aN, aL, aP, aH, s_law11_ShareEven, v_law11_ShareEven]
    refine hv1.same (by simp (disch := first | omega | simp (disch := omega) only [aF, aL, aN]) only [aW, aX, aV, aB, aN, aL, aP, aH, aF, Int.natCast_add, Int.natCast_mul, Int.add_sub_cancel, List.length_nil, Int.cast_ofNat_Int, and_true, true_and]) (by simp (disch := first | omega | simp (disch := omega) only [aF, aL, aN]) only [aW, aX, aV, aB, aN, aL, aP, aH, aF, Int.natCast_add, Int.natCast_mul, Int.add_sub_cancel, List.length_nil, Int.cast_ofNat_Int, and_true, true_and]) (aret_of ?_)
    simp (disch := ((try simp only [List.length_set, List.length_replicate, List.length_append, List.length_cons, List.length_nil]); omega)) only [aW, aX, aV, aB, aN, aL, aP, aH]
    refine hv2.same (by simp (disch := first | omega | simp (disch := omega) only [aF, aL, aN]) only [aW, aX, aV, aB, aN, aL, aP, aH, aF, Int.natCast_add, Int.natCast_mul, Int.add_sub_cancel, List.length_nil, Int.cast_ofNat_Int, and_true, true_and]) (by simp (disch := first | omega | simp (disch := omega) only [aF, aL, aN]) only [aW, aX, aV, aB, aN, aL, aP, aH, aF, Int.natCast_add, Int.natCast_mul, Int.add_sub_cancel, List.length_nil, Int.cast_ofNat_Int, and_true, true_and]) (aret_of ?_)
    simp (disch := ((try simp only [List.length_set, List.length_replicate, List.length_append, List.length_cons, List.length_nil]); omega)) only [aW, aX, aV, aB, aN, aL, aP, aH]
    refine hs.same (by simp (disch := first | omega | simp (disch := omega) only [aF, aL, aN]) only [aW, aX, aV, aB, aN, aL, aP, aH, aF, Int.natCast_add, Int.natCast_mul, Int.add_sub_cancel, List.length_nil, Int.cast_ofNat_Int, and_true, true_and]) rfl (aret_of ?_)
    simp (disch := ((try simp only [List.length_set, List.length_replicate, List.length_append, List.length_cons, List.length_nil]); omega)) only [aW, aX, aV, aB, aN, aL, aP, aH]
    refine exampleHolds_vr.same (by simp (disch := first | omega | simp (disch := omega) only [aF, aL, aN]) only [aW, aX, aV, aB, aN, aL, aP, aH, aF, Int.natCast_add, Int.natCast_mul, Int.add_sub_cancel, List.length_nil, Int.cast_ofNat_Int, and_true, true_and]) rfl (aret_of ?_)
    simp (disch := ((try simp only [List.length_set, List.length_replicate, List.length_append, List.length_cons, List.length_nil]); omega)) only [aW, aX, aV, aB, aN, aL, aP, aH, r_law11_ShareEven]
    exact post_v ⟨rfl, rfl⟩
  have e : evV t n = (evN t n n.toNat, 0) := by unfold evV; rw [if_neg (by omega)]
  have hr : 0 ≤ t ∧ t ≤ 70368744177664 ∧ 1 ≤ n ∧ n ≤ 512 := by
    unfold evE at he
    split at he
    · cases he
    · omega
  obtain ⟨N, rfl⟩ : ∃ N : Nat, n = N := ⟨n.toNat, by omega⟩
  have hnl := evN_len t N N
  have hol : (List.replicate N (1 : Int)).length = N := by simp
  obtain ⟨hv, ok, hsp⟩ := split_small_vr (w := false) (t := t) (ws := List.replicate N 1) (by omega) (by omega) (fun i hi => by rw [ones_get N i (by omega)]; omega) (by rw [ones_sum]; omega) (fun i hi => by rw [ones_get N i (by omega)]; omega)
  rw [parts_ones hr.1 (by omega) hsp] at hv
  have hs := same11_vr (w := true) (v := true) (evN t N N) (evN t N N) (by omega)
  rw [decide_eq_true rfl] at hs
  rw [e] at hv1 hv2
  simp only [Int.toNat_natCast] at hv1 hv2
  generalize hE : evN t N N = E at *
  simp (disch := ((try simp only [List.length_set, List.length_replicate, List.length_append, List.length_cons, List.length_nil]); omega)) only [aW, aX, aV, aB, aN, aL, aP, aH, s_law11_ShareEven, v_law11_ShareEven]
  refine hv1.same (by simp (disch := first | omega | simp (disch := omega) only [aF, aL, aN]) only [aW, aX, aV, aB, aN, aL, aP, aH, aF, Int.natCast_add, Int.natCast_mul, Int.add_sub_cancel, List.length_nil, Int.cast_ofNat_Int, and_true, true_and]) (by simp (disch := first | omega | simp (disch := omega) only [aF, aL, aN]) only [aW, aX, aV, aB, aN, aL, aP, aH, aF, Int.natCast_add, Int.natCast_mul, Int.add_sub_cancel, List.length_nil, Int.cast_ofNat_Int, and_true, true_and]) (aret_of ?_)
  simp (disch := ((try simp only [List.length_set, List.length_replicate, List.length_append, List.length_cons, List.length_nil]); omega)) only [aW, aX, aV, aB, aN, aL, aP, aH]
  refine hv2.same (by simp (disch := first | omega | simp (disch := omega) only [aF, aL, aN]) only [aW, aX, aV, aB, aN, aL, aP, aH, aF, Int.natCast_add, Int.natCast_mul, Int.add_sub_cancel, List.length_nil, Int.cast_ofNat_Int, and_true, true_and]) (by simp (disch := first | omega | simp (disch := omega) only [aF, aL, aN]) only [aW, aX, aV, aB, aN, aL, aP, aH, aF, Int.natCast_add, Int.natCast_mul, Int.add_sub_cancel, List.length_nil, Int.cast_ofNat_Int, and_true, true_and]) (aret_of ?_)
  simp (disch := ((try simp only [List.length_set, List.length_replicate, List.length_append, List.length_cons, List.length_nil]); omega)) only [aW, aX, aV, aB, aN, aL, aP, aH]
  refine hs.same (by simp (disch := first | omega | simp (disch := omega) only [aF, aL, aN]) only [aW, aX, aV, aB, aN, aL, aP, aH, aF, Int.natCast_add, Int.natCast_mul, Int.add_sub_cancel, List.length_nil, Int.cast_ofNat_Int, and_true, true_and]) rfl (aret_of ?_)
  simp (disch := ((try simp only [List.length_set, List.length_replicate, List.length_append, List.length_cons, List.length_nil]); omega)) only [aW, aX, aV, aB, aN, aL, aP, aH]
  refine AWP.cut (Cut.virt 7 1 rfl) ?_
  refine AWP.loopP g_law11_ShareEven_0 (fun k : Nat => k ≤ N) (fun k => [(7, .vs 0 k 1 k), (8, .v (.int .i64 k))]) (fun k => [(0, ⟨k, ints (List.replicate k 1)⟩)]) (fun k => N - k) 0 (by omega) ?_ ?_
  · have z0 : List.replicate 0 (1 : Int) = [] := rfl
    try simp (disch := ((try simp only [List.length_set, List.length_replicate, List.length_append, List.length_cons, List.length_nil]); omega)) only [aW, aX, aV, aB, aN, aL, aP, aH]
    exact Cut.of' 1 rfl (by omega) (by simp (disch := first | omega | simp (disch := omega) only [aF, aL, aN]) only [aW, aX, aV, aB, aN, aL, aP, aH, aF, Int.natCast_add, Int.natCast_mul, Int.add_sub_cancel, List.length_nil, Int.cast_ofNat_Int, and_true, true_and, z0, ii_nil]) (by simp (disch := first | omega | simp (disch := omega) only [aF, aL, aN]) only [aW, aX, aV, aB, aN, aL, aP, aH, aF, Int.natCast_add, Int.natCast_mul, Int.add_sub_cancel, List.length_nil, Int.cast_ofNat_Int, and_true, true_and])
  rintro k hk
  have hkl : (List.replicate k (1 : Int)).length = k := by simp
  by_cases hlt : k < N
  · have hrs : List.replicate k (1 : Int) ++ [1] = List.replicate (k + 1) 1 := by rw [List.replicate_succ']
    simp (disch := ((try simp only [List.length_set, List.length_replicate, List.length_append, List.length_cons, List.length_nil]); omega)) only [aW, aX, aV, aB, aN, aL, aP, aH, hrs]
    refine ⟨k + 1, by omega, by omega, ?_⟩
    exact Cut.of' 1 rfl (by omega) (by simp (disch := first | omega | simp (disch := omega) only [aF, aL, aN]) only [aW, aX, aV, aB, aN, aL, aP, aH, aF, Int.natCast_add, Int.natCast_mul, Int.add_sub_cancel, List.length_nil, Int.cast_ofNat_Int, and_true, true_and]) (by simp (disch := first | omega | simp (disch := omega) only [aF, aL, aN]) only [aW, aX, aV, aB, aN, aL, aP, aH, aF, Int.natCast_add, Int.natCast_mul, Int.add_sub_cancel, List.length_nil, Int.cast_ofNat_Int, and_true, true_and])
  · have hke : k = N := by omega
    subst hke
    simp (disch := ((try simp only [List.length_set, List.length_replicate, List.length_append, List.length_cons, List.length_nil]); omega)) only [aW, aX, aV, aB, aN, aL, aP, aH]
    refine hv.use ⟨Ld.refl (by simp (disch := first | omega | simp (disch := omega) only [aF, aL, aN]) only [aW, aX, aV, aB, aN, aL, aP, aH, aF, Int.natCast_add, Int.natCast_mul, Int.add_sub_cancel, List.length_nil, Int.cast_ofNat_Int, and_true, true_and]), ld_vsI _ 0 k _ _ hkl.symm (by simp (disch := ((try simp only [List.length_set, List.length_replicate, List.length_append, List.length_cons, List.length_nil]); omega)) only [aW, aX, aV, aB, aN, aL, aP, aH]), trivial⟩ (by simp (disch := first | omega | simp (disch := omega) only [aF, aL, aN]) only [aW, aX, aV, aB, aN, aL, aP, aH, aF, Int.natCast_add, Int.natCast_mul, Int.add_sub_cancel, List.length_nil, Int.cast_ofNat_Int, and_true, true_and]) (aret_of ?_)
    simp (disch := ((try simp only [List.length_set, List.length_replicate, List.length_append, List.length_cons, List.length_nil]); omega)) only [aW, aX, aV, aB, aN, aL, aP, aH]
    refine hs.same (by simp (disch := first | omega | simp (disch := omega) only [aF, aL, aN]) only [aW, aX, aV, aB, aN, aL, aP, aH, aF, Int.natCast_add, Int.natCast_mul, Int.add_sub_cancel, List.length_nil, Int.cast_ofNat_Int, and_true, true_and]) rfl (aret_of ?_)
    simp (disch := ((try simp only [List.length_set, List.length_replicate, List.length_append, List.length_cons, List.length_nil]); omega)) only [aW, aX, aV, aB, aN, aL, aP, aH]
    refine exampleHolds_vr.same (by simp (disch := first | omega | simp (disch := omega) only [aF, aL, aN]) only [aW, aX, aV, aB, aN, aL, aP, aH, aF, Int.natCast_add, Int.natCast_mul, Int.add_sub_cancel, List.length_nil, Int.cast_ofNat_Int, and_true, true_and]) rfl (aret_of ?_)
    simp (disch := ((try simp only [List.length_set, List.length_replicate, List.length_append, List.length_cons, List.length_nil]); omega)) only [aW, aX, aV, aB, aN, aL, aP, aH, r_law11_ShareEven]
    exact post_v ⟨rfl, rfl⟩
end Go.Proofs.Ytnpbnlafaoldcaa
