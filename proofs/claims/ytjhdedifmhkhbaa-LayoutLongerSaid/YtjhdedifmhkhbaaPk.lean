/- Laws of plants. No statement is claimed here. -/
import Derived.Test.YtjhdedifmhkhbaaPj
import Derived.Test.YtjhdedifmhkhbaaPt
namespace Go.Proofs.Ytjhdedifmhkhbaa
open Go Go.Lft
set_option linter.unusedSimpArgs false
set_option linter.unusedVariables false
attribute [local congr] ob_congr bw_congr ib_congr ck_congr iwA_congr itA_congr aw_congr awp_congr sqA_congr bkA_congr vr_congr gd_congr

theorem great_vr {w v : Bool} (p : Pl) : VR P false n_law34_great [plA w v p] [] (fun r G => G = [] ∧ ∃ b : Bool, r = .v (.bool b)) := by
  refine vr_law34_great (by simp) (.inr rfl) fun _ _ => ?_
  unfold plA plC
  simp (disch := ((try simp only [List.length_set, List.length_replicate, List.length_append, List.length_cons, List.length_nil]); omega)) only [aW, aX, aV, aB, aN, aL, aP, aH, aM, s_law34_great, v_law34_great]
  refine ib_intro (fun h1 => ?_) (fun h1 => ?_)
  · simp (disch := ((try simp only [List.length_set, List.length_replicate, List.length_append, List.length_cons, List.length_nil]); omega)) only [aW, aX, aV, aB, aN, aL, aP, aH, aM, r_law34_great]
    exact post_v ⟨rfl, _, rfl⟩
  simp (disch := ((try simp only [List.length_set, List.length_replicate, List.length_append, List.length_cons, List.length_nil]); omega)) only [aW, aX, aV, aB, aN, aL, aP, aH, aM]
  refine AWP.loopP g_law34_great_0 (fun k : Nat => k ≤ p.ms.length) (fun k => [(1, .v (.bool false)), (3, .v (.int .i64 k))]) (fun _ => []) (fun k => p.ms.length - k) 0 (by omega) (by refine Cut.of' (1) ?_ (by omega) ?_ ?_ <;> simp (disch := first | omega | simp (disch := omega) only [aF, aL, aN, aM]) only [aW, aX, aV, aB, aN, aL, aP, aH, aM, aF, Int.natCast_add, Int.natCast_mul, Int.add_sub_cancel, List.length_nil, Int.cast_ofNat_Int, and_true, true_and]) ?_
  rintro k hk
  by_cases hlt : k < p.ms.length
  · simp (disch := ((try simp only [List.length_set, List.length_replicate, List.length_append, List.length_cons, List.length_nil]); omega)) only [aW, aX, aV, aB, aN, aL, aP, aH, aM]
    refine ib_intro (fun h2 => ?_) (fun h2 => ?_)
    · simp (disch := ((try simp only [List.length_set, List.length_replicate, List.length_append, List.length_cons, List.length_nil]); omega)) only [aW, aX, aV, aB, aN, aL, aP, aH, aM, r_law34_great]
      exact post_v ⟨rfl, _, rfl⟩
    simp (disch := ((try simp only [List.length_set, List.length_replicate, List.length_append, List.length_cons, List.length_nil]); omega)) only [aW, aX, aV, aB, aN, aL, aP, aH, aM]
    refine AWP.loopP g_law34_great_1 (fun j : Nat => j ≤ (p.ms.getD k []).length) (fun j => [(1, .v (.bool false)), (4, .v (.int .i64 j))]) (fun _ => []) (fun j => (p.ms.getD k []).length - j) 0 (by omega) (by refine Cut.of' (1) ?_ (by omega) ?_ ?_ <;> simp (disch := first | omega | simp (disch := omega) only [aF, aL, aN, aM]) only [aW, aX, aV, aB, aN, aL, aP, aH, aM, aF, Int.natCast_add, Int.natCast_mul, Int.add_sub_cancel, List.length_nil, Int.cast_ofNat_Int, and_true, true_and]) ?_
    rintro j hj
    by_cases hjl : j < (p.ms.getD k []).length
    · simp (disch := ((try simp only [List.length_set, List.length_replicate, List.length_append, List.length_cons, List.length_nil]); omega)) only [aW, aX, aV, aB, aN, aL, aP, aH, aM]
      refine ib_intro (fun h3 => ?_) (fun h3 => ?_)
      · simp (disch := ((try simp only [List.length_set, List.length_replicate, List.length_append, List.length_cons, List.length_nil]); omega)) only [aW, aX, aV, aB, aN, aL, aP, aH, aM, r_law34_great]
        exact post_v ⟨rfl, _, rfl⟩
      · simp (disch := ((try simp only [List.length_set, List.length_replicate, List.length_append, List.length_cons, List.length_nil]); omega)) only [aW, aX, aV, aB, aN, aL, aP, aH, aM]
        exact ⟨j + 1, by omega, by omega, (by refine Cut.of' (1) ?_ (by omega) ?_ ?_ <;> simp (disch := first | omega | simp (disch := omega) only [aF, aL, aN, aM]) only [aW, aX, aV, aB, aN, aL, aP, aH, aM, aF, Int.natCast_add, Int.natCast_mul, Int.add_sub_cancel, List.length_nil, Int.cast_ofNat_Int, and_true, true_and])⟩
    · simp (disch := ((try simp only [List.length_set, List.length_replicate, List.length_append, List.length_cons, List.length_nil]); omega)) only [aW, aX, aV, aB, aN, aL, aP, aH, aM]
      exact ⟨k + 1, by omega, by omega, (by refine Cut.of' (1) ?_ (by omega) ?_ ?_ <;> simp (disch := first | omega | simp (disch := omega) only [aF, aL, aN, aM]) only [aW, aX, aV, aB, aN, aL, aP, aH, aM, aF, Int.natCast_add, Int.natCast_mul, Int.add_sub_cancel, List.length_nil, Int.cast_ofNat_Int, and_true, true_and])⟩
  · simp (disch := ((try simp only [List.length_set, List.length_replicate, List.length_append, List.length_cons, List.length_nil]); omega)) only [aW, aX, aV, aB, aN, aL, aP, aH, aM, r_law34_great]
    exact post_v ⟨rfl, _, rfl⟩
theorem great_c (r : A) (G : List Blk) (h : G = [] ∧ ∃ b : Bool, r = .v (.bool b)) : G = [] ∧ (r.cl && r.bd 0) = true := by
  obtain ⟨h1, b, rfl⟩ := h; exact ⟨h1, rfl⟩

theorem awake34_vr : VR P false n_law34_awake [] [] (isR (.v (.bool true))) := by
  refine vr_law34_awake (by simp) (.inr rfl) fun _ _ => ?_
  simp (disch := ((try simp only [List.length_set, List.length_replicate, List.length_append, List.length_cons, List.length_nil]); omega)) only [aW, aX, aV, aB, aN, aL, aP, aH, aM, s_law34_awake, v_law34_awake]
  refine (example_vr 900 100).same (by simp (disch := first | omega | simp (disch := omega) only [aF, aL, aN, aM]) only [aW, aX, aV, aB, aN, aL, aP, aH, aM, aF, Int.natCast_add, Int.natCast_mul, Int.add_sub_cancel, List.length_nil, Int.cast_ofNat_Int, and_true, true_and]) (by unfold plA plC; simp (disch := first | omega | simp (disch := omega) only [aF, aL, aN, aM]) only [aW, aX, aV, aB, aN, aL, aP, aH, aM, aF, Int.natCast_add, Int.natCast_mul, Int.add_sub_cancel, List.length_nil, Int.cast_ofNat_Int, and_true, true_and]) (aret_of ?_)
  simp (disch := ((try simp only [List.length_set, List.length_replicate, List.length_append, List.length_cons, List.length_nil]); omega)) only [aW, aX, aV, aB, aN, aL, aP, aH, aM]
  refine (example_vr 0 1000).same (by simp (disch := first | omega | simp (disch := omega) only [aF, aL, aN, aM]) only [aW, aX, aV, aB, aN, aL, aP, aH, aM, aF, Int.natCast_add, Int.natCast_mul, Int.add_sub_cancel, List.length_nil, Int.cast_ofNat_Int, and_true, true_and]) (by unfold plA plC; simp (disch := first | omega | simp (disch := omega) only [aF, aL, aN, aM]) only [aW, aX, aV, aB, aN, aL, aP, aH, aM, aF, Int.natCast_add, Int.natCast_mul, Int.add_sub_cancel, List.length_nil, Int.cast_ofNat_Int, and_true, true_and]) (aret_of ?_)
  have a1 : drainR (exP 900 100) = (true, 0) := by decide +kernel
  have a2 : heightR (exP 900 100) 0 0 = (2, 0) := by decide +kernel
  have a3 : heightR (exP 900 100) 1 0 = (0, 0) := by decide +kernel
  have a4 : loopsR (exP 900 100) = ([[0]], 0) := by decide +kernel
  have a5 : nextR (exP 900 100) 0 1 = (1, 0) := by decide +kernel
  have a6 : pgraph (exP 900 100) = ((2, [(0, 1), (0, 0)]), 0) := by decide +kernel
  have a7 : pcheck (exP 900 100) = 0 := by decide +kernel
  have c1 : drainR (exP 0 1000) = (false, 0) := by decide +kernel
  have c2 : heightR (exP 0 1000) 0 0 = (0, 23) := by decide +kernel
  generalize exP 900 100 = p at *
  generalize exP 0 1000 = q at *
  have b1 := layoutDrains_vr (w := true) (v := true) p
  have b2 := layoutHeight_vr (w := true) (v := true) p 0 0
  have b3 := layoutHeight_vr (w := true) (v := true) p 1 0
  have b4 := layoutLoops_vr (w := true) (v := true) p
  have b5 := layoutNext_vr (w := true) (v := true) p 0 1
  have b6 := layoutGraph_vr (w := true) (v := true) p
  have b7 := layoutCheck_vr (w := true) (v := true) p
  have d1 := layoutDrains_vr (w := true) (v := true) q
  have d2 := layoutHeight_vr (w := true) (v := true) q 0 0
  rw [a1] at b1
  rw [a2] at b2
  rw [a3] at b3
  rw [a4] at b4
  rw [a5] at b5
  rw [a6] at b6
  rw [a7] at b7
  rw [c1] at d1
  rw [c2] at d2
  have b8 := sameGraph_vr (w := true) (v := false) 2 2 [(0, 1), (0, 0)] [(0, 1), (0, 0)] (by simp)
  rw [decide_eq_true ⟨rfl, rfl⟩] at b8
  unfold plA plC at *
  simp (disch := ((try simp only [List.length_set, List.length_replicate, List.length_append, List.length_cons, List.length_nil]); omega)) only [aW, aX, aV, aB, aN, aL, aP, aH, aM]
  refine b1.same (by simp (disch := first | omega | simp (disch := omega) only [aF, aL, aN, aM]) only [aW, aX, aV, aB, aN, aL, aP, aH, aM, aF, Int.natCast_add, Int.natCast_mul, Int.add_sub_cancel, List.length_nil, Int.cast_ofNat_Int, and_true, true_and]) rfl (aret_of ?_)
  simp (disch := ((try simp only [List.length_set, List.length_replicate, List.length_append, List.length_cons, List.length_nil]); omega)) only [aW, aX, aV, aB, aN, aL, aP, aH, aM]
  refine b2.same (by simp (disch := first | omega | simp (disch := omega) only [aF, aL, aN, aM]) only [aW, aX, aV, aB, aN, aL, aP, aH, aM, aF, Int.natCast_add, Int.natCast_mul, Int.add_sub_cancel, List.length_nil, Int.cast_ofNat_Int, and_true, true_and]) rfl (aret_of ?_)
  simp (disch := ((try simp only [List.length_set, List.length_replicate, List.length_append, List.length_cons, List.length_nil]); omega)) only [aW, aX, aV, aB, aN, aL, aP, aH, aM]
  refine b3.same (by simp (disch := first | omega | simp (disch := omega) only [aF, aL, aN, aM]) only [aW, aX, aV, aB, aN, aL, aP, aH, aM, aF, Int.natCast_add, Int.natCast_mul, Int.add_sub_cancel, List.length_nil, Int.cast_ofNat_Int, and_true, true_and]) rfl (aret_of ?_)
  simp (disch := ((try simp only [List.length_set, List.length_replicate, List.length_append, List.length_cons, List.length_nil]); omega)) only [aW, aX, aV, aB, aN, aL, aP, aH, aM]
  refine b4.same (by simp (disch := first | omega | simp (disch := omega) only [aF, aL, aN, aM]) only [aW, aX, aV, aB, aN, aL, aP, aH, aM, aF, Int.natCast_add, Int.natCast_mul, Int.add_sub_cancel, List.length_nil, Int.cast_ofNat_Int, and_true, true_and]) rfl (aret_of ?_)
  simp (disch := ((try simp only [List.length_set, List.length_replicate, List.length_append, List.length_cons, List.length_nil]); omega)) only [aW, aX, aV, aB, aN, aL, aP, aH, aM]
  refine d1.same (by simp (disch := first | omega | simp (disch := omega) only [aF, aL, aN, aM]) only [aW, aX, aV, aB, aN, aL, aP, aH, aM, aF, Int.natCast_add, Int.natCast_mul, Int.add_sub_cancel, List.length_nil, Int.cast_ofNat_Int, and_true, true_and]) rfl (aret_of ?_)
  simp (disch := ((try simp only [List.length_set, List.length_replicate, List.length_append, List.length_cons, List.length_nil]); omega)) only [aW, aX, aV, aB, aN, aL, aP, aH, aM]
  refine d2.same (by simp (disch := first | omega | simp (disch := omega) only [aF, aL, aN, aM]) only [aW, aX, aV, aB, aN, aL, aP, aH, aM, aF, Int.natCast_add, Int.natCast_mul, Int.add_sub_cancel, List.length_nil, Int.cast_ofNat_Int, and_true, true_and]) rfl (aret_of ?_)
  simp (disch := ((try simp only [List.length_set, List.length_replicate, List.length_append, List.length_cons, List.length_nil]); omega)) only [aW, aX, aV, aB, aN, aL, aP, aH, aM]
  refine b5.same (by simp (disch := first | omega | simp (disch := omega) only [aF, aL, aN, aM]) only [aW, aX, aV, aB, aN, aL, aP, aH, aM, aF, Int.natCast_add, Int.natCast_mul, Int.add_sub_cancel, List.length_nil, Int.cast_ofNat_Int, and_true, true_and]) rfl (aret_of ?_)
  simp (disch := ((try simp only [List.length_set, List.length_replicate, List.length_append, List.length_cons, List.length_nil]); omega)) only [aW, aX, aV, aB, aN, aL, aP, aH, aM]
  refine b6.same (by simp (disch := first | omega | simp (disch := omega) only [aF, aL, aN, aM]) only [aW, aX, aV, aB, aN, aL, aP, aH, aM, aF, Int.natCast_add, Int.natCast_mul, Int.add_sub_cancel, List.length_nil, Int.cast_ofNat_Int, and_true, true_and]) rfl (aret_of ?_)
  unfold graphT graphA
  simp (disch := ((try simp only [List.length_set, List.length_replicate, List.length_append, List.length_cons, List.length_nil]); omega)) only [aW, aX, aV, aB, aN, aL, aP, aH, aM]
  refine (refLists_vr (w := true) (v := false) (w' := true) (v' := false) [[0]] [[0]] (by simp) (by simp)).use (ld_all (by simp [frzL_nil, frzL_cons, fzp_any, fzp_nil, fzp_v, fzp_agg, fzp_tup, fzp_fn, fzp_fs, fzp_fp, fzp_sl, fzp_vs, fzp_lp, ldp_any, ldp_nil, ldp_v, ldp_agg, ldp_fn, ldp_fs, ldp_fp, ldp_sl, ldp_vs, ldp_lp, blkAt, flatA, A.cells, A.one, Lft.one, retA, A.bdL, A.bd, rows, ints])) rfl (aret_of ?_)
  simp (disch := ((try simp only [List.length_set, List.length_replicate, List.length_append, List.length_cons, List.length_nil]); omega)) only [aW, aX, aV, aB, aN, aL, aP, aH, aM]
  refine b8.use (ld_all (by simp [frzL_nil, frzL_cons, fzp_any, fzp_nil, fzp_v, fzp_agg, fzp_tup, fzp_fn, fzp_fs, fzp_fp, fzp_sl, fzp_vs, fzp_lp, ldp_any, ldp_nil, ldp_v, ldp_agg, ldp_fn, ldp_fs, ldp_fp, ldp_sl, ldp_vs, ldp_lp, blkAt, flatA, A.cells, A.one, Lft.one, retA, A.bdL, A.bd, graphA, pairs, pairA])) rfl (aret_of ?_)
  simp (disch := ((try simp only [List.length_set, List.length_replicate, List.length_append, List.length_cons, List.length_nil]); omega)) only [aW, aX, aV, aB, aN, aL, aP, aH, aM]
  refine b7.same (by simp (disch := first | omega | simp (disch := omega) only [aF, aL, aN, aM]) only [aW, aX, aV, aB, aN, aL, aP, aH, aM, aF, Int.natCast_add, Int.natCast_mul, Int.add_sub_cancel, List.length_nil, Int.cast_ofNat_Int, and_true, true_and]) rfl (aret_of ?_)
  simp (disch := ((try simp only [List.length_set, List.length_replicate, List.length_append, List.length_cons, List.length_nil]); omega)) only [aW, aX, aV, aB, aN, aL, aP, aH, aM, r_law34_awake]
  exact post_v ⟨rfl, rfl⟩

theorem layoutChecks_vr (p : Pl) : VR P false n_law34_LayoutChecks [plA true true p] [] (isR (.v (.bool true))) := by
  refine vr_law34_LayoutChecks (by simp) (.inr rfl) fun _ _ => ?_
  unfold plA plC
  simp (disch := ((try simp only [List.length_set, List.length_replicate, List.length_append, List.length_cons, List.length_nil]); omega)) only [aW, aX, aV, aB, aN, aL, aP, aH, aM, s_law34_LayoutChecks, v_law34_LayoutChecks]
  refine (great_vr (w := true) (v := true) p).useE (LdL.refl (by simp (disch := first | omega | simp (disch := omega) only [aF, aL, aN, aM]) only [aW, aX, aV, aB, aN, aL, aP, aH, aM, aF, Int.natCast_add, Int.natCast_mul, Int.add_sub_cancel, List.length_nil, Int.cast_ofNat_Int, and_true, true_and])) great_c ?_
  rintro r ⟨_, b, rfl⟩
  refine aret_of ?_
  cases b with
  | true =>
    simp (disch := ((try simp only [List.length_set, List.length_replicate, List.length_append, List.length_cons, List.length_nil]); omega)) only [aW, aX, aV, aB, aN, aL, aP, aH, aM]
    refine awake34_vr.same (by simp (disch := first | omega | simp (disch := omega) only [aF, aL, aN, aM]) only [aW, aX, aV, aB, aN, aL, aP, aH, aM, aF, Int.natCast_add, Int.natCast_mul, Int.add_sub_cancel, List.length_nil, Int.cast_ofNat_Int, and_true, true_and]) rfl (aret_of ?_)
    simp (disch := ((try simp only [List.length_set, List.length_replicate, List.length_append, List.length_cons, List.length_nil]); omega)) only [aW, aX, aV, aB, aN, aL, aP, aH, aM, r_law34_LayoutChecks]
    exact post_v ⟨rfl, rfl⟩
  | false =>
    simp (disch := ((try simp only [List.length_set, List.length_replicate, List.length_append, List.length_cons, List.length_nil]); omega)) only [aW, aX, aV, aB, aN, aL, aP, aH, aM]
    refine (layoutCheck_vr (w := true) (v := true) p).same (by unfold plA plC; simp (disch := first | omega | simp (disch := omega) only [aF, aL, aN, aM]) only [aW, aX, aV, aB, aN, aL, aP, aH, aM, aF, Int.natCast_add, Int.natCast_mul, Int.add_sub_cancel, List.length_nil, Int.cast_ofNat_Int, and_true, true_and]) rfl (aret_of ?_)
    simp (disch := ((try simp only [List.length_set, List.length_replicate, List.length_append, List.length_cons, List.length_nil]); omega)) only [aW, aX, aV, aB, aN, aL, aP, aH, aM]
    refine (ref34Check_vr (w := true) (v := true) p).same (by unfold plA plC; simp (disch := first | omega | simp (disch := omega) only [aF, aL, aN, aM]) only [aW, aX, aV, aB, aN, aL, aP, aH, aM, aF, Int.natCast_add, Int.natCast_mul, Int.add_sub_cancel, List.length_nil, Int.cast_ofNat_Int, and_true, true_and]) rfl (aret_of ?_)
    simp (disch := ((try simp only [List.length_set, List.length_replicate, List.length_append, List.length_cons, List.length_nil]); omega)) only [aW, aX, aV, aB, aN, aL, aP, aH, aM]
    refine awake34_vr.same (by simp (disch := first | omega | simp (disch := omega) only [aF, aL, aN, aM]) only [aW, aX, aV, aB, aN, aL, aP, aH, aM, aF, Int.natCast_add, Int.natCast_mul, Int.add_sub_cancel, List.length_nil, Int.cast_ofNat_Int, and_true, true_and]) rfl (aret_of ?_)
    simp (disch := ((try simp only [List.length_set, List.length_replicate, List.length_append, List.length_cons, List.length_nil]); omega)) only [aW, aX, aV, aB, aN, aL, aP, aH, aM, r_law34_LayoutChecks]
    exact post_v ⟨rfl, rfl⟩

theorem layoutGraphs_vr (p : Pl) (x y : Int) : VR P false n_law34_LayoutGraphs [plA true true p, .agg [.v (.int .i64 x), .v (.int .i64 y)]] [] (isR (.v (.bool true))) := by
  refine vr_law34_LayoutGraphs (by simp) (.inr rfl) fun _ _ => ?_
  unfold plA plC
  simp (disch := ((try simp only [List.length_set, List.length_replicate, List.length_append, List.length_cons, List.length_nil]); omega)) only [aW, aX, aV, aB, aN, aL, aP, aH, aM, s_law34_LayoutGraphs, v_law34_LayoutGraphs]
  refine (great_vr (w := true) (v := true) p).useE (LdL.refl (by simp (disch := first | omega | simp (disch := omega) only [aF, aL, aN, aM]) only [aW, aX, aV, aB, aN, aL, aP, aH, aM, aF, Int.natCast_add, Int.natCast_mul, Int.add_sub_cancel, List.length_nil, Int.cast_ofNat_Int, and_true, true_and])) great_c ?_
  rintro r ⟨_, b, rfl⟩
  refine aret_of ?_
  cases b with
  | true =>
    simp (disch := ((try simp only [List.length_set, List.length_replicate, List.length_append, List.length_cons, List.length_nil]); omega)) only [aW, aX, aV, aB, aN, aL, aP, aH, aM, Int.toNat_one]
    refine awake34_vr.same (by simp (disch := first | omega | simp (disch := omega) only [aF, aL, aN, aM]) only [aW, aX, aV, aB, aN, aL, aP, aH, aM, aF, Int.natCast_add, Int.natCast_mul, Int.add_sub_cancel, List.length_nil, Int.cast_ofNat_Int, and_true, true_and]) rfl (aret_of ?_)
    simp (disch := ((try simp only [List.length_set, List.length_replicate, List.length_append, List.length_cons, List.length_nil]); omega)) only [aW, aX, aV, aB, aN, aL, aP, aH, aM, r_law34_LayoutGraphs]
    exact post_v ⟨rfl, rfl⟩
  | false =>
    have hl : (pgraph p).1.2.length < 1000000000 := by
      unfold pgraph
      split
      · simp
      · rename_i h
        have := (pcheck_ok (Classical.not_not.1 h)).b2
        simp only [arcsR_len]; omega
    simp (disch := ((try simp only [List.length_set, List.length_replicate, List.length_append, List.length_cons, List.length_nil]); omega)) only [aW, aX, aV, aB, aN, aL, aP, aH, aM, Int.toNat_one]
    refine (layoutGraph_vr (w := true) (v := true) p).same (by unfold plA plC; simp (disch := first | omega | simp (disch := omega) only [aF, aL, aN, aM]) only [aW, aX, aV, aB, aN, aL, aP, aH, aM, aF, Int.natCast_add, Int.natCast_mul, Int.add_sub_cancel, List.length_nil, Int.cast_ofNat_Int, and_true, true_and]) (by unfold graphT graphA; simp (disch := first | omega | simp (disch := omega) only [aF, aL, aN, aM]) only [aW, aX, aV, aB, aN, aL, aP, aH, aM, aF, Int.natCast_add, Int.natCast_mul, Int.add_sub_cancel, List.length_nil, Int.cast_ofNat_Int, and_true, true_and]) (aret_of ?_)
    unfold graphT graphA
    simp (disch := ((try simp only [List.length_set, List.length_replicate, List.length_append, List.length_cons, List.length_nil]); omega)) only [aW, aX, aV, aB, aN, aL, aP, aH, aM, Int.toNat_one]
    refine (refGraph_vr (w := true) (v := true) p).same (by unfold plA plC; simp (disch := first | omega | simp (disch := omega) only [aF, aL, aN, aM]) only [aW, aX, aV, aB, aN, aL, aP, aH, aM, aF, Int.natCast_add, Int.natCast_mul, Int.add_sub_cancel, List.length_nil, Int.cast_ofNat_Int, and_true, true_and]) (by unfold graphT graphA; simp (disch := first | omega | simp (disch := omega) only [aF, aL, aN, aM]) only [aW, aX, aV, aB, aN, aL, aP, aH, aM, aF, Int.natCast_add, Int.natCast_mul, Int.add_sub_cancel, List.length_nil, Int.cast_ofNat_Int, and_true, true_and]) (aret_of ?_)
    unfold graphT graphA
    simp (disch := ((try simp only [List.length_set, List.length_replicate, List.length_append, List.length_cons, List.length_nil]); omega)) only [aW, aX, aV, aB, aN, aL, aP, aH, aM, Int.toNat_one]
    refine (layoutNext_vr (w := true) (v := true) p x y).same (by unfold plA plC; simp (disch := first | omega | simp (disch := omega) only [aF, aL, aN, aM]) only [aW, aX, aV, aB, aN, aL, aP, aH, aM, aF, Int.natCast_add, Int.natCast_mul, Int.add_sub_cancel, List.length_nil, Int.cast_ofNat_Int, and_true, true_and]) rfl (aret_of ?_)
    simp (disch := ((try simp only [List.length_set, List.length_replicate, List.length_append, List.length_cons, List.length_nil]); omega)) only [aW, aX, aV, aB, aN, aL, aP, aH, aM, Int.toNat_one]
    refine (refNext_vr (w := true) (v := true) p x y).same (by unfold plA plC; simp (disch := first | omega | simp (disch := omega) only [aF, aL, aN, aM]) only [aW, aX, aV, aB, aN, aL, aP, aH, aM, aF, Int.natCast_add, Int.natCast_mul, Int.add_sub_cancel, List.length_nil, Int.cast_ofNat_Int, and_true, true_and]) rfl (aret_of ?_)
    simp (disch := ((try simp only [List.length_set, List.length_replicate, List.length_append, List.length_cons, List.length_nil]); omega)) only [aW, aX, aV, aB, aN, aL, aP, aH, aM, Int.toNat_one]
    refine (sameGraph_vr (w := true) (v := true) (pgraph p).1.1 (pgraph p).1.1 (pgraph p).1.2 (pgraph p).1.2 hl).same (by unfold graphA; simp (disch := first | omega | simp (disch := omega) only [aF, aL, aN, aM]) only [aW, aX, aV, aB, aN, aL, aP, aH, aM, aF, Int.natCast_add, Int.natCast_mul, Int.add_sub_cancel, List.length_nil, Int.cast_ofNat_Int, and_true, true_and]) rfl (aret_of ?_)
    rw [decide_eq_true ⟨rfl, rfl⟩]
    simp (disch := ((try simp only [List.length_set, List.length_replicate, List.length_append, List.length_cons, List.length_nil]); omega)) only [aW, aX, aV, aB, aN, aL, aP, aH, aM, Int.toNat_one]
    refine awake34_vr.same (by simp (disch := first | omega | simp (disch := omega) only [aF, aL, aN, aM]) only [aW, aX, aV, aB, aN, aL, aP, aH, aM, aF, Int.natCast_add, Int.natCast_mul, Int.add_sub_cancel, List.length_nil, Int.cast_ofNat_Int, and_true, true_and]) rfl (aret_of ?_)
    simp (disch := ((try simp only [List.length_set, List.length_replicate, List.length_append, List.length_cons, List.length_nil]); omega)) only [aW, aX, aV, aB, aN, aL, aP, aH, aM, r_law34_LayoutGraphs]
    exact post_v ⟨rfl, rfl⟩

theorem layoutHeights_vr (p : Pl) (x y : Int) : VR P false n_law34_LayoutHeights [plA true true p, .agg [.v (.int .i64 x), .v (.int .i64 y)]] [] (isR (.v (.bool true))) := by
  refine vr_law34_LayoutHeights (by simp) (.inr rfl) fun _ _ => ?_
  unfold plA plC
  simp (disch := ((try simp only [List.length_set, List.length_replicate, List.length_append, List.length_cons, List.length_nil]); omega)) only [aW, aX, aV, aB, aN, aL, aP, aH, aM, s_law34_LayoutHeights, v_law34_LayoutHeights]
  refine (great_vr (w := true) (v := true) p).useE (LdL.refl (by simp (disch := first | omega | simp (disch := omega) only [aF, aL, aN, aM]) only [aW, aX, aV, aB, aN, aL, aP, aH, aM, aF, Int.natCast_add, Int.natCast_mul, Int.add_sub_cancel, List.length_nil, Int.cast_ofNat_Int, and_true, true_and])) great_c ?_
  rintro r ⟨_, b, rfl⟩
  refine aret_of ?_
  cases b with
  | true =>
    simp (disch := ((try simp only [List.length_set, List.length_replicate, List.length_append, List.length_cons, List.length_nil]); omega)) only [aW, aX, aV, aB, aN, aL, aP, aH, aM, Int.toNat_one]
    refine awake34_vr.same (by simp (disch := first | omega | simp (disch := omega) only [aF, aL, aN, aM]) only [aW, aX, aV, aB, aN, aL, aP, aH, aM, aF, Int.natCast_add, Int.natCast_mul, Int.add_sub_cancel, List.length_nil, Int.cast_ofNat_Int, and_true, true_and]) rfl (aret_of ?_)
    simp (disch := ((try simp only [List.length_set, List.length_replicate, List.length_append, List.length_cons, List.length_nil]); omega)) only [aW, aX, aV, aB, aN, aL, aP, aH, aM, r_law34_LayoutHeights]
    exact post_v ⟨rfl, rfl⟩
  | false =>
    simp (disch := ((try simp only [List.length_set, List.length_replicate, List.length_append, List.length_cons, List.length_nil]); omega)) only [aW, aX, aV, aB, aN, aL, aP, aH, aM, Int.toNat_one]
    refine (layoutHeight_vr (w := true) (v := true) p x y).same (by unfold plA plC; simp (disch := first | omega | simp (disch := omega) only [aF, aL, aN, aM]) only [aW, aX, aV, aB, aN, aL, aP, aH, aM, aF, Int.natCast_add, Int.natCast_mul, Int.add_sub_cancel, List.length_nil, Int.cast_ofNat_Int, and_true, true_and]) rfl (aret_of ?_)
    simp (disch := ((try simp only [List.length_set, List.length_replicate, List.length_append, List.length_cons, List.length_nil]); omega)) only [aW, aX, aV, aB, aN, aL, aP, aH, aM, Int.toNat_one]
    refine (refHeight_vr (w := true) (v := true) p x y).same (by unfold plA plC; simp (disch := first | omega | simp (disch := omega) only [aF, aL, aN, aM]) only [aW, aX, aV, aB, aN, aL, aP, aH, aM, aF, Int.natCast_add, Int.natCast_mul, Int.add_sub_cancel, List.length_nil, Int.cast_ofNat_Int, and_true, true_and]) rfl (aret_of ?_)
    simp (disch := ((try simp only [List.length_set, List.length_replicate, List.length_append, List.length_cons, List.length_nil]); omega)) only [aW, aX, aV, aB, aN, aL, aP, aH, aM, Int.toNat_one]
    refine (layoutDrains_vr (w := true) (v := true) p).same (by unfold plA plC; simp (disch := first | omega | simp (disch := omega) only [aF, aL, aN, aM]) only [aW, aX, aV, aB, aN, aL, aP, aH, aM, aF, Int.natCast_add, Int.natCast_mul, Int.add_sub_cancel, List.length_nil, Int.cast_ofNat_Int, and_true, true_and]) rfl (aret_of ?_)
    simp (disch := ((try simp only [List.length_set, List.length_replicate, List.length_append, List.length_cons, List.length_nil]); omega)) only [aW, aX, aV, aB, aN, aL, aP, aH, aM, Int.toNat_one]
    refine (refDrains_vr (w := true) (v := true) p).same (by unfold plA plC; simp (disch := first | omega | simp (disch := omega) only [aF, aL, aN, aM]) only [aW, aX, aV, aB, aN, aL, aP, aH, aM, aF, Int.natCast_add, Int.natCast_mul, Int.add_sub_cancel, List.length_nil, Int.cast_ofNat_Int, and_true, true_and]) rfl (aret_of ?_)
    simp (disch := ((try simp only [List.length_set, List.length_replicate, List.length_append, List.length_cons, List.length_nil]); omega)) only [aW, aX, aV, aB, aN, aL, aP, aH, aM, beq_self_eq_true]
    refine awake34_vr.same (by simp (disch := first | omega | simp (disch := omega) only [aF, aL, aN, aM]) only [aW, aX, aV, aB, aN, aL, aP, aH, aM, aF, Int.natCast_add, Int.natCast_mul, Int.add_sub_cancel, List.length_nil, Int.cast_ofNat_Int, and_true, true_and]) rfl (aret_of ?_)
    simp (disch := ((try simp only [List.length_set, List.length_replicate, List.length_append, List.length_cons, List.length_nil]); omega)) only [aW, aX, aV, aB, aN, aL, aP, aH, aM, r_law34_LayoutHeights]
    exact post_v ⟨rfl, rfl⟩

theorem loops_len (p : Pl) : (loopsR p).1.length < 1000000000 ∧ ∀ r ∈ (loopsR p).1, r.length < 1000000000 := by
  unfold loopsR
  split
  · simp
  · rename_i h
    have ok := pcheck_ok (Classical.not_not.1 h)
    have h1 := gst_len p.ms.length (arcsR p) p.ms.length
    have h2 := List.length_filter_le (fun r => decide (¬ delG (arcsR p) r)) (gst p.ms.length (arcsR p) p.ms.length).2
    have h3 := ok.n2
    refine ⟨by simp only [keepG]; omega, fun r hr => ?_⟩
    have hr' := (List.mem_filter.1 hr).1
    have := gst_reps p.ms.length (arcsR p) p.ms.length
    rw [this] at hr'
    obtain ⟨x, _, rfl⟩ := List.mem_map.1 hr'
    have := memb_len p.ms.length (arcsR p) x 0 (p.ms.length : Int).toNat
    omega
theorem layoutLoops_law (p : Pl) : VR P false n_law34_LayoutLoops [plA true true p] [] (isR (.v (.bool true))) := by
  refine vr_law34_LayoutLoops (by simp) (.inr rfl) fun _ _ => ?_
  unfold plA plC
  simp (disch := ((try simp only [List.length_set, List.length_replicate, List.length_append, List.length_cons, List.length_nil]); omega)) only [aW, aX, aV, aB, aN, aL, aP, aH, aM, s_law34_LayoutLoops, v_law34_LayoutLoops]
  refine (great_vr (w := true) (v := true) p).useE (LdL.refl (by simp (disch := first | omega | simp (disch := omega) only [aF, aL, aN, aM]) only [aW, aX, aV, aB, aN, aL, aP, aH, aM, aF, Int.natCast_add, Int.natCast_mul, Int.add_sub_cancel, List.length_nil, Int.cast_ofNat_Int, and_true, true_and])) great_c ?_
  rintro r ⟨_, b, rfl⟩
  refine aret_of ?_
  cases b with
  | true =>
    simp (disch := ((try simp only [List.length_set, List.length_replicate, List.length_append, List.length_cons, List.length_nil]); omega)) only [aW, aX, aV, aB, aN, aL, aP, aH, aM]
    refine awake34_vr.same (by simp (disch := first | omega | simp (disch := omega) only [aF, aL, aN, aM]) only [aW, aX, aV, aB, aN, aL, aP, aH, aM, aF, Int.natCast_add, Int.natCast_mul, Int.add_sub_cancel, List.length_nil, Int.cast_ofNat_Int, and_true, true_and]) rfl (aret_of ?_)
    simp (disch := ((try simp only [List.length_set, List.length_replicate, List.length_append, List.length_cons, List.length_nil]); omega)) only [aW, aX, aV, aB, aN, aL, aP, aH, aM, r_law34_LayoutLoops]
    exact post_v ⟨rfl, rfl⟩
  | false =>
    obtain ⟨h1, h2⟩ := loops_len p
    simp (disch := ((try simp only [List.length_set, List.length_replicate, List.length_append, List.length_cons, List.length_nil]); omega)) only [aW, aX, aV, aB, aN, aL, aP, aH, aM]
    refine (layoutLoops_vr (w := true) (v := true) p).same (by unfold plA plC; simp (disch := first | omega | simp (disch := omega) only [aF, aL, aN, aM]) only [aW, aX, aV, aB, aN, aL, aP, aH, aM, aF, Int.natCast_add, Int.natCast_mul, Int.add_sub_cancel, List.length_nil, Int.cast_ofNat_Int, and_true, true_and]) (by simp (disch := first | omega | simp (disch := omega) only [aF, aL, aN, aM]) only [aW, aX, aV, aB, aN, aL, aP, aH, aM, aF, Int.natCast_add, Int.natCast_mul, Int.add_sub_cancel, List.length_nil, Int.cast_ofNat_Int, and_true, true_and]) (aret_of ?_)
    simp (disch := ((try simp only [List.length_set, List.length_replicate, List.length_append, List.length_cons, List.length_nil]); omega)) only [aW, aX, aV, aB, aN, aL, aP, aH, aM]
    refine (refLoops_vr (w := true) (v := true) p).same (by unfold plA plC; simp (disch := first | omega | simp (disch := omega) only [aF, aL, aN, aM]) only [aW, aX, aV, aB, aN, aL, aP, aH, aM, aF, Int.natCast_add, Int.natCast_mul, Int.add_sub_cancel, List.length_nil, Int.cast_ofNat_Int, and_true, true_and]) (by simp (disch := first | omega | simp (disch := omega) only [aF, aL, aN, aM]) only [aW, aX, aV, aB, aN, aL, aP, aH, aM, aF, Int.natCast_add, Int.natCast_mul, Int.add_sub_cancel, List.length_nil, Int.cast_ofNat_Int, and_true, true_and]) (aret_of ?_)
    simp (disch := ((try simp only [List.length_set, List.length_replicate, List.length_append, List.length_cons, List.length_nil]); omega)) only [aW, aX, aV, aB, aN, aL, aP, aH, aM]
    refine (refLists_vr (w := true) (v := true) (w' := true) (v' := true) (loopsR p).1 (loopsR p).1 h1 h2).same (by simp (disch := first | omega | simp (disch := omega) only [aF, aL, aN, aM]) only [aW, aX, aV, aB, aN, aL, aP, aH, aM, aF, Int.natCast_add, Int.natCast_mul, Int.add_sub_cancel, List.length_nil, Int.cast_ofNat_Int, and_true, true_and]) rfl (aret_of ?_)
    rw [decide_eq_true (rfl : (loopsR p).1 = (loopsR p).1)]
    simp (disch := ((try simp only [List.length_set, List.length_replicate, List.length_append, List.length_cons, List.length_nil]); omega)) only [aW, aX, aV, aB, aN, aL, aP, aH, aM]
    refine awake34_vr.same (by simp (disch := first | omega | simp (disch := omega) only [aF, aL, aN, aM]) only [aW, aX, aV, aB, aN, aL, aP, aH, aM, aF, Int.natCast_add, Int.natCast_mul, Int.add_sub_cancel, List.length_nil, Int.cast_ofNat_Int, and_true, true_and]) rfl (aret_of ?_)
    simp (disch := ((try simp only [List.length_set, List.length_replicate, List.length_append, List.length_cons, List.length_nil]); omega)) only [aW, aX, aV, aB, aN, aL, aP, aH, aM, r_law34_LayoutLoops]
    exact post_v ⟨rfl, rfl⟩

theorem height_bad {p : Pl} (h : pcheck p ≠ 0) (m mt : Int) : heightR p m mt = (0, pcheck p) := by unfold heightR; rw [if_pos h]
theorem height_in {p : Pl} (h : pcheck p = 0) {m mt : Int} (h1 : 0 ≤ m) (h2 : m < p.ms.length) (h3 : 0 ≤ mt) (h4 : mt < p.mat) : heightR p m mt = if (wayV p mt m.toNat).2 = false then (0, 23) else ((wayV p mt m.toNat).1, 0) := by
  unfold heightR; rw [if_neg (by omega), if_neg (by omega), if_neg (by omega)]
/-- All materials that come before leave. -/
def allB (p : Pl) (k j : Nat) : Bool := ((List.range k).all fun m => (List.range p.mat.toNat).all fun mt => (wayV p mt m).2) && (List.range j).all fun mt => (wayV p mt k).2
theorem allB_zero (p : Pl) (k : Nat) : allB p k 0 = (List.range k).all fun m => (List.range p.mat.toNat).all fun mt => (wayV p mt m).2 := by simp [allB]
theorem allB_succ (p : Pl) (k j : Nat) : allB p k (j + 1) = (allB p k j && (wayV p j k).2) := by simp [allB, List.range_succ, Bool.and_assoc]
theorem allB_next (p : Pl) (k : Nat) : allB p k p.mat.toNat = allB p (k + 1) 0 := by simp [allB, List.range_succ]
theorem allB_all (p : Pl) : allB p p.ms.length 0 = drB p := by simp [allB, drB]

theorem layoutDrains_law (p : Pl) : VR P false n_law34_LayoutDrains [plA true true p] [] (isR (.v (.bool true))) := by
  refine vr_law34_LayoutDrains (by simp) (.inr rfl) fun _ _ => ?_
  unfold plA plC
  simp (disch := ((try simp only [List.length_set, List.length_replicate, List.length_append, List.length_cons, List.length_nil]); omega)) only [aW, aX, aV, aB, aN, aL, aP, aH, aM, s_law34_LayoutDrains, v_law34_LayoutDrains]
  refine (great_vr (w := true) (v := true) p).useE (LdL.refl (by simp (disch := first | omega | simp (disch := omega) only [aF, aL, aN, aM]) only [aW, aX, aV, aB, aN, aL, aP, aH, aM, aF, Int.natCast_add, Int.natCast_mul, Int.add_sub_cancel, List.length_nil, Int.cast_ofNat_Int, and_true, true_and])) great_c ?_
  rintro r ⟨_, b, rfl⟩
  refine aret_of ?_
  cases b with
  | true =>
    simp (disch := ((try simp only [List.length_set, List.length_replicate, List.length_append, List.length_cons, List.length_nil]); omega)) only [aW, aX, aV, aB, aN, aL, aP, aH, aM]
    refine awake34_vr.same (by simp (disch := first | omega | simp (disch := omega) only [aF, aL, aN, aM]) only [aW, aX, aV, aB, aN, aL, aP, aH, aM, aF, Int.natCast_add, Int.natCast_mul, Int.add_sub_cancel, List.length_nil, Int.cast_ofNat_Int, and_true, true_and]) rfl (aret_of ?_)
    simp (disch := ((try simp only [List.length_set, List.length_replicate, List.length_append, List.length_cons, List.length_nil]); omega)) only [aW, aX, aV, aB, aN, aL, aP, aH, aM, r_law34_LayoutDrains]
    exact post_v ⟨rfl, rfl⟩
  | false =>
    simp (disch := ((try simp only [List.length_set, List.length_replicate, List.length_append, List.length_cons, List.length_nil]); omega)) only [aW, aX, aV, aB, aN, aL, aP, aH, aM]
    refine (layoutDrains_vr (w := true) (v := true) p).same (by unfold plA plC; simp (disch := first | omega | simp (disch := omega) only [aF, aL, aN, aM]) only [aW, aX, aV, aB, aN, aL, aP, aH, aM, aF, Int.natCast_add, Int.natCast_mul, Int.add_sub_cancel, List.length_nil, Int.cast_ofNat_Int, and_true, true_and]) rfl (aret_of ?_)
    by_cases h1 : pcheck p = 0
    · have ok := pcheck_ok h1
      have hn2 := ok.n2
      have hm1 := ok.m1
      have hm2 := ok.m2
      have hd : drainR p = (drB p, 0) := by unfold drainR; rw [if_neg (by omega)]
      rw [hd]
      simp (disch := ((try simp only [List.length_set, List.length_replicate, List.length_append, List.length_cons, List.length_nil]); omega)) only [aW, aX, aV, aB, aN, aL, aP, aH, aM]
      refine AWP.loopP g_law34_LayoutDrains_0 (fun k : Nat => k ≤ p.ms.length) (fun k => [(1, .v (.bool false)), (7, .v (.bool (allB p k 0))), (8, .v (.int .i64 k))]) (fun _ => []) (fun k => p.ms.length - k) 0 (by omega) ?_ ?_
      · have e0 : allB p 0 0 = true := rfl
        rw [e0]; exact Cut.of' 1 rfl (by omega) (by simp (disch := first | omega | simp (disch := omega) only [aF, aL, aN, aM]) only [aW, aX, aV, aB, aN, aL, aP, aH, aM, aF, Int.natCast_add, Int.natCast_mul, Int.add_sub_cancel, List.length_nil, Int.cast_ofNat_Int, and_true, true_and]) (by simp (disch := first | omega | simp (disch := omega) only [aF, aL, aN, aM]) only [aW, aX, aV, aB, aN, aL, aP, aH, aM, aF, Int.natCast_add, Int.natCast_mul, Int.add_sub_cancel, List.length_nil, Int.cast_ofNat_Int, and_true, true_and])
      rintro k hk
      by_cases hlt : k < p.ms.length
      · simp (disch := ((try simp only [List.length_set, List.length_replicate, List.length_append, List.length_cons, List.length_nil]); omega)) only [aW, aX, aV, aB, aN, aL, aP, aH, aM]
        refine AWP.loopP g_law34_LayoutDrains_1 (fun j : Nat => (j : Int) ≤ p.mat) (fun j => [(1, .v (.bool false)), (7, .v (.bool (allB p k j))), (9, .v (.int .i64 j))]) (fun _ => []) (fun j => p.mat.toNat - j) 0 (by omega) (by refine Cut.of' (1) ?_ (by omega) ?_ ?_ <;> simp (disch := first | omega | simp (disch := omega) only [aF, aL, aN, aM]) only [aW, aX, aV, aB, aN, aL, aP, aH, aM, aF, Int.natCast_add, Int.natCast_mul, Int.add_sub_cancel, List.length_nil, Int.cast_ofNat_Int, and_true, true_and]) ?_
        rintro j hj
        by_cases hjl : (j : Int) < p.mat
        · have hh := height_in h1 (m := k) (mt := j) (by omega) (by omega) (by omega) hjl
          rw [Int.toNat_natCast] at hh
          have hs := allB_succ p k j
          simp (disch := ((try simp only [List.length_set, List.length_replicate, List.length_append, List.length_cons, List.length_nil]); omega)) only [aW, aX, aV, aB, aN, aL, aP, aH, aM]
          refine (layoutHeight_vr (w := true) (v := true) p k j).same (by unfold plA plC; simp (disch := first | omega | simp (disch := omega) only [aF, aL, aN, aM]) only [aW, aX, aV, aB, aN, aL, aP, aH, aM, aF, Int.natCast_add, Int.natCast_mul, Int.add_sub_cancel, List.length_nil, Int.cast_ofNat_Int, and_true, true_and]) rfl (aret_of ?_)
          rw [hh]
          cases hw : (wayV p j k).2 with
          | false =>
            rw [hw, Bool.and_false] at hs
            rw [if_pos rfl]
            have e23 : decide ((23 : Int) = 0) = false := rfl
            cases ha : allB p k j
            all_goals
              simp (disch := ((try simp only [List.length_set, List.length_replicate, List.length_append, List.length_cons, List.length_nil]); omega)) only [aW, aX, aV, aB, aN, aL, aP, aH, aM, e23]
              refine ⟨j + 1, by omega, by omega, ?_⟩
              rw [hs]
              exact Cut.of' 1 rfl (by omega) (by simp (disch := first | omega | simp (disch := omega) only [aF, aL, aN, aM]) only [aW, aX, aV, aB, aN, aL, aP, aH, aM, aF, Int.natCast_add, Int.natCast_mul, Int.add_sub_cancel, List.length_nil, Int.cast_ofNat_Int, and_true, true_and]) (by simp (disch := first | omega | simp (disch := omega) only [aF, aL, aN, aM]) only [aW, aX, aV, aB, aN, aL, aP, aH, aM, aF, Int.natCast_add, Int.natCast_mul, Int.add_sub_cancel, List.length_nil, Int.cast_ofNat_Int, and_true, true_and, e23])
          | true =>
            rw [hw, Bool.and_true] at hs
            rw [if_neg (by simp)]
            cases ha : allB p k j
            all_goals
              simp (disch := ((try simp only [List.length_set, List.length_replicate, List.length_append, List.length_cons, List.length_nil]); omega)) only [aW, aX, aV, aB, aN, aL, aP, aH, aM]
              refine ⟨j + 1, by omega, by omega, ?_⟩
              rw [hs, ha]
              exact Cut.of' 1 rfl (by omega) (by simp (disch := first | omega | simp (disch := omega) only [aF, aL, aN, aM]) only [aW, aX, aV, aB, aN, aL, aP, aH, aM, aF, Int.natCast_add, Int.natCast_mul, Int.add_sub_cancel, List.length_nil, Int.cast_ofNat_Int, and_true, true_and]) (by simp (disch := first | omega | simp (disch := omega) only [aF, aL, aN, aM]) only [aW, aX, aV, aB, aN, aL, aP, aH, aM, aF, Int.natCast_add, Int.natCast_mul, Int.add_sub_cancel, List.length_nil, Int.cast_ofNat_Int, and_true, true_and])
        · have hje : j = p.mat.toNat := by omega
          subst hje
          have := allB_next p k
          simp (disch := ((try simp only [List.length_set, List.length_replicate, List.length_append, List.length_cons, List.length_nil]); omega)) only [aW, aX, aV, aB, aN, aL, aP, aH, aM]
          refine ⟨k + 1, by omega, by omega, ?_⟩
          rw [← this]
          exact Cut.of' 1 rfl (by omega) (by simp (disch := first | omega | simp (disch := omega) only [aF, aL, aN, aM]) only [aW, aX, aV, aB, aN, aL, aP, aH, aM, aF, Int.natCast_add, Int.natCast_mul, Int.add_sub_cancel, List.length_nil, Int.cast_ofNat_Int, and_true, true_and]) (by simp (disch := first | omega | simp (disch := omega) only [aF, aL, aN, aM]) only [aW, aX, aV, aB, aN, aL, aP, aH, aM, aF, Int.natCast_add, Int.natCast_mul, Int.add_sub_cancel, List.length_nil, Int.cast_ofNat_Int, and_true, true_and])
      · have hke : k = p.ms.length := by omega
        subst hke
        rw [allB_all]
        simp (disch := ((try simp only [List.length_set, List.length_replicate, List.length_append, List.length_cons, List.length_nil]); omega)) only [aW, aX, aV, aB, aN, aL, aP, aH, aM, beq_self_eq_true]
        refine awake34_vr.same (by simp (disch := first | omega | simp (disch := omega) only [aF, aL, aN, aM]) only [aW, aX, aV, aB, aN, aL, aP, aH, aM, aF, Int.natCast_add, Int.natCast_mul, Int.add_sub_cancel, List.length_nil, Int.cast_ofNat_Int, and_true, true_and]) rfl (aret_of ?_)
        simp (disch := ((try simp only [List.length_set, List.length_replicate, List.length_append, List.length_cons, List.length_nil]); omega)) only [aW, aX, aV, aB, aN, aL, aP, aH, aM, r_law34_LayoutDrains]
        exact post_v ⟨rfl, rfl⟩
    · have hd : drainR p = (false, pcheck p) := by unfold drainR; rw [if_pos h1]
      rw [hd]
      simp (disch := ((try simp only [List.length_set, List.length_replicate, List.length_append, List.length_cons, List.length_nil]); omega)) only [aW, aX, aV, aB, aN, aL, aP, aH, aM]
      refine (layoutHeight_vr (w := true) (v := true) p 0 0).same (by unfold plA plC; simp (disch := first | omega | simp (disch := omega) only [aF, aL, aN, aM]) only [aW, aX, aV, aB, aN, aL, aP, aH, aM, aF, Int.natCast_add, Int.natCast_mul, Int.add_sub_cancel, List.length_nil, Int.cast_ofNat_Int, and_true, true_and]) rfl (aret_of ?_)
      rw [height_bad h1]
      simp (disch := ((try simp only [List.length_set, List.length_replicate, List.length_append, List.length_cons, List.length_nil]); omega)) only [aW, aX, aV, aB, aN, aL, aP, aH, aM]
      refine awake34_vr.same (by simp (disch := first | omega | simp (disch := omega) only [aF, aL, aN, aM]) only [aW, aX, aV, aB, aN, aL, aP, aH, aM, aF, Int.natCast_add, Int.natCast_mul, Int.add_sub_cancel, List.length_nil, Int.cast_ofNat_Int, and_true, true_and]) rfl (aret_of ?_)
      simp (disch := ((try simp only [List.length_set, List.length_replicate, List.length_append, List.length_cons, List.length_nil]); omega)) only [aW, aX, aV, aB, aN, aL, aP, aH, aM, r_law34_LayoutDrains]
      exact post_v ⟨rfl, rfl⟩
end Go.Proofs.Ytjhdedifmhkhbaa
