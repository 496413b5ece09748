/- Lemmas and walks that the proof of ControlGroups uses. No statement is claimed here. -/
import Derived.Test.YtfnghkmchlfooaaControlGroupsZal
namespace Go.Proofs.Ytfnghkmchlfooaa
open Go Go.Lft
set_option linter.unusedSimpArgs false
set_option linter.unusedVariables false
attribute [local congr] ob_congr bw_congr ib_congr ck_congr iwA_congr itA_congr aw_congr awp_congr sqA_congr bkA_congr vr_congr gd_congr

theorem large36_vr {w v : Bool} (p : Pl) : VR P false n_ref36_Large [plA w v p] [] (fun r G => G = [] ∧ ∃ b : Bool, r = .v (.bool b)) := by
  refine vr_ref36_Large (by simp) (.inr rfl) fun _ _ => ?_
  unfold plA plC
  simp (disch := ((try simp only [List.length_set, List.length_replicate, List.length_append, List.length_cons, List.length_nil]); omega)) only [aW, aX, aV, aB, aN, aL, aP, aH, aM, s_ref36_Large, v_ref36_Large]
  refine ib_intro (fun h1 => ?_) (fun h1 => ?_)
  · simp (disch := ((try simp only [List.length_set, List.length_replicate, List.length_append, List.length_cons, List.length_nil]); omega)) only [aW, aX, aV, aB, aN, aL, aP, aH, aM, r_ref36_Large]
    exact post_v ⟨rfl, _, rfl⟩
  simp (disch := ((try simp only [List.length_set, List.length_replicate, List.length_append, List.length_cons, List.length_nil]); omega)) only [aW, aX, aV, aB, aN, aL, aP, aH, aM]
  refine AWP.loopP g_ref36_Large_0 (fun k : Nat => k ≤ p.ms.length) (fun k => [(1, .v (.bool false)), (3, .v (.int .i64 k))]) (fun _ => []) (fun k => p.ms.length - k) 0 (by omega) ?_ ?_
  · exact Cut.of' 1 rfl (by omega) (by simp (disch := first | omega | simp (disch := omega) only [aF, aL, aN, aM]) only [aW, aX, aV, aB, aN, aL, aP, aH, aM, aF, Int.natCast_add, Int.natCast_mul, Int.add_sub_cancel, List.length_nil, Int.cast_ofNat_Int, and_true, true_and]) (by simp (disch := first | omega | simp (disch := omega) only [aF, aL, aN, aM]) only [aW, aX, aV, aB, aN, aL, aP, aH, aM, aF, Int.natCast_add, Int.natCast_mul, Int.add_sub_cancel, List.length_nil, Int.cast_ofNat_Int, and_true, true_and])
  rintro k hk
  by_cases hlt : k < p.ms.length
  · simp (disch := ((try simp only [List.length_set, List.length_replicate, List.length_append, List.length_cons, List.length_nil]); omega)) only [aW, aX, aV, aB, aN, aL, aP, aH, aM]
    refine ib_intro (fun h2 => ?_) (fun h2 => ?_)
    · simp (disch := ((try simp only [List.length_set, List.length_replicate, List.length_append, List.length_cons, List.length_nil]); omega)) only [aW, aX, aV, aB, aN, aL, aP, aH, aM, r_ref36_Large]
      exact post_v ⟨rfl, _, rfl⟩
    simp (disch := ((try simp only [List.length_set, List.length_replicate, List.length_append, List.length_cons, List.length_nil]); omega)) only [aW, aX, aV, aB, aN, aL, aP, aH, aM]
    refine AWP.loopP g_ref36_Large_1 (fun j : Nat => j ≤ (p.ms.getD k []).length) (fun j => [(1, .v (.bool false)), (8, .v (.int .i64 j))]) (fun _ => []) (fun j => (p.ms.getD k []).length - j) 0 (by omega) ?_ ?_
    · exact Cut.of' 2 rfl (by omega) (by simp (disch := first | omega | simp (disch := omega) only [aF, aL, aN, aM]) only [aW, aX, aV, aB, aN, aL, aP, aH, aM, aF, Int.natCast_add, Int.natCast_mul, Int.add_sub_cancel, List.length_nil, Int.cast_ofNat_Int, and_true, true_and]) (by simp (disch := first | omega | simp (disch := omega) only [aF, aL, aN, aM]) only [aW, aX, aV, aB, aN, aL, aP, aH, aM, aF, Int.natCast_add, Int.natCast_mul, Int.add_sub_cancel, List.length_nil, Int.cast_ofNat_Int, and_true, true_and])
    rintro j hj
    by_cases hjl : j < (p.ms.getD k []).length
    · simp (disch := ((try simp only [List.length_set, List.length_replicate, List.length_append, List.length_cons, List.length_nil]); omega)) only [aW, aX, aV, aB, aN, aL, aP, aH, aM]
      refine ib_intro (fun h3 => ?_) (fun h3 => ?_)
      · simp (disch := ((try simp only [List.length_set, List.length_replicate, List.length_append, List.length_cons, List.length_nil]); omega)) only [aW, aX, aV, aB, aN, aL, aP, aH, aM, r_ref36_Large]
        exact post_v ⟨rfl, _, rfl⟩
      · simp (disch := ((try simp only [List.length_set, List.length_replicate, List.length_append, List.length_cons, List.length_nil]); omega)) only [aW, aX, aV, aB, aN, aL, aP, aH, aM]
        refine ⟨j + 1, by omega, by omega, ?_⟩
        exact Cut.of' 2 rfl (by omega) (by simp (disch := first | omega | simp (disch := omega) only [aF, aL, aN, aM]) only [aW, aX, aV, aB, aN, aL, aP, aH, aM, aF, Int.natCast_add, Int.natCast_mul, Int.add_sub_cancel, List.length_nil, Int.cast_ofNat_Int, and_true, true_and]) (by simp (disch := first | omega | simp (disch := omega) only [aF, aL, aN, aM]) only [aW, aX, aV, aB, aN, aL, aP, aH, aM, aF, Int.natCast_add, Int.natCast_mul, Int.add_sub_cancel, List.length_nil, Int.cast_ofNat_Int, and_true, true_and])
    · simp (disch := ((try simp only [List.length_set, List.length_replicate, List.length_append, List.length_cons, List.length_nil]); omega)) only [aW, aX, aV, aB, aN, aL, aP, aH, aM]
      refine ⟨k + 1, by omega, by omega, ?_⟩
      exact Cut.of' 1 rfl (by omega) (by simp (disch := first | omega | simp (disch := omega) only [aF, aL, aN, aM]) only [aW, aX, aV, aB, aN, aL, aP, aH, aM, aF, Int.natCast_add, Int.natCast_mul, Int.add_sub_cancel, List.length_nil, Int.cast_ofNat_Int, and_true, true_and]) (by simp (disch := first | omega | simp (disch := omega) only [aF, aL, aN, aM]) only [aW, aX, aV, aB, aN, aL, aP, aH, aM, aF, Int.natCast_add, Int.natCast_mul, Int.add_sub_cancel, List.length_nil, Int.cast_ofNat_Int, and_true, true_and])
  · simp (disch := ((try simp only [List.length_set, List.length_replicate, List.length_append, List.length_cons, List.length_nil]); omega)) only [aW, aX, aV, aB, aN, aL, aP, aH, aM, r_ref36_Large]
    exact post_v ⟨rfl, _, rfl⟩
theorem large36_c (r : A) (G : List Blk) (h : G = [] ∧ ∃ b : Bool, r = .v (.bool b)) : G = [] ∧ (r.cl && r.bd 0) = true := by
  obtain ⟨h1, b, rfl⟩ := h; exact ⟨h1, rfl⟩

def exC : Pl := ⟨1, [[[600, 400]], [[600, 400]], [[]], [[]]], [⟨0, 0, 1, 1⟩, ⟨0, 1, 2, 1⟩, ⟨1, 0, 0, 1⟩, ⟨1, 1, 3, 1⟩], 0⟩
theorem example36_vr : VR P false n_law36_example [] [] (isR (plA true true exC)) := by
  refine vr_law36_example (by simp) (.inr rfl) fun _ _ => ?_
  simp (disch := ((try simp only [List.length_set, List.length_replicate, List.length_append, List.length_cons, List.length_nil]); omega)) only [aW, aX, aV, aB, aN, aL, aP, aH, aM, s_law36_example, v_law36_example, r_law36_example]
  refine post0 (fz_all ?_) ⟨rfl, rfl⟩
  simp [frzL_nil, frzL_cons, fzp_any, fzp_nil, fzp_v, fzp_agg, fzp_tup, fzp_fn, fzp_fs, fzp_fp, fzp_sl, fzp_vs, fzp_lp, ldp_any, ldp_nil, ldp_v, ldp_agg, ldp_fn, ldp_fs, ldp_fp, ldp_sl, ldp_vs, ldp_lp, blkAt, flatA, A.cells, A.one, Lft.one, retA, A.bdL, A.bd, exC, plA, plC, mcs, mcA, mcC, bts, btA, btC, rows, ints]
theorem panC_bd {n : Nat} {c : Cn} {j : Nat} (h : j < n) : A.bdL n (panC c j) = true := by
  simp [panC, A.bdL, A.bd, p_bd, r_bd, ii_bd, h]
theorem fz_pan (m : Nat) (H : List Blk) (c : Cn) (j : Nat) (h : j < m) : FzL m H (panC c j) (panC c j) = True := eq_true (FzL.refl (panC_bd h))
theorem new_sh (n : Nat) (e : Value) : (A.tup [.lp 3 0 0, .v e]).sh n = .tup [.lp (n + 3) 0 0, .v e] := rfl

theorem awake36_vr : VR P false n_law36_awake [] [] (isR (.v (.bool true))) := by
  refine vr_law36_awake (by simp) (.inr rfl) fun _ _ => ?_
  have h0 : pcheck exC = 0 := by decide +kernel
  have ok := cn_ok h0
  have a1 : ordL (cnP exC) (cnP exC).G.length = [[2], [3], [0, 1]] := by decide +kernel
  have b1 := controlOrder_ok (w := true) (v := true) h0
  rw [a1] at b1
  have b2 := controlNew_ok (w := true) (v := true) h0
  have b3 := refLists_vr (w := true) (v := false) (w' := true) (v' := false) [[2], [3], [0, 1]] [[2], [3], [0, 1]] (by decide) (by decide)
  rw [decide_eq_true rfl] at b3
  have hn : (cnP exC).n = 4 := rfl
  have e0 : List.replicate (cnP exC).n (0 : Int) = [0, 0, 0, 0] := rfl
  have c1 : startR (cnP exC) [0, 0, 0, 0] 0 = (13, [0, 0, 0, 0]) := by decide +kernel
  have c2 : startR (cnP exC) [0, 0, 0, 0] 2 = (0, [0, 0, 1, 0]) := by decide +kernel
  have c3 : startR (cnP exC) [0, 0, 1, 0] 3 = (0, [0, 0, 1, 1]) := by decide +kernel
  have c4 : startR (cnP exC) [0, 0, 1, 1] 1 = (0, [1, 1, 1, 1]) := by decide +kernel
  have c5 : jamR (cnP exC) [1, 1, 1, 1] 2 = (0, [0, 0, 2, 1]) := by decide +kernel
  have c6 : startR (cnP exC) [0, 0, 2, 1] 2 = (24, [0, 0, 2, 1]) := by decide +kernel
  have c7 : stateR (cnP exC) [0, 0, 2, 1] 2 = (2, 0) := by decide +kernel
  have c8 : stateR (cnP exC) [0, 0, 2, 1] 0 = (0, 0) := by decide +kernel
  have c9 : stateR (cnP exC) [0, 0, 2, 1] 3 = (1, 0) := by decide +kernel
  have c10 : clearR (cnP exC) [0, 0, 2, 1] 2 = (0, [0, 0, 0, 1]) := by decide +kernel
  have c11 : safeP (cnP exC) [0, 0, 0, 1] := by decide +kernel
  rw [e0] at b2
  unfold ordT at b1
  generalize hcc : cnP exC = c at *
  have hex := example36_vr
  generalize exC = p at *
  unfold plA plC at b1 b2 hex
  have ps : ∀ (st : List Int) (T : List Blk), st.length = 4 → PS ([⟨0, [.any, .any, .any, .any]⟩, ⟨0, [.any, .any]⟩, ⟨0, ints st⟩, ⟨0, panC c 2⟩] ++ T) 3 2 c st := fun st T h => ⟨by simp [blkAt], by simp [blkAt], by decide, by omega⟩
  have ps0 : ∀ (st : List Int), st.length = 4 → PS [⟨0, [.any, .any, .any, .any]⟩, ⟨0, [.any, .any]⟩, ⟨0, ints st⟩, ⟨0, panC c 2⟩] 3 2 c st := fun st h => ps st [] h
  simp (disch := ((try simp only [List.length_set, List.length_replicate, List.length_append, List.length_cons, List.length_nil]); omega)) only [aW, aX, aV, aB, aN, aL, aP, aH, aM, s_law36_awake, v_law36_awake]
  refine hex.same (by simp (disch := first | omega | simp (disch := omega) only [aF, aL, aN, aM]) only [aW, aX, aV, aB, aN, aL, aP, aH, aM, aF, Int.natCast_add, Int.natCast_mul, Int.add_sub_cancel, List.length_nil, Int.cast_ofNat_Int, and_true, true_and]) (by simp (disch := first | omega | simp (disch := omega) only [aF, aL, aN, aM]) only [aW, aX, aV, aB, aN, aL, aP, aH, aM, aF, Int.natCast_add, Int.natCast_mul, Int.add_sub_cancel, List.length_nil, Int.cast_ofNat_Int, and_true, true_and]) (aret_of ?_)
  simp (disch := ((try simp only [List.length_set, List.length_replicate, List.length_append, List.length_cons, List.length_nil]); omega)) only [aW, aX, aV, aB, aN, aL, aP, aH, aM]
  refine b1.same (by simp (disch := first | omega | simp (disch := omega) only [aF, aL, aN, aM]) only [aW, aX, aV, aB, aN, aL, aP, aH, aM, aF, Int.natCast_add, Int.natCast_mul, Int.add_sub_cancel, List.length_nil, Int.cast_ofNat_Int, and_true, true_and]) (by simp (disch := first | omega | simp (disch := omega) only [aF, aL, aN, aM]) only [aW, aX, aV, aB, aN, aL, aP, aH, aM, aF, Int.natCast_add, Int.natCast_mul, Int.add_sub_cancel, List.length_nil, Int.cast_ofNat_Int, and_true, true_and]) (aret_of ?_)
  simp (disch := ((try simp only [List.length_set, List.length_replicate, List.length_append, List.length_cons, List.length_nil]); omega)) only [aW, aX, aV, aB, aN, aL, aP, aH, aM]
  refine hex.same (by simp (disch := first | omega | simp (disch := omega) only [aF, aL, aN, aM]) only [aW, aX, aV, aB, aN, aL, aP, aH, aM, aF, Int.natCast_add, Int.natCast_mul, Int.add_sub_cancel, List.length_nil, Int.cast_ofNat_Int, and_true, true_and]) (by simp (disch := first | omega | simp (disch := omega) only [aF, aL, aN, aM]) only [aW, aX, aV, aB, aN, aL, aP, aH, aM, aF, Int.natCast_add, Int.natCast_mul, Int.add_sub_cancel, List.length_nil, Int.cast_ofNat_Int, and_true, true_and]) (aret_of ?_)
  simp (disch := ((try simp only [List.length_set, List.length_replicate, List.length_append, List.length_cons, List.length_nil]); omega)) only [aW, aX, aV, aB, aN, aL, aP, aH, aM]
  refine b2.useO (LdL.refl (by simp (disch := first | omega | simp (disch := omega) only [aF, aL, aN, aM]) only [aW, aX, aV, aB, aN, aL, aP, aH, aM, aF, Int.natCast_add, Int.natCast_mul, Int.add_sub_cancel, List.length_nil, Int.cast_ofNat_Int, and_true, true_and])) (by rw [panG_cl]; rfl) (aret_of ?_)
  rw [panG_sh, new_sh]
  simp (disch := ((try simp only [List.length_set, List.length_replicate, List.length_append, List.length_cons, List.length_nil]); omega)) only [aW, aX, aV, aB, aN, aL, aP, aH, aM]
  refine (start_ps ok (ps0 [0, 0, 0, 0] rfl) 0).mono ?_
  rintro r H' ⟨rfl, hH⟩
  rw [hH, c1]
  refine aret_of ?_
  simp (disch := ((try simp only [List.length_set, List.length_replicate, List.length_append, List.length_cons, List.length_nil]); omega)) only [aW, aX, aV, aB, aN, aL, aP, aH, aM]
  refine (start_ps ok (ps0 [0, 0, 0, 0] rfl) 2).mono ?_
  rintro r H' ⟨rfl, hH⟩
  rw [hH, c2]
  refine aret_of ?_
  simp (disch := ((try simp only [List.length_set, List.length_replicate, List.length_append, List.length_cons, List.length_nil]); omega)) only [aW, aX, aV, aB, aN, aL, aP, aH, aM]
  refine (start_ps ok (ps0 [0, 0, 1, 0] rfl) 3).mono ?_
  rintro r H' ⟨rfl, hH⟩
  rw [hH, c3]
  refine aret_of ?_
  simp (disch := ((try simp only [List.length_set, List.length_replicate, List.length_append, List.length_cons, List.length_nil]); omega)) only [aW, aX, aV, aB, aN, aL, aP, aH, aM]
  refine (start_ps ok (ps0 [0, 0, 1, 1] rfl) 1).mono ?_
  rintro r H' ⟨rfl, hH⟩
  rw [hH, c4]
  refine aret_of ?_
  simp (disch := ((try simp only [List.length_set, List.length_replicate, List.length_append, List.length_cons, List.length_nil]); omega)) only [aW, aX, aV, aB, aN, aL, aP, aH, aM]
  refine (jam_ps ok (ps0 [1, 1, 1, 1] rfl) 2).mono ?_
  rintro r H' ⟨rfl, hH⟩
  rw [hH, c5]
  refine aret_of ?_
  simp (disch := ((try simp only [List.length_set, List.length_replicate, List.length_append, List.length_cons, List.length_nil]); omega)) only [aW, aX, aV, aB, aN, aL, aP, aH, aM]
  refine (start_ps ok (ps0 [0, 0, 2, 1] rfl) 2).mono ?_
  rintro r H' ⟨rfl, hH⟩
  rw [hH, c6]
  refine aret_of ?_
  simp (disch := ((try simp only [List.length_set, List.length_replicate, List.length_append, List.length_cons, List.length_nil]); omega)) only [aW, aX, aV, aB, aN, aL, aP, aH, aM]
  refine (state_ps (ps0 [0, 0, 2, 1] rfl) 2).mono ?_
  rintro r H' ⟨rfl, hH⟩
  rw [hH, c7]
  refine aret_of ?_
  simp (disch := ((try simp only [List.length_set, List.length_replicate, List.length_append, List.length_cons, List.length_nil]); omega)) only [aW, aX, aV, aB, aN, aL, aP, aH, aM]
  refine (state_ps (ps0 [0, 0, 2, 1] rfl) 0).mono ?_
  rintro r H' ⟨rfl, hH⟩
  rw [hH, c8]
  refine aret_of ?_
  simp (disch := ((try simp only [List.length_set, List.length_replicate, List.length_append, List.length_cons, List.length_nil]); omega)) only [aW, aX, aV, aB, aN, aL, aP, aH, aM]
  refine (state_ps (ps0 [0, 0, 2, 1] rfl) 3).mono ?_
  rintro r H' ⟨rfl, hH⟩
  rw [hH, c9]
  refine aret_of ?_
  simp (disch := ((try simp only [List.length_set, List.length_replicate, List.length_append, List.length_cons, List.length_nil]); omega)) only [aW, aX, aV, aB, aN, aL, aP, aH, aM]
  refine b3.use ⟨Ld.refl (by simp (disch := first | omega | simp (disch := omega) only [aF, aL, aN, aM]) only [aW, aX, aV, aB, aN, aL, aP, aH, aM, aF, Int.natCast_add, Int.natCast_mul, Int.add_sub_cancel, List.length_nil, Int.cast_ofNat_Int, and_true, true_and]), (ld_all (l := [_]) (r := [_]) (by simp [frzL_nil, frzL_cons, fzp_any, fzp_nil, fzp_v, fzp_agg, fzp_tup, fzp_fn, fzp_fs, fzp_fp, fzp_sl, fzp_vs, fzp_lp, ldp_any, ldp_nil, ldp_v, ldp_agg, ldp_fn, ldp_fs, ldp_fp, ldp_sl, ldp_vs, ldp_lp, blkAt, flatA, A.cells, A.one, Lft.one, retA, A.bdL, A.bd, rows, ints])).1, trivial⟩ rfl (aret_of ?_)
  simp (disch := ((try simp only [List.length_set, List.length_replicate, List.length_append, List.length_cons, List.length_nil]); omega)) only [aW, aX, aV, aB, aN, aL, aP, aH, aM]
  refine (clear_ps (ps [0, 0, 2, 1] _ rfl) 2).mono ?_
  rintro r H' ⟨rfl, hH⟩
  rw [hH, c10]
  refine aret_of ?_
  simp (disch := ((try simp only [List.length_set, List.length_replicate, List.length_append, List.length_cons, List.length_nil]); omega)) only [aW, aX, aV, aB, aN, aL, aP, aH, aM]
  refine (safe_ps ok (ps [0, 0, 0, 1] _ rfl)).mono ?_
  rintro r H' ⟨rfl, hH⟩
  rw [hH, decide_eq_true c11]
  refine aret_of ?_
  simp (disch := ((try simp only [List.length_set, List.length_replicate, List.length_append, List.length_cons, List.length_nil]); omega)) only [aW, aX, aV, aB, aN, aL, aP, aH, aM, r_law36_awake]
  exact post_v ⟨rfl, rfl⟩

theorem ordL_rows {c : Cn} (ok : CnOk c) : (ordL c c.G.length).length ≤ 64 ∧ ∀ r ∈ ordL c c.G.length, r.length ≤ 64 := by
  refine ⟨by rw [ordL_len ok (Nat.le_refl _)]; exact ok.G1, fun r hr => ?_⟩
  unfold ordL at hr
  obtain ⟨i, hi, rfl⟩ := List.mem_map.1 hr
  by_cases h : i < c.G.length
  · exact ok.G2 h
  · rw [List.getD_eq_getElem?_getD, List.getElem?_eq_none (by omega)]; simp
end Go.Proofs.Ytfnghkmchlfooaa
namespace Go.Proofs.Ytfnghkmchlfooaa
open Go Go.Lft
set_option linter.unusedSimpArgs false
set_option linter.unusedVariables false
attribute [local congr] ob_congr bw_congr ib_congr ck_congr iwA_congr itA_congr aw_congr awp_congr sqA_congr bkA_congr vr_congr gd_congr

theorem ps4 (b b1 b2 : List A) (c : Cn) (st : List Int) (T : List Blk) (h : st.length = c.n) : PS (⟨0, b⟩ :: ⟨0, b1⟩ :: ⟨0, b2⟩ :: ⟨0, ints st⟩ :: ⟨0, panC c 3⟩ :: T) 4 3 c st := ⟨by simp [blkAt], by simp [blkAt], by decide, h⟩
theorem off_len (c : Cn) (l : List (Int × Int)) : (runR c (List.replicate c.n 0) l).length = c.n := by rw [runR_len]; simp

end Go.Proofs.Ytfnghkmchlfooaa
namespace Go.Proofs.Ytfnghkmchlfooaa
open Go Go.Lft
set_option linter.unusedSimpArgs false
set_option linter.unusedVariables false
attribute [local congr] ob_congr bw_congr ib_congr ck_congr iwA_congr itA_congr aw_congr awp_congr sqA_congr bkA_congr vr_congr gd_congr

theorem st_of {c : Cn} {st : List Int} {m : Int} (h0 : 0 ≤ m) (h1 : m < c.n) : stateR c st m = (st.getD m.toNat 0, 0) := by unfold stateR; rw [if_neg (by unfold Cn.bad; omega)]
theorem controlGroups_law (p : Pl) (l : List (Int × Int)) : VR P false n_law36_ControlGroups [plA true true p, .fs true (pairs l)] [] (isR (.v (.bool true))) := by
  refine vr_law36_ControlGroups (by simp) (.inr rfl) fun _ _ => ?_
  have hlg := large36_vr (w := true) (v := true) p
  unfold plA plC at hlg ⊢
  simp (disch := ((try simp only [List.length_set, List.length_replicate, List.length_append, List.length_cons, List.length_nil]); omega)) only [aW, aX, aV, aB, aN, aL, aP, aH, aM, s_law36_ControlGroups, v_law36_ControlGroups]
  refine hlg.useE (LdL.refl (by simp (disch := first | omega | simp (disch := omega) only [aF, aL, aN, aM]) only [aW, aX, aV, aB, aN, aL, aP, aH, aM, aF, Int.natCast_add, Int.natCast_mul, Int.add_sub_cancel, List.length_nil, Int.cast_ofNat_Int, and_true, true_and])) large36_c ?_
  rintro r ⟨_, b, rfl⟩
  refine aret_of ?_
  by_cases hb : b = true ∨ 60 < (l.length : Int)
  · have hb' : (b || decide (60 < (l.length : Int))) = true := by rcases hb with h | h <;> simp [h]
    simp (disch := ((try simp only [List.length_set, List.length_replicate, List.length_append, List.length_cons, List.length_nil]); omega)) only [aW, aX, aV, aB, aN, aL, aP, aH, aM, hb']
    refine awake36_vr.same (by simp (disch := first | omega | simp (disch := omega) only [aF, aL, aN, aM]) only [aW, aX, aV, aB, aN, aL, aP, aH, aM, aF, Int.natCast_add, Int.natCast_mul, Int.add_sub_cancel, List.length_nil, Int.cast_ofNat_Int, and_true, true_and]) rfl (aret_of ?_)
    simp (disch := ((try simp only [List.length_set, List.length_replicate, List.length_append, List.length_cons, List.length_nil]); omega)) only [aW, aX, aV, aB, aN, aL, aP, aH, aM, r_law36_ControlGroups]
    exact post_v ⟨rfl, rfl⟩
  have hb' : (b || decide (60 < (l.length : Int))) = false := by
    cases b with
    | true => exact absurd (.inl rfl) hb
    | false => simp; omega
  have hl60 : l.length ≤ 60 := by
    apply Classical.byContradiction; intro h; exact hb (.inr (by omega))
  by_cases h0 : pcheck p = 0
  case neg =>
    have hv := controlNew_err (w := true) (v := true) h0
    have hv2 := controlOrder_err (w := true) (v := true) h0
    unfold ordT at hv2
    unfold plA plC at hv hv2
    simp (disch := ((try simp only [List.length_set, List.length_replicate, List.length_append, List.length_cons, List.length_nil]); omega)) only [aW, aX, aV, aB, aN, aL, aP, aH, aM, hb']
    refine hv.same (by simp (disch := first | omega | simp (disch := omega) only [aF, aL, aN, aM]) only [aW, aX, aV, aB, aN, aL, aP, aH, aM, aF, Int.natCast_add, Int.natCast_mul, Int.add_sub_cancel, List.length_nil, Int.cast_ofNat_Int, and_true, true_and]) (by simp (disch := first | omega | simp (disch := omega) only [aF, aL, aN, aM]) only [aW, aX, aV, aB, aN, aL, aP, aH, aM, aF, Int.natCast_add, Int.natCast_mul, Int.add_sub_cancel, List.length_nil, Int.cast_ofNat_Int, and_true, true_and]) (aret_of ?_)
    simp (disch := ((try simp only [List.length_set, List.length_replicate, List.length_append, List.length_cons, List.length_nil]); omega)) only [aW, aX, aV, aB, aN, aL, aP, aH, aM]
    refine hv2.same (by simp (disch := first | omega | simp (disch := omega) only [aF, aL, aN, aM]) only [aW, aX, aV, aB, aN, aL, aP, aH, aM, aF, Int.natCast_add, Int.natCast_mul, Int.add_sub_cancel, List.length_nil, Int.cast_ofNat_Int, and_true, true_and]) (by simp (disch := first | omega | simp (disch := omega) only [aF, aL, aN, aM]) only [aW, aX, aV, aB, aN, aL, aP, aH, aM, aF, Int.natCast_add, Int.natCast_mul, Int.add_sub_cancel, List.length_nil, Int.cast_ofNat_Int, and_true, true_and]) (aret_of ?_)
    simp (disch := ((try simp only [List.length_set, List.length_replicate, List.length_append, List.length_cons, List.length_nil]); omega)) only [aW, aX, aV, aB, aN, aL, aP, aH, aM]
    refine awake36_vr.same (by simp (disch := first | omega | simp (disch := omega) only [aF, aL, aN, aM]) only [aW, aX, aV, aB, aN, aL, aP, aH, aM, aF, Int.natCast_add, Int.natCast_mul, Int.add_sub_cancel, List.length_nil, Int.cast_ofNat_Int, and_true, true_and]) rfl (aret_of ?_)
    simp (disch := ((try simp only [List.length_set, List.length_replicate, List.length_append, List.length_cons, List.length_nil]); omega)) only [aW, aX, aV, aB, aN, aL, aP, aH, aM, r_law36_ControlGroups]
    exact post_v ⟨rfl, rfl⟩
  have ok := cn_ok h0
  have hv := controlNew_ok (w := true) (v := true) h0
  have hv2 := controlOrder_ok (w := true) (v := true) h0
  unfold ordT at hv2
  unfold plA plC at hv hv2
  have hn : p.ms.length = (cnP p).n := rfl
  have n1 := ok.n1
  have harc := fun k (hk : k < p.bs.length) => arcsR_get p k hk
  have hal := arcsR_len p
  have hcl : arcsR p = (cnP p).l := rfl
  rw [hcl] at harc hal
  have l1 := ok.l1
  generalize cnP p = c at *
  simp (disch := ((try simp only [List.length_set, List.length_replicate, List.length_append, List.length_cons, List.length_nil]); omega)) only [aW, aX, aV, aB, aN, aL, aP, aH, aM, hb']
  refine hv.useO (LdL.refl (by simp (disch := first | omega | simp (disch := omega) only [aF, aL, aN, aM]) only [aW, aX, aV, aB, aN, aL, aP, aH, aM, aF, Int.natCast_add, Int.natCast_mul, Int.add_sub_cancel, List.length_nil, Int.cast_ofNat_Int, and_true, true_and])) (by rw [panG_cl]; rfl) (aret_of ?_)
  rw [panG_sh, new_sh]
  simp (disch := ((try simp only [List.length_set, List.length_replicate, List.length_append, List.length_cons, List.length_nil]); omega)) only [aW, aX, aV, aB, aN, aL, aP, aH, aM, hn]
  refine hv2.same (by simp (disch := first | omega | simp (disch := omega) only [aF, aL, aN, aM]) only [aW, aX, aV, aB, aN, aL, aP, aH, aM, aF, Int.natCast_add, Int.natCast_mul, Int.add_sub_cancel, List.length_nil, Int.cast_ofNat_Int, and_true, true_and]) (by simp (disch := first | omega | simp (disch := omega) only [aF, aL, aN, aM]) only [aW, aX, aV, aB, aN, aL, aP, aH, aM, aF, Int.natCast_add, Int.natCast_mul, Int.add_sub_cancel, List.length_nil, Int.cast_ofNat_Int, and_true, true_and]) (aret_of ?_)
  simp (disch := ((try simp only [List.length_set, List.length_replicate, List.length_append, List.length_cons, List.length_nil]); omega)) only [aW, aX, aV, aB, aN, aL, aP, aH, aM, hn]
  refine AWP.loopP g_law36_ControlGroups_0 (fun k : Nat => k ≤ l.length) (fun k => [(8, .v (.int .i64 k))]) (fun k => [(3, ⟨0, ints (runR c (List.replicate c.n 0) (l.take k))⟩)]) (fun k => l.length - k) 0 (by omega) ?_ ?_
  · have e0 : runR c (List.replicate c.n 0) (l.take 0) = List.replicate c.n 0 := by rw [List.take_zero]; rfl
    rw [e0]
    try simp (disch := ((try simp only [List.length_set, List.length_replicate, List.length_append, List.length_cons, List.length_nil]); omega)) only [aW, aX, aV, aB, aN, aL, aP, aH, aM]
    exact Cut.of' 5 rfl (by omega) (by simp (disch := first | omega | simp (disch := omega) only [aF, aL, aN, aM]) only [aW, aX, aV, aB, aN, aL, aP, aH, aM, aF, Int.natCast_add, Int.natCast_mul, Int.add_sub_cancel, List.length_nil, Int.cast_ofNat_Int, and_true, true_and, fz_pan]) (by simp (disch := first | omega | simp (disch := omega) only [aF, aL, aN, aM]) only [aW, aX, aV, aB, aN, aL, aP, aH, aM, aF, Int.natCast_add, Int.natCast_mul, Int.add_sub_cancel, List.length_nil, Int.cast_ofNat_Int, and_true, true_and])
  rintro k hk
  by_cases hlt : k < l.length
  · have hrt := runR_take c (List.replicate c.n 0) l k hlt
    have hol := off_len c (l.take k)
    simp (disch := ((try simp only [List.length_set, List.length_replicate, List.length_append, List.length_cons, List.length_nil]); omega)) only [aW, aX, aV, aB, aN, aL, aP, aH, aM]
    refine (do_ps ok (ps4 _ _ _ c _ [_] hol) (l.getD k (0, 0))).mono ?_
    rintro r H' ⟨rfl, hH⟩
    rw [hH, ← hrt]
    refine aret_of ?_
    simp (disch := ((try simp only [List.length_set, List.length_replicate, List.length_append, List.length_cons, List.length_nil]); omega)) only [aW, aX, aV, aB, aN, aL, aP, aH, aM]
    refine ⟨k + 1, by omega, by omega, ?_⟩
    exact Cut.of' 5 rfl (by omega) (by simp (disch := first | omega | simp (disch := omega) only [aF, aL, aN, aM]) only [aW, aX, aV, aB, aN, aL, aP, aH, aM, aF, Int.natCast_add, Int.natCast_mul, Int.add_sub_cancel, List.length_nil, Int.cast_ofNat_Int, and_true, true_and, fz_pan]) (by simp (disch := first | omega | simp (disch := omega) only [aF, aL, aN, aM]) only [aW, aX, aV, aB, aN, aL, aP, aH, aM, aF, Int.natCast_add, Int.natCast_mul, Int.add_sub_cancel, List.length_nil, Int.cast_ofNat_Int, and_true, true_and])
  have hke : k = l.length := by omega
  subst hke
  rw [List.take_length]
  have sl := off_len c l
  have inv := run_inv ok l off_inv
  generalize runR c (List.replicate c.n 0) l = st at *
  have hor := fun k hk => ord_row ok (k := k) hk
  have hnx := fun k hk => ord_next ok (k := k) hk
  have hnl := fun k => next_lt c (ordS c k).1
  obtain ⟨o1, o2⟩ := ordL_rows ok
  have o3 := ordL_len ok (Nat.le_refl _)
  generalize hOL : ordL c c.G.length = OL at *
  simp (disch := ((try simp only [List.length_set, List.length_replicate, List.length_append, List.length_cons, List.length_nil]); omega)) only [aW, aX, aV, aB, aN, aL, aP, aH, aM]
  refine AWP.loopP g_law36_ControlGroups_1 (fun k : Nat => k ≤ OL.length) (fun k => [(2, .v (.bool false)), (13, .v (.int .i64 k))]) (fun _ => []) (fun k => OL.length - k) 0 (by omega) ?_ ?_
  · exact Cut.of' 5 rfl (by omega) (by simp (disch := first | omega | simp (disch := omega) only [aF, aL, aN, aM]) only [aW, aX, aV, aB, aN, aL, aP, aH, aM, aF, Int.natCast_add, Int.natCast_mul, Int.add_sub_cancel, List.length_nil, Int.cast_ofNat_Int, and_true, true_and, fz_pan]) (by simp (disch := first | omega | simp (disch := omega) only [aF, aL, aN, aM]) only [aW, aX, aV, aB, aN, aL, aP, aH, aM, aF, Int.natCast_add, Int.natCast_mul, Int.add_sub_cancel, List.length_nil, Int.cast_ofNat_Int, and_true, true_and])
  rintro k hk
  by_cases hlt : k < OL.length
  · have hrow := hor k (by omega)
    have h1 := hnx k (by omega)
    have h2 := hnl k
    have hj : (nextG c (ordS c k).1).toNat < c.G.length := by omega
    have hr64 := o2 _ (mem_get [] hlt)
    have hrg := ok.gp.rng _ hj
    have huni := inv.uni _ hj
    rw [← hrow] at hrg huni
    generalize hr : OL.getD k [] = r at *
    obtain ⟨a, ha⟩ : ∃ a, a = decide (st.getD (r.getD 0 0).toNat 0 = 1) := ⟨_, rfl⟩
    simp (disch := ((try simp only [List.length_set, List.length_replicate, List.length_append, List.length_cons, List.length_nil]); omega)) only [aW, aX, aV, aB, aN, aL, aP, aH, aM, hr]
    refine AWP.loopP g_law36_ControlGroups_2 (fun j : Nat => j ≤ r.length) (fun j => [(2, .v (.bool false)), (18, .v (.int .i64 (if a = true then (j : Int) else 0))), (19, .v (.int .i64 j))]) (fun _ => []) (fun j => r.length - j) 0 (by omega) ?_ ?_
    · have e0 : (if a = true then ((0 : Nat) : Int) else 0) = 0 := by split <;> rfl
      rw [e0]
      try simp (disch := ((try simp only [List.length_set, List.length_replicate, List.length_append, List.length_cons, List.length_nil]); omega)) only [aW, aX, aV, aB, aN, aL, aP, aH, aM]
      exact Cut.of' 5 rfl (by omega) (by simp (disch := first | omega | simp (disch := omega) only [aF, aL, aN, aM]) only [aW, aX, aV, aB, aN, aL, aP, aH, aM, aF, Int.natCast_add, Int.natCast_mul, Int.add_sub_cancel, List.length_nil, Int.cast_ofNat_Int, and_true, true_and, fz_pan]) (by simp (disch := first | omega | simp (disch := omega) only [aF, aL, aN, aM]) only [aW, aX, aV, aB, aN, aL, aP, aH, aM, aF, Int.natCast_add, Int.natCast_mul, Int.add_sub_cancel, List.length_nil, Int.cast_ofNat_Int, and_true, true_and])
    rintro j hj2
    by_cases hjl : j < r.length
    · have hx := hrg _ (mem_get 0 hjl)
      have hs0 := st_of (c := c) (st := st) hx.1 hx.2
      simp (disch := ((try simp only [List.length_set, List.length_replicate, List.length_append, List.length_cons, List.length_nil]); omega)) only [aW, aX, aV, aB, aN, aL, aP, aH, aM, hr]
      refine (state_ps (ps4 _ _ _ c _ [] sl) (r.getD j 0)).mono ?_
      rintro q H' ⟨rfl, hH⟩
      rw [hH, hs0]
      refine aret_of ?_
      cases ha2 : a with
      | true =>
        rw [ha2] at ha
        have h3 := of_decide_eq_true ha.symm
        have h4 := huni _ (mem_get 0 (k := 0) (l := r) (by omega)) _ (mem_get 0 hjl) h3
        rw [h4]
        try simp only [if_true]
        simp (disch := ((try simp only [List.length_set, List.length_replicate, List.length_append, List.length_cons, List.length_nil]); omega)) only [aW, aX, aV, aB, aN, aL, aP, aH, aM, hr]
        refine ⟨j + 1, by omega, by omega, ?_⟩
        try simp only [if_true]
        exact Cut.of' 5 rfl (by omega) (by simp (disch := first | omega | simp (disch := omega) only [aF, aL, aN, aM]) only [aW, aX, aV, aB, aN, aL, aP, aH, aM, aF, Int.natCast_add, Int.natCast_mul, Int.add_sub_cancel, List.length_nil, Int.cast_ofNat_Int, and_true, true_and, fz_pan]) (by simp (disch := first | omega | simp (disch := omega) only [aF, aL, aN, aM]) only [aW, aX, aV, aB, aN, aL, aP, aH, aM, aF, Int.natCast_add, Int.natCast_mul, Int.add_sub_cancel, List.length_nil, Int.cast_ofNat_Int, and_true, true_and])
      | false =>
        rw [ha2] at ha
        have h3 := of_decide_eq_false ha.symm
        have h4 : ¬ st.getD (r.getD j 0).toNat 0 = 1 := fun h => h3 (huni _ (mem_get 0 hjl) _ (mem_get 0 (k := 0) (l := r) (by omega)) h)
        try simp only [Bool.false_eq_true, if_false]
        simp (disch := ((try simp only [List.length_set, List.length_replicate, List.length_append, List.length_cons, List.length_nil]); omega)) only [aW, aX, aV, aB, aN, aL, aP, aH, aM, hr, decide_eq_false h4]
        refine ⟨j + 1, by omega, by omega, ?_⟩
        try simp only [Bool.false_eq_true, if_false]
        exact Cut.of' 5 rfl (by omega) (by simp (disch := first | omega | simp (disch := omega) only [aF, aL, aN, aM]) only [aW, aX, aV, aB, aN, aL, aP, aH, aM, aF, Int.natCast_add, Int.natCast_mul, Int.add_sub_cancel, List.length_nil, Int.cast_ofNat_Int, and_true, true_and, fz_pan]) (by simp (disch := first | omega | simp (disch := omega) only [aF, aL, aN, aM]) only [aW, aX, aV, aB, aN, aL, aP, aH, aM, aF, Int.natCast_add, Int.natCast_mul, Int.add_sub_cancel, List.length_nil, Int.cast_ofNat_Int, and_true, true_and])
    · have hje : j = r.length := by omega
      subst hje
      cases a with
      | true =>
        simp only [if_true]
        by_cases hz : r.length = 0
        · simp (disch := ((try simp only [List.length_set, List.length_replicate, List.length_append, List.length_cons, List.length_nil]); omega)) only [aW, aX, aV, aB, aN, aL, aP, aH, aM, hr, hz]
          refine ⟨k + 1, by omega, by omega, ?_⟩
          exact Cut.of' 5 rfl (by omega) (by simp (disch := first | omega | simp (disch := omega) only [aF, aL, aN, aM]) only [aW, aX, aV, aB, aN, aL, aP, aH, aM, aF, Int.natCast_add, Int.natCast_mul, Int.add_sub_cancel, List.length_nil, Int.cast_ofNat_Int, and_true, true_and, fz_pan]) (by simp (disch := first | omega | simp (disch := omega) only [aF, aL, aN, aM]) only [aW, aX, aV, aB, aN, aL, aP, aH, aM, aF, Int.natCast_add, Int.natCast_mul, Int.add_sub_cancel, List.length_nil, Int.cast_ofNat_Int, and_true, true_and])
        · simp (disch := ((try simp only [List.length_set, List.length_replicate, List.length_append, List.length_cons, List.length_nil]); omega)) only [aW, aX, aV, aB, aN, aL, aP, aH, aM, hr]
          refine ⟨k + 1, by omega, by omega, ?_⟩
          exact Cut.of' 5 rfl (by omega) (by simp (disch := first | omega | simp (disch := omega) only [aF, aL, aN, aM]) only [aW, aX, aV, aB, aN, aL, aP, aH, aM, aF, Int.natCast_add, Int.natCast_mul, Int.add_sub_cancel, List.length_nil, Int.cast_ofNat_Int, and_true, true_and, fz_pan]) (by simp (disch := first | omega | simp (disch := omega) only [aF, aL, aN, aM]) only [aW, aX, aV, aB, aN, aL, aP, aH, aM, aF, Int.natCast_add, Int.natCast_mul, Int.add_sub_cancel, List.length_nil, Int.cast_ofNat_Int, and_true, true_and])
      | false =>
        simp only [Bool.false_eq_true, if_false]
        simp (disch := ((try simp only [List.length_set, List.length_replicate, List.length_append, List.length_cons, List.length_nil]); omega)) only [aW, aX, aV, aB, aN, aL, aP, aH, aM, hr]
        refine ⟨k + 1, by omega, by omega, ?_⟩
        exact Cut.of' 5 rfl (by omega) (by simp (disch := first | omega | simp (disch := omega) only [aF, aL, aN, aM]) only [aW, aX, aV, aB, aN, aL, aP, aH, aM, aF, Int.natCast_add, Int.natCast_mul, Int.add_sub_cancel, List.length_nil, Int.cast_ofNat_Int, and_true, true_and, fz_pan]) (by simp (disch := first | omega | simp (disch := omega) only [aF, aL, aN, aM]) only [aW, aX, aV, aB, aN, aL, aP, aH, aM, aF, Int.natCast_add, Int.natCast_mul, Int.add_sub_cancel, List.length_nil, Int.cast_ofNat_Int, and_true, true_and])
  · simp (disch := ((try simp only [List.length_set, List.length_replicate, List.length_append, List.length_cons, List.length_nil]); omega)) only [aW, aX, aV, aB, aN, aL, aP, aH, aM]
    refine awake36_vr.same (by simp (disch := first | omega | simp (disch := omega) only [aF, aL, aN, aM]) only [aW, aX, aV, aB, aN, aL, aP, aH, aM, aF, Int.natCast_add, Int.natCast_mul, Int.add_sub_cancel, List.length_nil, Int.cast_ofNat_Int, and_true, true_and]) rfl (aret_of ?_)
    simp (disch := ((try simp only [List.length_set, List.length_replicate, List.length_append, List.length_cons, List.length_nil]); omega)) only [aW, aX, aV, aB, aN, aL, aP, aH, aM, r_law36_ControlGroups]
    exact post_v ⟨rfl, rfl⟩

end Go.Proofs.Ytfnghkmchlfooaa
