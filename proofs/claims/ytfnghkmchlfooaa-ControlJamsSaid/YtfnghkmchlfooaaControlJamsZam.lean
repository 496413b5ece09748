/- Lemmas and walks that the proof of ControlJams uses. No statement is claimed here. -/
import Derived.Test.YtfnghkmchlfooaaControlJamsZal
namespace Go.Proofs.Ytfnghkmchlfooaa
open Go Go.Lft
set_option linter.unusedSimpArgs false
set_option linter.unusedVariables false
attribute [local congr] ob_congr bw_congr ib_congr ck_congr iwA_congr itA_congr aw_congr awp_congr sqA_congr bkA_congr vr_congr gd_congr

theorem large36_vr {w v : Bool} (p : Pl) : VR P false n_ref36_Large [plA w v p] [] (fun r G => G = [] ∧ ∃ b : Bool, r = .v (.bool b)) := by
  refine vr_ref36_Large (by simp) (.inr rfl) fun _ _ => ?_
  unfold plA plC
  simp (disch := ((try simp only [List.length_set, List.length_replicate, List.length_append, List.length_cons, List.length_nil]); omega)) only [aW, aX, aV, aB, aN, aL, aP, aH, aM, s_ref36_Large, v_ref36_Large]
  refine ib_intro (fun h1 => ?_) (fun h1 => ?_)
  · simp (disch := ((try simp only [List.length_set, List.length_replicate, List.length_append, List.length_cons, List.length_nil]); omega)) only [aW, aX, aV, aB, aN, aL, aP, aH, aM, r_ref36_Large]
    exact post_v ⟨rfl, _, rfl⟩
  simp (disch := ((try simp only [List.length_set, List.length_replicate, List.length_append, List.length_cons, List.length_nil]); omega)) only [aW, aX, aV, aB, aN, aL, aP, aH, aM]
  refine AWP.loopP g_ref36_Large_0 (fun k : Nat => k ≤ p.ms.length) (fun k => [(1, .v (.bool false)), (3, .v (.int .i64 k))]) (fun _ => []) (fun k => p.ms.length - k) 0 (by omega) ?_ ?_
  · exact Cut.of' 1 rfl (by omega) (by simp (disch := first | omega | simp (disch := omega) only [aF, aL, aN, aM]) only [aW, aX, aV, aB, aN, aL, aP, aH, aM, aF, Int.natCast_add, Int.natCast_mul, Int.add_sub_cancel, List.length_nil, Int.cast_ofNat_Int, and_true, true_and]) (by simp (disch := first | omega | simp (disch := omega) only [aF, aL, aN, aM]) only [aW, aX, aV, aB, aN, aL, aP, aH, aM, aF, Int.natCast_add, Int.natCast_mul, Int.add_sub_cancel, List.length_nil, Int.cast_ofNat_Int, and_true, true_and])
  rintro k hk
  by_cases hlt : k < p.ms.length
  · simp (disch := ((try simp only [List.length_set, List.length_replicate, List.length_append, List.length_cons, List.length_nil]); omega)) only [aW, aX, aV, aB, aN, aL, aP, aH, aM]
    refine ib_intro (fun h2 => ?_) (fun h2 => ?_)
    · simp (disch := ((try simp only [List.length_set, List.length_replicate, List.length_append, List.length_cons, List.length_nil]); omega)) only [aW, aX, aV, aB, aN, aL, aP, aH, aM, r_ref36_Large]
      exact post_v ⟨rfl, _, rfl⟩
    simp (disch := ((try simp only [List.length_set, List.length_replicate, List.length_append, List.length_cons, List.length_nil]); omega)) only [aW, aX, aV, aB, aN, aL, aP, aH, aM]
    refine AWP.loopP g_ref36_Large_1 (fun j : Nat => j ≤ (p.ms.getD k []).length) (fun j => [(1, .v (.bool false)), (8, .v (.int .i64 j))]) (fun _ => []) (fun j => (p.ms.getD k []).length - j) 0 (by omega) ?_ ?_
    · exact Cut.of' 2 rfl (by omega) (by simp (disch := first | omega | simp (disch := omega) only [aF, aL, aN, aM]) only [aW, aX, aV, aB, aN, aL, aP, aH, aM, aF, Int.natCast_add, Int.natCast_mul, Int.add_sub_cancel, List.length_nil, Int.cast_ofNat_Int, and_true, true_and]) (by simp (disch := first | omega | simp (disch := omega) only [aF, aL, aN, aM]) only [aW, aX, aV, aB, aN, aL, aP, aH, aM, aF, Int.natCast_add, Int.natCast_mul, Int.add_sub_cancel, List.length_nil, Int.cast_ofNat_Int, and_true, true_and])
    rintro j hj
    by_cases hjl : j < (p.ms.getD k []).length
    · simp (disch := ((try simp only [List.length_set, List.length_replicate, List.length_append, List.length_cons, List.length_nil]); omega)) only [aW, aX, aV, aB, aN, aL, aP, aH, aM]
      refine ib_intro (fun h3 => ?_) (fun h3 => ?_)
      · simp (disch := ((try simp only [List.length_set, List.length_replicate, List.length_append, List.length_cons, List.length_nil]); omega)) only [aW, aX, aV, aB, aN, aL, aP, aH, aM, r_ref36_Large]
        exact post_v ⟨rfl, _, rfl⟩
      · simp (disch := ((try simp only [List.length_set, List.length_replicate, List.length_append, List.length_cons, List.length_nil]); omega)) only [aW, aX, aV, aB, aN, aL, aP, aH, aM]
        refine ⟨j + 1, by omega, by omega, ?_⟩
        exact Cut.of' 2 rfl (by omega) (by simp (disch := first | omega | simp (disch := omega) only [aF, aL, aN, aM]) only [aW, aX, aV, aB, aN, aL, aP, aH, aM, aF, Int.natCast_add, Int.natCast_mul, Int.add_sub_cancel, List.length_nil, Int.cast_ofNat_Int, and_true, true_and]) (by simp (disch := first | omega | simp (disch := omega) only [aF, aL, aN, aM]) only [aW, aX, aV, aB, aN, aL, aP, aH, aM, aF, Int.natCast_add, Int.natCast_mul, Int.add_sub_cancel, List.length_nil, Int.cast_ofNat_Int, and_true, true_and])
    · simp (disch := ((try simp only [List.length_set, List.length_replicate, List.length_append, List.length_cons, List.length_nil]); omega)) only [aW, aX, aV, aB, aN, aL, aP, aH, aM]
      refine ⟨k + 1, by omega, by omega, ?_⟩
      exact Cut.of' 1 rfl (by omega) (by simp (disch := first | omega | simp (disch := omega) only [aF, aL, aN, aM]) only [aW, aX, aV, aB, aN, aL, aP, aH, aM, aF, Int.natCast_add, Int.natCast_mul, Int.add_sub_cancel, List.length_nil, Int.cast_ofNat_Int, and_true, true_and]) (by simp (disch := first | omega | simp (disch := omega) only [aF, aL, aN, aM]) only [aW, aX, aV, aB, aN, aL, aP, aH, aM, aF, Int.natCast_add, Int.natCast_mul, Int.add_sub_cancel, List.length_nil, Int.cast_ofNat_Int, and_true, true_and])
  · simp (disch := ((try simp only [List.length_set, List.length_replicate, List.length_append, List.length_cons, List.length_nil]); omega)) only [aW, aX, aV, aB, aN, aL, aP, aH, aM, r_ref36_Large]
    exact post_v ⟨rfl, _, rfl⟩
theorem large36_c (r : A) (G : List Blk) (h : G = [] ∧ ∃ b : Bool, r = .v (.bool b)) : G = [] ∧ (r.cl && r.bd 0) = true := by
  obtain ⟨h1, b, rfl⟩ := h; exact ⟨h1, rfl⟩

def exC : Pl := ⟨1, [[[600, 400]], [[600, 400]], [[]], [[]]], [⟨0, 0, 1, 1⟩, ⟨0, 1, 2, 1⟩, ⟨1, 0, 0, 1⟩, ⟨1, 1, 3, 1⟩], 0⟩
theorem example36_vr : VR P false n_law36_example [] [] (isR (plA true true exC)) := by
  refine vr_law36_example (by simp) (.inr rfl) fun _ _ => ?_
  simp (disch := ((try simp only [List.length_set, List.length_replicate, List.length_append, List.length_cons, List.length_nil]); omega)) only [aW, aX, aV, aB, aN, aL, aP, aH, aM, s_law36_example, v_law36_example, r_law36_example]
  refine post0 (fz_all ?_) ⟨rfl, rfl⟩
  simp [frzL_nil, frzL_cons, fzp_any, fzp_nil, fzp_v, fzp_agg, fzp_tup, fzp_fn, fzp_fs, fzp_fp, fzp_sl, fzp_vs, fzp_lp, ldp_any, ldp_nil, ldp_v, ldp_agg, ldp_fn, ldp_fs, ldp_fp, ldp_sl, ldp_vs, ldp_lp, blkAt, flatA, A.cells, A.one, Lft.one, retA, A.bdL, A.bd, exC, plA, plC, mcs, mcA, mcC, bts, btA, btC, rows, ints]
theorem panC_bd {n : Nat} {c : Cn} {j : Nat} (h : j < n) : A.bdL n (panC c j) = true := by
  simp [panC, A.bdL, A.bd, p_bd, r_bd, ii_bd, h]
theorem fz_pan (m : Nat) (H : List Blk) (c : Cn) (j : Nat) (h : j < m) : FzL m H (panC c j) (panC c j) = True := eq_true (FzL.refl (panC_bd h))
theorem new_sh (n : Nat) (e : Value) : (A.tup [.lp 3 0 0, .v e]).sh n = .tup [.lp (n + 3) 0 0, .v e] := rfl

theorem awake36_vr : VR P false n_law36_awake [] [] (isR (.v (.bool true))) := by
  refine vr_law36_awake (by simp) (.inr rfl) fun _ _ => ?_
  have h0 : pcheck exC = 0 := by decide +kernel
  have ok := cn_ok h0
  have a1 : ordL (cnP exC) (cnP exC).G.length = [[2], [3], [0, 1]] := by decide +kernel
  have b1 := controlOrder_ok (w := true) (v := true) h0
  rw [a1] at b1
  have b2 := controlNew_ok (w := true) (v := true) h0
  have b3 := refLists_vr (w := true) (v := false) (w' := true) (v' := false) [[2], [3], [0, 1]] [[2], [3], [0, 1]] (by decide) (by decide)
  rw [decide_eq_true rfl] at b3
  have hn : (cnP exC).n = 4 := rfl
  have e0 : List.replicate (cnP exC).n (0 : Int) = [0, 0, 0, 0] := rfl
  have c1 : startR (cnP exC) [0, 0, 0, 0] 0 = (13, [0, 0, 0, 0]) := by decide +kernel
  have c2 : startR (cnP exC) [0, 0, 0, 0] 2 = (0, [0, 0, 1, 0]) := by decide +kernel
  have c3 : startR (cnP exC) [0, 0, 1, 0] 3 = (0, [0, 0, 1, 1]) := by decide +kernel
  have c4 : startR (cnP exC) [0, 0, 1, 1] 1 = (0, [1, 1, 1, 1]) := by decide +kernel
  have c5 : jamR (cnP exC) [1, 1, 1, 1] 2 = (0, [0, 0, 2, 1]) := by decide +kernel
  have c6 : startR (cnP exC) [0, 0, 2, 1] 2 = (24, [0, 0, 2, 1]) := by decide +kernel
  have c7 : stateR (cnP exC) [0, 0, 2, 1] 2 = (2, 0) := by decide +kernel
  have c8 : stateR (cnP exC) [0, 0, 2, 1] 0 = (0, 0) := by decide +kernel
  have c9 : stateR (cnP exC) [0, 0, 2, 1] 3 = (1, 0) := by decide +kernel
  have c10 : clearR (cnP exC) [0, 0, 2, 1] 2 = (0, [0, 0, 0, 1]) := by decide +kernel
  have c11 : safeP (cnP exC) [0, 0, 0, 1] := by decide +kernel
  rw [e0] at b2
  unfold ordT at b1
  generalize hcc : cnP exC = c at *
  have hex := example36_vr
  generalize exC = p at *
  unfold plA plC at b1 b2 hex
  have ps : ∀ (st : List Int) (T : List Blk), st.length = 4 → PS ([⟨0, [.any, .any, .any, .any]⟩, ⟨0, [.any, .any]⟩, ⟨0, ints st⟩, ⟨0, panC c 2⟩] ++ T) 3 2 c st := fun st T h => ⟨by simp [blkAt], by simp [blkAt], by decide, by omega⟩
  have ps0 : ∀ (st : List Int), st.length = 4 → PS [⟨0, [.any, .any, .any, .any]⟩, ⟨0, [.any, .any]⟩, ⟨0, ints st⟩, ⟨0, panC c 2⟩] 3 2 c st := fun st h => ps st [] h
  simp (disch := ((try simp only [List.length_set, List.length_replicate, List.length_append, List.length_cons, List.length_nil]); omega)) only [aW, aX, aV, aB, aN, aL, aP, aH, aM, s_law36_awake, v_law36_awake]
  refine hex.same (by simp (disch := first | omega | simp (disch := omega) only [aF, aL, aN, aM]) only [aW, aX, aV, aB, aN, aL, aP, aH, aM, aF, Int.natCast_add, Int.natCast_mul, Int.add_sub_cancel, List.length_nil, Int.cast_ofNat_Int, and_true, true_and]) (by simp (disch := first | omega | simp (disch := omega) only [aF, aL, aN, aM]) only [aW, aX, aV, aB, aN, aL, aP, aH, aM, aF, Int.natCast_add, Int.natCast_mul, Int.add_sub_cancel, List.length_nil, Int.cast_ofNat_Int, and_true, true_and]) (aret_of ?_)
  simp (disch := ((try simp only [List.length_set, List.length_replicate, List.length_append, List.length_cons, List.length_nil]); omega)) only [aW, aX, aV, aB, aN, aL, aP, aH, aM]
  refine b1.same (by simp (disch := first | omega | simp (disch := omega) only [aF, aL, aN, aM]) only [aW, aX, aV, aB, aN, aL, aP, aH, aM, aF, Int.natCast_add, Int.natCast_mul, Int.add_sub_cancel, List.length_nil, Int.cast_ofNat_Int, and_true, true_and]) (by simp (disch := first | omega | simp (disch := omega) only [aF, aL, aN, aM]) only [aW, aX, aV, aB, aN, aL, aP, aH, aM, aF, Int.natCast_add, Int.natCast_mul, Int.add_sub_cancel, List.length_nil, Int.cast_ofNat_Int, and_true, true_and]) (aret_of ?_)
  simp (disch := ((try simp only [List.length_set, List.length_replicate, List.length_append, List.length_cons, List.length_nil]); omega)) only [aW, aX, aV, aB, aN, aL, aP, aH, aM]
  refine hex.same (by simp (disch := first | omega | simp (disch := omega) only [aF, aL, aN, aM]) only [aW, aX, aV, aB, aN, aL, aP, aH, aM, aF, Int.natCast_add, Int.natCast_mul, Int.add_sub_cancel, List.length_nil, Int.cast_ofNat_Int, and_true, true_and]) (by simp (disch := first | omega | simp (disch := omega) only [aF, aL, aN, aM]) only [aW, aX, aV, aB, aN, aL, aP, aH, aM, aF, Int.natCast_add, Int.natCast_mul, Int.add_sub_cancel, List.length_nil, Int.cast_ofNat_Int, and_true, true_and]) (aret_of ?_)
  simp (disch := ((try simp only [List.length_set, List.length_replicate, List.length_append, List.length_cons, List.length_nil]); omega)) only [aW, aX, aV, aB, aN, aL, aP, aH, aM]
  refine b2.useO (LdL.refl (by simp (disch := first | omega | simp (disch := omega) only [aF, aL, aN, aM]) only [aW, aX, aV, aB, aN, aL, aP, aH, aM, aF, Int.natCast_add, Int.natCast_mul, Int.add_sub_cancel, List.length_nil, Int.cast_ofNat_Int, and_true, true_and])) (by rw [panG_cl]; rfl) (aret_of ?_)
  rw [panG_sh, new_sh]
  simp (disch := ((try simp only [List.length_set, List.length_replicate, List.length_append, List.length_cons, List.length_nil]); omega)) only [aW, aX, aV, aB, aN, aL, aP, aH, aM]
  refine (start_ps ok (ps0 [0, 0, 0, 0] rfl) 0).mono ?_
  rintro r H' ⟨rfl, hH⟩
  rw [hH, c1]
  refine aret_of ?_
  simp (disch := ((try simp only [List.length_set, List.length_replicate, List.length_append, List.length_cons, List.length_nil]); omega)) only [aW, aX, aV, aB, aN, aL, aP, aH, aM]
  refine (start_ps ok (ps0 [0, 0, 0, 0] rfl) 2).mono ?_
  rintro r H' ⟨rfl, hH⟩
  rw [hH, c2]
  refine aret_of ?_
  simp (disch := ((try simp only [List.length_set, List.length_replicate, List.length_append, List.length_cons, List.length_nil]); omega)) only [aW, aX, aV, aB, aN, aL, aP, aH, aM]
  refine (start_ps ok (ps0 [0, 0, 1, 0] rfl) 3).mono ?_
  rintro r H' ⟨rfl, hH⟩
  rw [hH, c3]
  refine aret_of ?_
  simp (disch := ((try simp only [List.length_set, List.length_replicate, List.length_append, List.length_cons, List.length_nil]); omega)) only [aW, aX, aV, aB, aN, aL, aP, aH, aM]
  refine (start_ps ok (ps0 [0, 0, 1, 1] rfl) 1).mono ?_
  rintro r H' ⟨rfl, hH⟩
  rw [hH, c4]
  refine aret_of ?_
  simp (disch := ((try simp only [List.length_set, List.length_replicate, List.length_append, List.length_cons, List.length_nil]); omega)) only [aW, aX, aV, aB, aN, aL, aP, aH, aM]
  refine (jam_ps ok (ps0 [1, 1, 1, 1] rfl) 2).mono ?_
  rintro r H' ⟨rfl, hH⟩
  rw [hH, c5]
  refine aret_of ?_
  simp (disch := ((try simp only [List.length_set, List.length_replicate, List.length_append, List.length_cons, List.length_nil]); omega)) only [aW, aX, aV, aB, aN, aL, aP, aH, aM]
  refine (start_ps ok (ps0 [0, 0, 2, 1] rfl) 2).mono ?_
  rintro r H' ⟨rfl, hH⟩
  rw [hH, c6]
  refine aret_of ?_
  simp (disch := ((try simp only [List.length_set, List.length_replicate, List.length_append, List.length_cons, List.length_nil]); omega)) only [aW, aX, aV, aB, aN, aL, aP, aH, aM]
  refine (state_ps (ps0 [0, 0, 2, 1] rfl) 2).mono ?_
  rintro r H' ⟨rfl, hH⟩
  rw [hH, c7]
  refine aret_of ?_
  simp (disch := ((try simp only [List.length_set, List.length_replicate, List.length_append, List.length_cons, List.length_nil]); omega)) only [aW, aX, aV, aB, aN, aL, aP, aH, aM]
  refine (state_ps (ps0 [0, 0, 2, 1] rfl) 0).mono ?_
  rintro r H' ⟨rfl, hH⟩
  rw [hH, c8]
  refine aret_of ?_
  simp (disch := ((try simp only [List.length_set, List.length_replicate, List.length_append, List.length_cons, List.length_nil]); omega)) only [aW, aX, aV, aB, aN, aL, aP, aH, aM]
  refine (state_ps (ps0 [0, 0, 2, 1] rfl) 3).mono ?_
  rintro r H' ⟨rfl, hH⟩
  rw [hH, c9]
  refine aret_of ?_
  simp (disch := ((try simp only [List.length_set, List.length_replicate, List.length_append, List.length_cons, List.length_nil]); omega)) only [aW, aX, aV, aB, aN, aL, aP, aH, aM]
  refine b3.use ⟨Ld.refl (by simp (disch := first | omega | simp (disch := omega) only [aF, aL, aN, aM]) only [aW, aX, aV, aB, aN, aL, aP, aH, aM, aF, Int.natCast_add, Int.natCast_mul, Int.add_sub_cancel, List.length_nil, Int.cast_ofNat_Int, and_true, true_and]), (ld_all (l := [_]) (r := [_]) (by simp [frzL_nil, frzL_cons, fzp_any, fzp_nil, fzp_v, fzp_agg, fzp_tup, fzp_fn, fzp_fs, fzp_fp, fzp_sl, fzp_vs, fzp_lp, ldp_any, ldp_nil, ldp_v, ldp_agg, ldp_fn, ldp_fs, ldp_fp, ldp_sl, ldp_vs, ldp_lp, blkAt, flatA, A.cells, A.one, Lft.one, retA, A.bdL, A.bd, rows, ints])).1, trivial⟩ rfl (aret_of ?_)
  simp (disch := ((try simp only [List.length_set, List.length_replicate, List.length_append, List.length_cons, List.length_nil]); omega)) only [aW, aX, aV, aB, aN, aL, aP, aH, aM]
  refine (clear_ps (ps [0, 0, 2, 1] _ rfl) 2).mono ?_
  rintro r H' ⟨rfl, hH⟩
  rw [hH, c10]
  refine aret_of ?_
  simp (disch := ((try simp only [List.length_set, List.length_replicate, List.length_append, List.length_cons, List.length_nil]); omega)) only [aW, aX, aV, aB, aN, aL, aP, aH, aM]
  refine (safe_ps ok (ps [0, 0, 0, 1] _ rfl)).mono ?_
  rintro r H' ⟨rfl, hH⟩
  rw [hH, decide_eq_true c11]
  refine aret_of ?_
  simp (disch := ((try simp only [List.length_set, List.length_replicate, List.length_append, List.length_cons, List.length_nil]); omega)) only [aW, aX, aV, aB, aN, aL, aP, aH, aM, r_law36_awake]
  exact post_v ⟨rfl, rfl⟩

end Go.Proofs.Ytfnghkmchlfooaa
namespace Go.Proofs.Ytfnghkmchlfooaa
open Go Go.Lft
set_option linter.unusedSimpArgs false
set_option linter.unusedVariables false
attribute [local congr] ob_congr bw_congr ib_congr ck_congr iwA_congr itA_congr aw_congr awp_congr sqA_congr bkA_congr vr_congr gd_congr

theorem ps4 (b b1 b2 : List A) (c : Cn) (st : List Int) (T : List Blk) (h : st.length = c.n) : PS (⟨0, b⟩ :: ⟨0, b1⟩ :: ⟨0, b2⟩ :: ⟨0, ints st⟩ :: ⟨0, panC c 3⟩ :: T) 4 3 c st := ⟨by simp [blkAt], by simp [blkAt], by decide, h⟩
theorem off_len (c : Cn) (l : List (Int × Int)) : (runR c (List.replicate c.n 0) l).length = c.n := by rw [runR_len]; simp

theorem mem_grp {c : Cn} (ok : CnOk c) {m : Int} (h0 : 0 ≤ m) (h1 : m < c.n) : m ∈ grp c.G m := (ofN_mem ok.gp h0 h1).2.2
theorem jam_at {c : Cn} {st : List Int} (sl : st.length = c.n) {m : Int} (h0 : 0 ≤ m) (h1 : m < c.n) : ((stopL c st m).set m.toNat 2).getD m.toNat 0 = 2 := by
  rw [getD_setC, if_pos ⟨rfl, by rw [stopL_len]; omega⟩]
theorem jam_facts {c : Cn} (ok : CnOk c) {st : List Int} (sl : st.length = c.n) {m : Int} (h0 : 0 ≤ m) (h1 : m < c.n) :
    ∃ J J2 J3, J.length = c.n ∧ J2.length = c.n ∧ J3.length = c.n ∧ jamR c st m = (0, J) ∧ stateR c J m = (2, 0) ∧ startR c J m = (24, J) ∧ jamR c J m = (0, J2) ∧ clearR c J2 m = (0, J3) ∧ stateR c J3 m = (0, 0) ∧ clearR c J3 m = (13, J3) := by
  have hb : ¬ c.bad m := by unfold Cn.bad; omega
  refine ⟨(stopL c st m).set m.toNat 2, (stopL c ((stopL c st m).set m.toNat 2) m).set m.toNat 2, ((stopL c ((stopL c st m).set m.toNat 2) m).set m.toNat 2).set m.toNat 0, by simp [stopL_len, sl], by simp [stopL_len, sl], by simp [stopL_len, sl], ?_, ?_, ?_, ?_, ?_, ?_, ?_⟩
  · unfold jamR; rw [if_neg hb]
  · unfold stateR; rw [if_neg hb, jam_at sl h0 h1]
  · unfold startR; rw [if_neg hb, if_pos ⟨m, mem_grp ok h0 h1, jam_at sl h0 h1⟩]
  · unfold jamR; rw [if_neg hb]
  · unfold clearR; rw [if_neg hb, if_neg (by rw [jam_at (by simp [stopL_len, sl]) h0 h1]; simp)]
  · unfold stateR; rw [if_neg hb, getD_setC, if_pos ⟨rfl, by simp [stopL_len, sl]; omega⟩]
  · unfold clearR; rw [if_neg hb, if_pos (by rw [getD_setC, if_pos ⟨rfl, by simp [stopL_len, sl]; omega⟩]; omega)]

theorem controlJams_vr (p : Pl) (l : List (Int × Int)) (m : Int) (hm : 0 ≤ m ∧ m ≤ 255) : VR P false n_law36_ControlJams [plA true true p, .fs true (pairs l), .v (.int .u8 m)] [] (isR (.v (.bool true))) := by
  refine vr_law36_ControlJams (by simp) (.inr rfl) fun _ _ => ?_
  have hlg := large36_vr (w := true) (v := true) p
  unfold plA plC at hlg ⊢
  simp (disch := ((try simp only [List.length_set, List.length_replicate, List.length_append, List.length_cons, List.length_nil]); omega)) only [aW, aX, aV, aB, aN, aL, aP, aH, aM, s_law36_ControlJams, v_law36_ControlJams]
  refine hlg.useE (LdL.refl (by simp (disch := first | omega | simp (disch := omega) only [aF, aL, aN, aM]) only [aW, aX, aV, aB, aN, aL, aP, aH, aM, aF, Int.natCast_add, Int.natCast_mul, Int.add_sub_cancel, List.length_nil, Int.cast_ofNat_Int, and_true, true_and])) large36_c ?_
  rintro r ⟨_, b, rfl⟩
  refine aret_of ?_
  by_cases hb : b = true ∨ 60 < (l.length : Int)
  · have hb' : (b || decide (60 < (l.length : Int))) = true := by rcases hb with h | h <;> simp [h]
    simp (disch := ((try simp only [List.length_set, List.length_replicate, List.length_append, List.length_cons, List.length_nil]); omega)) only [aW, aX, aV, aB, aN, aL, aP, aH, aM, hb']
    refine awake36_vr.same (by simp (disch := first | omega | simp (disch := omega) only [aF, aL, aN, aM]) only [aW, aX, aV, aB, aN, aL, aP, aH, aM, aF, Int.natCast_add, Int.natCast_mul, Int.add_sub_cancel, List.length_nil, Int.cast_ofNat_Int, and_true, true_and]) rfl (aret_of ?_)
    simp (disch := ((try simp only [List.length_set, List.length_replicate, List.length_append, List.length_cons, List.length_nil]); omega)) only [aW, aX, aV, aB, aN, aL, aP, aH, aM, r_law36_ControlJams]
    exact post_v ⟨rfl, rfl⟩
  have hb' : (b || decide (60 < (l.length : Int))) = false := by
    cases b with
    | true => exact absurd (.inl rfl) hb
    | false => simp; omega
  have hl60 : l.length ≤ 60 := by
    apply Classical.byContradiction; intro h; exact hb (.inr (by omega))
  by_cases h0 : pcheck p = 0
  case neg =>
    have hv := controlNew_err (w := true) (v := true) h0
    unfold plA plC at hv
    simp (disch := ((try simp only [List.length_set, List.length_replicate, List.length_append, List.length_cons, List.length_nil]); omega)) only [aW, aX, aV, aB, aN, aL, aP, aH, aM, hb']
    refine hv.same (by simp (disch := first | omega | simp (disch := omega) only [aF, aL, aN, aM]) only [aW, aX, aV, aB, aN, aL, aP, aH, aM, aF, Int.natCast_add, Int.natCast_mul, Int.add_sub_cancel, List.length_nil, Int.cast_ofNat_Int, and_true, true_and]) (by simp (disch := first | omega | simp (disch := omega) only [aF, aL, aN, aM]) only [aW, aX, aV, aB, aN, aL, aP, aH, aM, aF, Int.natCast_add, Int.natCast_mul, Int.add_sub_cancel, List.length_nil, Int.cast_ofNat_Int, and_true, true_and]) (aret_of ?_)
    simp (disch := ((try simp only [List.length_set, List.length_replicate, List.length_append, List.length_cons, List.length_nil]); omega)) only [aW, aX, aV, aB, aN, aL, aP, aH, aM]
    refine awake36_vr.same (by simp (disch := first | omega | simp (disch := omega) only [aF, aL, aN, aM]) only [aW, aX, aV, aB, aN, aL, aP, aH, aM, aF, Int.natCast_add, Int.natCast_mul, Int.add_sub_cancel, List.length_nil, Int.cast_ofNat_Int, and_true, true_and]) rfl (aret_of ?_)
    simp (disch := ((try simp only [List.length_set, List.length_replicate, List.length_append, List.length_cons, List.length_nil]); omega)) only [aW, aX, aV, aB, aN, aL, aP, aH, aM, r_law36_ControlJams]
    exact post_v ⟨rfl, rfl⟩
  have ok := cn_ok h0
  have hv := controlNew_ok (w := true) (v := true) h0
  unfold plA plC at hv
  have hn : p.ms.length = (cnP p).n := rfl
  have n1 := ok.n1
  have harc := fun k (hk : k < p.bs.length) => arcsR_get p k hk
  have hal := arcsR_len p
  have hcl : arcsR p = (cnP p).l := rfl
  rw [hcl] at harc hal
  have l1 := ok.l1
  generalize cnP p = c at *
  by_cases hz : c.n = 0
  · simp (disch := ((try simp only [List.length_set, List.length_replicate, List.length_append, List.length_cons, List.length_nil]); omega)) only [aW, aX, aV, aB, aN, aL, aP, aH, aM, hb']
    refine hv.useO (LdL.refl (by simp (disch := first | omega | simp (disch := omega) only [aF, aL, aN, aM]) only [aW, aX, aV, aB, aN, aL, aP, aH, aM, aF, Int.natCast_add, Int.natCast_mul, Int.add_sub_cancel, List.length_nil, Int.cast_ofNat_Int, and_true, true_and])) (by rw [panG_cl]; rfl) (aret_of ?_)
    rw [panG_sh, new_sh]
    simp (disch := ((try simp only [List.length_set, List.length_replicate, List.length_append, List.length_cons, List.length_nil]); omega)) only [aW, aX, aV, aB, aN, aL, aP, aH, aM, hn, hz]
    refine awake36_vr.same (by simp (disch := first | omega | simp (disch := omega) only [aF, aL, aN, aM]) only [aW, aX, aV, aB, aN, aL, aP, aH, aM, aF, Int.natCast_add, Int.natCast_mul, Int.add_sub_cancel, List.length_nil, Int.cast_ofNat_Int, and_true, true_and]) rfl (aret_of ?_)
    simp (disch := ((try simp only [List.length_set, List.length_replicate, List.length_append, List.length_cons, List.length_nil]); omega)) only [aW, aX, aV, aB, aN, aL, aP, aH, aM, r_law36_ControlJams]
    exact post_v ⟨rfl, rfl⟩
  simp (disch := ((try simp only [List.length_set, List.length_replicate, List.length_append, List.length_cons, List.length_nil]); omega)) only [aW, aX, aV, aB, aN, aL, aP, aH, aM, hb']
  refine hv.useO (LdL.refl (by simp (disch := first | omega | simp (disch := omega) only [aF, aL, aN, aM]) only [aW, aX, aV, aB, aN, aL, aP, aH, aM, aF, Int.natCast_add, Int.natCast_mul, Int.add_sub_cancel, List.length_nil, Int.cast_ofNat_Int, and_true, true_and])) (by rw [panG_cl]; rfl) (aret_of ?_)
  rw [panG_sh, new_sh]
  simp (disch := ((try simp only [List.length_set, List.length_replicate, List.length_append, List.length_cons, List.length_nil]); omega)) only [aW, aX, aV, aB, aN, aL, aP, aH, aM, hn]
  refine AWP.loopP g_law36_ControlJams_0 (fun k : Nat => k ≤ l.length) (fun k => [(7, .v (.int .i64 k))]) (fun k => [(3, ⟨0, ints (runR c (List.replicate c.n 0) (l.take k))⟩)]) (fun k => l.length - k) 0 (by omega) ?_ ?_
  · have e0 : runR c (List.replicate c.n 0) (l.take 0) = List.replicate c.n 0 := by rw [List.take_zero]; rfl
    rw [e0]
    try simp (disch := ((try simp only [List.length_set, List.length_replicate, List.length_append, List.length_cons, List.length_nil]); omega)) only [aW, aX, aV, aB, aN, aL, aP, aH, aM]
    exact Cut.of' 5 rfl (by omega) (by simp (disch := first | omega | simp (disch := omega) only [aF, aL, aN, aM]) only [aW, aX, aV, aB, aN, aL, aP, aH, aM, aF, Int.natCast_add, Int.natCast_mul, Int.add_sub_cancel, List.length_nil, Int.cast_ofNat_Int, and_true, true_and, fz_pan]) (by simp (disch := first | omega | simp (disch := omega) only [aF, aL, aN, aM]) only [aW, aX, aV, aB, aN, aL, aP, aH, aM, aF, Int.natCast_add, Int.natCast_mul, Int.add_sub_cancel, List.length_nil, Int.cast_ofNat_Int, and_true, true_and])
  rintro k hk
  by_cases hlt : k < l.length
  · have hrt := runR_take c (List.replicate c.n 0) l k hlt
    have hol := off_len c (l.take k)
    simp (disch := ((try simp only [List.length_set, List.length_replicate, List.length_append, List.length_cons, List.length_nil]); omega)) only [aW, aX, aV, aB, aN, aL, aP, aH, aM]
    refine (do_ps ok (ps4 _ _ _ c _ [_] hol) (l.getD k (0, 0))).mono ?_
    rintro r H' ⟨rfl, hH⟩
    rw [hH, ← hrt]
    refine aret_of ?_
    simp (disch := ((try simp only [List.length_set, List.length_replicate, List.length_append, List.length_cons, List.length_nil]); omega)) only [aW, aX, aV, aB, aN, aL, aP, aH, aM]
    refine ⟨k + 1, by omega, by omega, ?_⟩
    exact Cut.of' 5 rfl (by omega) (by simp (disch := first | omega | simp (disch := omega) only [aF, aL, aN, aM]) only [aW, aX, aV, aB, aN, aL, aP, aH, aM, aF, Int.natCast_add, Int.natCast_mul, Int.add_sub_cancel, List.length_nil, Int.cast_ofNat_Int, and_true, true_and, fz_pan]) (by simp (disch := first | omega | simp (disch := omega) only [aF, aL, aN, aM]) only [aW, aX, aV, aB, aN, aL, aP, aH, aM, aF, Int.natCast_add, Int.natCast_mul, Int.add_sub_cancel, List.length_nil, Int.cast_ofNat_Int, and_true, true_and])
  have hke : k = l.length := by omega
  subst hke
  rw [List.take_length]
  have sl := off_len c l
  have inv := run_inv ok l off_inv
  generalize runR c (List.replicate c.n 0) l = st at *
  have q1 : 0 ≤ m % (c.n : Int) := Int.emod_nonneg _ (by omega)
  have q2 : m % (c.n : Int) < c.n := Int.emod_lt_of_pos _ (by omega)
  obtain ⟨J, J2, J3, z1, z2, z3, f1, f2, f3, f4, f5, f6, f7⟩ := jam_facts ok sl q1 q2
  simp (disch := ((try simp only [List.length_set, List.length_replicate, List.length_append, List.length_cons, List.length_nil]); omega)) only [aW, aX, aV, aB, aN, aL, aP, aH, aM, hn]
  generalize m % (c.n : Int) = q at *
  refine (jam_ps ok (ps4 _ _ _ c _ [] sl) q).mono ?_
  rintro r H' ⟨rfl, hH⟩
  rw [hH, f1]
  refine aret_of ?_
  simp (disch := ((try simp only [List.length_set, List.length_replicate, List.length_append, List.length_cons, List.length_nil]); omega)) only [aW, aX, aV, aB, aN, aL, aP, aH, aM]
  refine (state_ps (ps4 _ _ _ c _ [] z1) q).mono ?_
  rintro r H' ⟨rfl, hH⟩
  rw [hH, f2]
  refine aret_of ?_
  simp (disch := ((try simp only [List.length_set, List.length_replicate, List.length_append, List.length_cons, List.length_nil]); omega)) only [aW, aX, aV, aB, aN, aL, aP, aH, aM]
  refine (start_ps ok (ps4 _ _ _ c _ [] z1) q).mono ?_
  rintro r H' ⟨rfl, hH⟩
  rw [hH, f3]
  refine aret_of ?_
  simp (disch := ((try simp only [List.length_set, List.length_replicate, List.length_append, List.length_cons, List.length_nil]); omega)) only [aW, aX, aV, aB, aN, aL, aP, aH, aM]
  refine (jam_ps ok (ps4 _ _ _ c _ [] z1) q).mono ?_
  rintro r H' ⟨rfl, hH⟩
  rw [hH, f4]
  refine aret_of ?_
  simp (disch := ((try simp only [List.length_set, List.length_replicate, List.length_append, List.length_cons, List.length_nil]); omega)) only [aW, aX, aV, aB, aN, aL, aP, aH, aM]
  refine (clear_ps (ps4 _ _ _ c _ [] z2) q).mono ?_
  rintro r H' ⟨rfl, hH⟩
  rw [hH, f5]
  refine aret_of ?_
  simp (disch := ((try simp only [List.length_set, List.length_replicate, List.length_append, List.length_cons, List.length_nil]); omega)) only [aW, aX, aV, aB, aN, aL, aP, aH, aM]
  refine (state_ps (ps4 _ _ _ c _ [] z3) q).mono ?_
  rintro r H' ⟨rfl, hH⟩
  rw [hH, f6]
  refine aret_of ?_
  simp (disch := ((try simp only [List.length_set, List.length_replicate, List.length_append, List.length_cons, List.length_nil]); omega)) only [aW, aX, aV, aB, aN, aL, aP, aH, aM]
  refine (clear_ps (ps4 _ _ _ c _ [] z3) q).mono ?_
  rintro r H' ⟨rfl, hH⟩
  rw [hH, f7]
  refine aret_of ?_
  simp (disch := ((try simp only [List.length_set, List.length_replicate, List.length_append, List.length_cons, List.length_nil]); omega)) only [aW, aX, aV, aB, aN, aL, aP, aH, aM]
  refine awake36_vr.same (by simp (disch := first | omega | simp (disch := omega) only [aF, aL, aN, aM]) only [aW, aX, aV, aB, aN, aL, aP, aH, aM, aF, Int.natCast_add, Int.natCast_mul, Int.add_sub_cancel, List.length_nil, Int.cast_ofNat_Int, and_true, true_and]) rfl (aret_of ?_)
  simp (disch := ((try simp only [List.length_set, List.length_replicate, List.length_append, List.length_cons, List.length_nil]); omega)) only [aW, aX, aV, aB, aN, aL, aP, aH, aM, r_law36_ControlJams]
  exact post_v ⟨rfl, rfl⟩
end Go.Proofs.Ytfnghkmchlfooaa
