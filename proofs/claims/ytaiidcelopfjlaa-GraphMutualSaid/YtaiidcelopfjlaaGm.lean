/- The reference's cycle. No statement is claimed here. -/
import Derived.Test.YtaiidcelopfjlaaGl
namespace Go.Proofs.Ytaiidcelopfjlaa
open Go Go.Lft
set_option linter.unusedSimpArgs false
set_option linter.unusedVariables false
attribute [local congr] ob_congr bw_congr ib_congr ck_congr iwA_congr itA_congr aw_congr awp_congr sqA_congr bkA_congr vr_congr gd_congr

theorem fol_succ (l : Arcs) (p : Int → Bool) (v : Int) {i : Nat} (hi : i < l.length) : (l.take (i + 1)).foldl (folS p v) (-1) = folS p v ((l.take i).foldl (folS p v) (-1)) (l.getD i (0, 0)) := by
  rw [take_succ_get l i (0, 0) hi, List.foldl_append]; rfl

theorem fol_hit (l : Arcs) (p : Int → Bool) (v : Int) {i : Nat} (hi : i < l.length) (h : (l.getD i (0, 0)).1 = v ∧ p (l.getD i (0, 0)).2 = true ∧ ((l.take i).foldl (folS p v) (-1) < 0 ∨ (l.getD i (0, 0)).2 < (l.take i).foldl (folS p v) (-1))) :
    (l.take (i + 1)).foldl (folS p v) (-1) = (l.getD i (0, 0)).2 := by rw [fol_succ l p v hi]; exact if_pos h
theorem fol_miss (l : Arcs) (p : Int → Bool) (v : Int) {i : Nat} (hi : i < l.length) (h : ¬ ((l.getD i (0, 0)).1 = v ∧ p (l.getD i (0, 0)).2 = true ∧ ((l.take i).foldl (folS p v) (-1) < 0 ∨ (l.getD i (0, 0)).2 < (l.take i).foldl (folS p v) (-1)))) :
    (l.take (i + 1)).foldl (folS p v) (-1) = (l.take i).foldl (folS p v) (-1) := by rw [fol_succ l p v hi]; exact if_neg h
theorem ii_one (x : Int) : ints [x] = [.v (.int .i64 x)] := rfl

theorem refCycle_vr {w : Bool} (n : Int) (l : Arcs) : VR P false n_ref09_Cycle [graphA w n l] [] (isR (.tup [.fs true (ints (cycR n l).1), .v (.int .i64 (cycR n l).2)])) := by
  refine vr_ref09_Cycle (by simp) (.inr rfl) fun _ _ => ?_
  unfold graphA
  simp (disch := ((try simp only [List.length_set, List.length_replicate, List.length_append, List.length_cons, List.length_nil]); omega)) only [aW, aX, aV, aB, aN, aL, aP, aH, s_ref09_Cycle, v_ref09_Cycle]
  refine (refCheck_vr (w := w) n l).same (by unfold graphA; simp (disch := first | omega | simp (disch := omega) only [aF, aL, aN]) only [aW, aX, aV, aB, aN, aL, aP, aH, aF, Int.natCast_add, Int.natCast_mul, Int.add_sub_cancel, List.length_nil, Int.cast_ofNat_Int, and_true, true_and]) rfl (aret_of ?_)
  simp (disch := ((try simp only [List.length_set, List.length_replicate, List.length_append, List.length_cons, List.length_nil]); omega)) only [aW, aX, aV, aB, aN, aL, aP, aH]
  refine ib_intro (fun h1 => ?_) (fun h1 => ?_)
  · simp (disch := ((try simp only [List.length_set, List.length_replicate, List.length_append, List.length_cons, List.length_nil]); omega)) only [aW, aX, aV, aB, aN, aL, aP, aH, r_ref09_Cycle]
    refine post_err ⟨?_, rfl⟩
    unfold cycR; rw [if_pos h1]; rfl
  have h1 : gcheck n l = 0 := Classical.not_not.1 h1
  obtain ⟨c1, c2, c3, c4⟩ := gcheck_ok h1
  simp (disch := ((try simp only [List.length_set, List.length_replicate, List.length_append, List.length_cons, List.length_nil]); omega)) only [aW, aX, aV, aB, aN, aL, aP, aH]
  refine AWP.loopP g_ref09_Cycle_0 (fun k : Nat => k ≤ n.toNat) (fun k => [(5, .v (.int .i64 (cf n l k).1)), (6, .v (.int .i64 (cf n l k).2)), (7, .v (.int .i64 k))]) (fun _ => []) (fun k => n.toNat - k) 0 (by omega) ?_ ?_
  · simp (disch := ((try simp only [List.length_set, List.length_replicate, List.length_append, List.length_cons, List.length_nil]); omega)) only [aW, aX, aV, aB, aN, aL, aP, aH]
    exact Cut.of' 1 rfl (by omega) (by simp (disch := first | omega | simp (disch := omega) only [aF, aL, aN]) only [aW, aX, aV, aB, aN, aL, aP, aH, aF, Int.natCast_add, Int.natCast_mul, Int.add_sub_cancel, List.length_nil, Int.cast_ofNat_Int, and_true, true_and]) (by simp (disch := first | omega | simp (disch := omega) only [aF, aL, aN]) only [aW, aX, aV, aB, aN, aL, aP, aH, aF, Int.natCast_add, Int.natCast_mul, Int.add_sub_cancel, List.length_nil, Int.cast_ofNat_Int, and_true, true_and, cf])
  rintro k hk
  by_cases hkt : k < n.toNat
  · have hTl := tabI_len n.toNat fun v => rT l k n.toNat v
    have hTg : (tabI n.toNat fun v => rT l k n.toNat v).getD k 0 = cN n l k := tabI_get n.toNat (fun v => rT l k n.toNat v) k hkt
    simp (disch := ((try simp only [List.length_set, List.length_replicate, List.length_append, List.length_cons, List.length_nil]); omega)) only [aW, aX, aV, aB, aN, aL, aP, aH]
    refine (refDistances_vr (w := w) n l c1 c2 c3 c4 k ⟨by omega, by omega⟩).same (by unfold graphA; simp (disch := first | omega | simp (disch := omega) only [aF, aL, aN]) only [aW, aX, aV, aB, aN, aL, aP, aH, aF, Int.natCast_add, Int.natCast_mul, Int.add_sub_cancel, List.length_nil, Int.cast_ofNat_Int, and_true, true_and]) (by simp (disch := first | omega | simp (disch := omega) only [aF, aL, aN]) only [aW, aX, aV, aB, aN, aL, aP, aH, aF, Int.natCast_add, Int.natCast_mul, Int.add_sub_cancel, List.length_nil, Int.cast_ofNat_Int, and_true, true_and]) (aret_of ?_)
    simp (disch := ((try simp only [List.length_set, List.length_replicate, List.length_append, List.length_cons, List.length_nil]); omega)) only [aW, aX, aV, aB, aN, aL, aP, aH, hTg]
    by_cases g1 : 0 < cN n l k
    · by_cases g2 : (cf n l k).1 < 0
      · have e1 : cf n l (k + 1) = ((k : Int), cN n l k) := by unfold cf; rw [if_pos ⟨g1, .inl g2⟩]
        simp (disch := ((try simp only [List.length_set, List.length_replicate, List.length_append, List.length_cons, List.length_nil]); omega)) only [aW, aX, aV, aB, aN, aL, aP, aH]
        refine ⟨k + 1, by omega, by omega, ?_⟩
        rw [e1]
        exact Cut.of' 1 rfl (by omega) (by simp (disch := first | omega | simp (disch := omega) only [aF, aL, aN]) only [aW, aX, aV, aB, aN, aL, aP, aH, aF, Int.natCast_add, Int.natCast_mul, Int.add_sub_cancel, List.length_nil, Int.cast_ofNat_Int, and_true, true_and]) (by simp (disch := first | omega | simp (disch := omega) only [aF, aL, aN]) only [aW, aX, aV, aB, aN, aL, aP, aH, aF, Int.natCast_add, Int.natCast_mul, Int.add_sub_cancel, List.length_nil, Int.cast_ofNat_Int, and_true, true_and])
      · by_cases g3 : cN n l k < (cf n l k).2
        · have e1 : cf n l (k + 1) = ((k : Int), cN n l k) := by unfold cf; rw [if_pos ⟨g1, .inr g3⟩]
          simp (disch := ((try simp only [List.length_set, List.length_replicate, List.length_append, List.length_cons, List.length_nil]); omega)) only [aW, aX, aV, aB, aN, aL, aP, aH]
          refine ⟨k + 1, by omega, by omega, ?_⟩
          rw [e1]
          exact Cut.of' 1 rfl (by omega) (by simp (disch := first | omega | simp (disch := omega) only [aF, aL, aN]) only [aW, aX, aV, aB, aN, aL, aP, aH, aF, Int.natCast_add, Int.natCast_mul, Int.add_sub_cancel, List.length_nil, Int.cast_ofNat_Int, and_true, true_and]) (by simp (disch := first | omega | simp (disch := omega) only [aF, aL, aN]) only [aW, aX, aV, aB, aN, aL, aP, aH, aF, Int.natCast_add, Int.natCast_mul, Int.add_sub_cancel, List.length_nil, Int.cast_ofNat_Int, and_true, true_and])
        · have e1 : cf n l (k + 1) = cf n l k := by show ite _ _ _ = _; rw [if_neg (fun hc => hc.2.elim g2 g3)]
          simp (disch := ((try simp only [List.length_set, List.length_replicate, List.length_append, List.length_cons, List.length_nil]); omega)) only [aW, aX, aV, aB, aN, aL, aP, aH]
          refine ⟨k + 1, by omega, by omega, ?_⟩
          rw [e1]
          exact Cut.of' 1 rfl (by omega) (by simp (disch := first | omega | simp (disch := omega) only [aF, aL, aN]) only [aW, aX, aV, aB, aN, aL, aP, aH, aF, Int.natCast_add, Int.natCast_mul, Int.add_sub_cancel, List.length_nil, Int.cast_ofNat_Int, and_true, true_and]) (by simp (disch := first | omega | simp (disch := omega) only [aF, aL, aN]) only [aW, aX, aV, aB, aN, aL, aP, aH, aF, Int.natCast_add, Int.natCast_mul, Int.add_sub_cancel, List.length_nil, Int.cast_ofNat_Int, and_true, true_and])
    · have e1 : cf n l (k + 1) = cf n l k := by show ite _ _ _ = _; rw [if_neg (fun hc => g1 hc.1)]
      simp (disch := ((try simp only [List.length_set, List.length_replicate, List.length_append, List.length_cons, List.length_nil]); omega)) only [aW, aX, aV, aB, aN, aL, aP, aH]
      refine ⟨k + 1, by omega, by omega, ?_⟩
      rw [e1]
      exact Cut.of' 1 rfl (by omega) (by simp (disch := first | omega | simp (disch := omega) only [aF, aL, aN]) only [aW, aX, aV, aB, aN, aL, aP, aH, aF, Int.natCast_add, Int.natCast_mul, Int.add_sub_cancel, List.length_nil, Int.cast_ofNat_Int, and_true, true_and]) (by simp (disch := first | omega | simp (disch := omega) only [aF, aL, aN]) only [aW, aX, aV, aB, aN, aL, aP, aH, aF, Int.natCast_add, Int.natCast_mul, Int.add_sub_cancel, List.length_nil, Int.cast_ofNat_Int, and_true, true_and])
  have hkn : k = n.toNat := by omega
  subst hkn
  rcases cf_spec n l n.toNat with ⟨g1, g2⟩ | ⟨f, m, g1, g2⟩
  · rw [g1]
    simp (disch := ((try simp only [List.length_set, List.length_replicate, List.length_append, List.length_cons, List.length_nil]); omega)) only [aW, aX, aV, aB, aN, aL, aP, aH, r_ref09_Cycle]
    refine post_err ⟨?_, rfl⟩
    unfold cycR; rw [if_neg (by simp [h1]), g1, if_pos (by decide)]; rfl
  obtain ⟨m1, m2, m3, m4⟩ := cN_eq g2.eq
  have hfk := g2.fk
  have hTl := tabI_len n.toNat fun v => rT l f n.toNat v
  rw [g1]
  simp (disch := ((try simp only [List.length_set, List.length_replicate, List.length_append, List.length_cons, List.length_nil]); omega)) only [aW, aX, aV, aB, aN, aL, aP, aH]
  refine (refDistances_vr (w := w) n l c1 c2 c3 c4 f ⟨by omega, by omega⟩).same (by unfold graphA; simp (disch := first | omega | simp (disch := omega) only [aF, aL, aN]) only [aW, aX, aV, aB, aN, aL, aP, aH, aF, Int.natCast_add, Int.natCast_mul, Int.add_sub_cancel, List.length_nil, Int.cast_ofNat_Int, and_true, true_and]) (by simp (disch := first | omega | simp (disch := omega) only [aF, aL, aN]) only [aW, aX, aV, aB, aN, aL, aP, aH, aF, Int.natCast_add, Int.natCast_mul, Int.add_sub_cancel, List.length_nil, Int.cast_ofNat_Int, and_true, true_and]) (aret_of ?_)
  simp (disch := ((try simp only [List.length_set, List.length_replicate, List.length_append, List.length_cons, List.length_nil]); omega)) only [aW, aX, aV, aB, aN, aL, aP, aH]
  refine AWP.loopP g_ref09_Cycle_1 (fun j : Nat => j < m) (fun j => [(10, .sl 1 j 1 0 (j + 1))]) (fun j => [(1, ⟨j, ints (cst l (rQ n l f m) f j).1⟩)]) (fun j => m - j) 0 (by omega) ?_ ?_
  · simp (disch := ((try simp only [List.length_set, List.length_replicate, List.length_append, List.length_cons, List.length_nil]); omega)) only [aW, aX, aV, aB, aN, aL, aP, aH]
    exact Cut.of' 2 rfl (by omega) (by simp (disch := first | omega | simp (disch := omega) only [aF, aL, aN]) only [aW, aX, aV, aB, aN, aL, aP, aH, aF, Int.natCast_add, Int.natCast_mul, Int.add_sub_cancel, List.length_nil, Int.cast_ofNat_Int, and_true, true_and, cst, ii_one]) (by simp (disch := first | omega | simp (disch := omega) only [aF, aL, aN]) only [aW, aX, aV, aB, aN, aL, aP, aH, aF, Int.natCast_add, Int.natCast_mul, Int.add_sub_cancel, List.length_nil, Int.cast_ofNat_Int, and_true, true_and])
  rintro j hj
  have hcl := cst_len l (rQ n l f m) f j
  have hla := cst_last l (rQ n l f m) f j
  by_cases hjt : j + 1 < m
  · simp (disch := ((try simp only [List.length_set, List.length_replicate, List.length_append, List.length_cons, List.length_nil]); omega)) only [aW, aX, aV, aB, aN, aL, aP, aH]
    refine AWP.loopP g_ref09_Cycle_2 (fun i : Nat => i ≤ l.length) (fun i => [(11, .v (.int .i64 ((l.take i).foldl (folS (rQ n l f m j) (cst l (rQ n l f m) f j).2) (-1)))), (12, .v (.int .i64 i))]) (fun _ => []) (fun i => l.length - i) 0 (by omega) ?_ ?_
    · simp (disch := ((try simp only [List.length_set, List.length_replicate, List.length_append, List.length_cons, List.length_nil]); omega)) only [aW, aX, aV, aB, aN, aL, aP, aH]
      exact Cut.of' 2 rfl (by omega) (by simp (disch := first | omega | simp (disch := omega) only [aF, aL, aN]) only [aW, aX, aV, aB, aN, aL, aP, aH, aF, Int.natCast_add, Int.natCast_mul, Int.add_sub_cancel, List.length_nil, Int.cast_ofNat_Int, and_true, true_and]) (by simp (disch := first | omega | simp (disch := omega) only [aF, aL, aN]) only [aW, aX, aV, aB, aN, aL, aP, aH, aF, Int.natCast_add, Int.natCast_mul, Int.add_sub_cancel, List.length_nil, Int.cast_ofNat_Int, and_true, true_and, List.take_zero, List.foldl_nil])
    rintro i hi
    by_cases hil : i < l.length
    · have hmem : l.getD i (0, 0) ∈ l := by simp [List.getD_eq_getElem?_getD, hil]
      obtain ⟨⟨r1, r2⟩, r3, r4⟩ := c4 _ hmem
      have hg2 := tabI_get n.toNat (fun v => rT l f n.toNat v) (l.getD i (0, 0)).2.toNat (by omega)
      rw [Int.toNat_of_nonneg r3] at hg2
      have hq : rQ n l f m j (l.getD i (0, 0)).2 = true ↔ rT l f n.toNat (l.getD i (0, 0)).2 = (m : Int) - (j + 1 : Nat) := by
        unfold rQ; rw [beq_iff_eq]; omega
      have hidx : ((j + 1 : Nat) - 1 : Int).toNat = j := by omega
      simp (disch := ((try simp only [List.length_set, List.length_replicate, List.length_append, List.length_cons, List.length_nil]); omega)) only [aW, aX, aV, aB, aN, aL, aP, aH, hidx, hla, hg2]
      refine ib_intro (fun h3 => ?_) (fun h3 => ?_)
      · have hnx := fol_hit l (rQ n l f m j) (cst l (rQ n l f m) f j).2 hil ⟨h3.1.1, hq.2 h3.1.2, h3.2⟩
        simp (disch := ((try simp only [List.length_set, List.length_replicate, List.length_append, List.length_cons, List.length_nil]); omega)) only [aW, aX, aV, aB, aN, aL, aP, aH]
        refine ⟨i + 1, by omega, by omega, ?_⟩
        rw [hnx]
        exact Cut.of' 2 rfl (by omega) (by simp (disch := first | omega | simp (disch := omega) only [aF, aL, aN]) only [aW, aX, aV, aB, aN, aL, aP, aH, aF, Int.natCast_add, Int.natCast_mul, Int.add_sub_cancel, List.length_nil, Int.cast_ofNat_Int, and_true, true_and]) (by simp (disch := first | omega | simp (disch := omega) only [aF, aL, aN]) only [aW, aX, aV, aB, aN, aL, aP, aH, aF, Int.natCast_add, Int.natCast_mul, Int.add_sub_cancel, List.length_nil, Int.cast_ofNat_Int, and_true, true_and])
      · have hnx := fol_miss l (rQ n l f m j) (cst l (rQ n l f m) f j).2 hil (fun hc => h3 ⟨⟨hc.1, hq.1 hc.2.1⟩, hc.2.2⟩)
        simp (disch := ((try simp only [List.length_set, List.length_replicate, List.length_append, List.length_cons, List.length_nil]); omega)) only [aW, aX, aV, aB, aN, aL, aP, aH]
        refine ⟨i + 1, by omega, by omega, ?_⟩
        rw [hnx]
        exact Cut.of' 2 rfl (by omega) (by simp (disch := first | omega | simp (disch := omega) only [aF, aL, aN]) only [aW, aX, aV, aB, aN, aL, aP, aH, aF, Int.natCast_add, Int.natCast_mul, Int.add_sub_cancel, List.length_nil, Int.cast_ofNat_Int, and_true, true_and]) (by simp (disch := first | omega | simp (disch := omega) only [aF, aL, aN]) only [aW, aX, aV, aB, aN, aL, aP, aH, aF, Int.natCast_add, Int.natCast_mul, Int.add_sub_cancel, List.length_nil, Int.cast_ofNat_Int, and_true, true_and])
    · have hie : i = l.length := by omega
      subst hie
      rw [List.take_length]
      simp (disch := ((try simp only [List.length_set, List.length_replicate, List.length_append, List.length_cons, List.length_nil]); omega)) only [aW, aX, aV, aB, aN, aL, aP, aH]
      refine ⟨j + 1, by omega, by omega, ?_⟩
      simp only [cst, folL]
      exact Cut.of' 2 rfl (by omega) (by simp (disch := first | omega | simp (disch := omega) only [aF, aL, aN]) only [aW, aX, aV, aB, aN, aL, aP, aH, aF, Int.natCast_add, Int.natCast_mul, Int.add_sub_cancel, List.length_nil, Int.cast_ofNat_Int, and_true, true_and]) (by simp (disch := first | omega | simp (disch := omega) only [aF, aL, aN]) only [aW, aX, aV, aB, aN, aL, aP, aH, aF, Int.natCast_add, Int.natCast_mul, Int.add_sub_cancel, List.length_nil, Int.cast_ofNat_Int, and_true, true_and])
  · have hjm : j = m - 1 := by omega
    subst hjm
    simp (disch := ((try simp only [List.length_set, List.length_replicate, List.length_append, List.length_cons, List.length_nil]); omega)) only [aW, aX, aV, aB, aN, aL, aP, aH, r_ref09_Cycle]
    refine post0 (r := .tup [.fs true (ints (cst l (rQ n l f m) f (m - 1)).1), .v (.int .i64 0)]) (Fz.tup ⟨fz_slI _ _ _ _ _ _ (by omega) hcl.symm (by simp (disch := ((try simp only [List.length_set, List.length_replicate, List.length_append, List.length_cons, List.length_nil]); omega)) only [aW, aX, aV, aB, aN, aL, aP, aH]), Fz.refl rfl, trivial⟩) ⟨?_, rfl⟩
    unfold cycR; rw [if_neg (by simp [h1]), g1, if_neg (by simp only; omega)]; rfl
end Go.Proofs.Ytaiidcelopfjlaa
