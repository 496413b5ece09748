/- The reference's Reach, Back; Groups and its reference. No statement is claimed here. -/
import Derived.Test.YtjhdedifmhkhbaaGd
namespace Go.Proofs.Ytjhdedifmhkhbaa
open Go Go.Lft
set_option linter.unusedSimpArgs false
set_option linter.unusedVariables false
attribute [local congr] ob_congr bw_congr ib_congr ck_congr iwA_congr itA_congr aw_congr awp_congr sqA_congr bkA_congr vr_congr gd_congr

theorem take_succ_get {α : Type} (l : List α) (k : Nat) (d : α) (h : k < l.length) : l.take (k + 1) = l.take k ++ [l.getD k d] := by
  rw [List.take_succ_eq_append_getElem h]; simp [List.getD_eq_getElem?_getD, h]

theorem refReversed_vr {w : Bool} (n : Int) (l : Arcs) (hl : l.length < 1000000) : VR P false n_ref09_Reversed [graphA w n l] [] (isR (graphA true n (backL l))) := by
  refine vr_ref09_Reversed (by simp) (.inr rfl) fun _ _ => ?_
  unfold graphA
  simp (disch := ((try simp only [List.length_set, List.length_replicate, List.length_append, List.length_cons, List.length_nil]); omega)) only [aW, aX, aV, aB, aN, aL, aP, aH, s_ref09_Reversed, v_ref09_Reversed]
  refine AWP.cut (Cut.virtB 2 0 1 2 rfl rfl) ?_
  refine AWP.loopP (α := Nat × Nat) g_ref09_Reversed_0 (fun p => p.1 ≤ l.length) (fun p => [(3, .v (.int .i64 p.1))]) (fun p => [(2, ⟨0, [.v (.int .i64 n), .vs 3 p.2 2 p.1]⟩), (3, ⟨p.2, pcells ((backL l).take p.1)⟩)]) (fun p => l.length - p.1) (0, 0) (by simp) ?_ ?_
  · simp (disch := ((try simp only [List.length_set, List.length_replicate, List.length_append, List.length_cons, List.length_nil]); omega)) only [aW, aX, aV, aB, aN, aL, aP, aH]
    exact Cut.of' 4 rfl (by omega) (by simp (disch := first | omega | simp (disch := omega) only [aF, aL, aN]) only [aW, aX, aV, aB, aN, aL, aP, aH, aF, Int.natCast_add, Int.natCast_mul, Int.add_sub_cancel, List.length_nil, Int.cast_ofNat_Int, and_true, true_and, pc_nil, List.take_zero]) (by simp (disch := first | omega | simp (disch := omega) only [aF, aL, aN]) only [aW, aX, aV, aB, aN, aL, aP, aH, aF, Int.natCast_add, Int.natCast_mul, Int.add_sub_cancel, List.length_nil, Int.cast_ofNat_Int, and_true, true_and])
  rintro ⟨k, ver⟩ hk
  simp only at hk
  have hbl : (backL l).length = l.length := by simp [backL]
  have hbk : ((backL l).take k).length = k := by simp; omega
  by_cases hlt : k < l.length
  · have hg : (backL l).getD k (0, 0) = ((l.getD k (0, 0)).2, (l.getD k (0, 0)).1) := by simp [backL, List.getD_eq_getElem?_getD, hlt, Prod.swap]
    simp (disch := ((try simp only [List.length_set, List.length_replicate, List.length_append, List.length_cons, List.length_nil]); omega)) only [aW, aX, aV, aB, aN, aL, aP, aH]
    refine ⟨(k + 1, ver + 1), by simp only; omega, by simp only; omega, ?_⟩
    rw [take_succ_get (backL l) k (0, 0) (by omega), hg]
    simp (disch := ((try simp only [List.length_set, List.length_replicate, List.length_append, List.length_cons, List.length_nil]); omega)) only [aW, aX, aV, aB, aN, aL, aP, aH]
    have e1 : List.take k (List.take k (backL l)) = List.take k (backL l) := by rw [List.take_take, Nat.min_self]
    exact Cut.of' 4 rfl (by omega) (by simp (disch := first | omega | simp (disch := omega) only [aF, aL, aN]) only [aW, aX, aV, aB, aN, aL, aP, aH, aF, Int.natCast_add, Int.natCast_mul, Int.add_sub_cancel, List.length_nil, Int.cast_ofNat_Int, and_true, true_and, e1]) (by simp (disch := first | omega | simp (disch := omega) only [aF, aL, aN]) only [aW, aX, aV, aB, aN, aL, aP, aH, aF, Int.natCast_add, Int.natCast_mul, Int.add_sub_cancel, List.length_nil, Int.cast_ofNat_Int, and_true, true_and])
  · have hkl : k = l.length := by omega
    subst hkl
    simp (disch := ((try simp only [List.length_set, List.length_replicate, List.length_append, List.length_cons, List.length_nil]); omega)) only [aW, aX, aV, aB, aN, aL, aP, aH, r_ref09_Reversed]
    have e1 : (backL l).take l.length = backL l := List.take_of_length_le (by omega)
    refine post0 (r := .agg [.v (.int .i64 n), .fs true (pairs (backL l))]) (Fz.agg ⟨Fz.refl rfl, ?_, trivial⟩) ⟨rfl, rfl⟩
    exact fz_vsP 0 _ 3 ver l.length (backL l) (by omega) hbl.symm (by simp [blkAt, e1])

/-- The round of the reference. -/
theorem refReach_vr {w : Bool} (n : Int) (l : Arcs) (v : Int) : VR P false n_ref09_Reach [graphA w n l, .v (.int .i64 v)] [] (isR (.tup [.fs true (bools (visitR n l l v).1), .v (.int .i64 (visitR n l l v).2)])) := by
  refine vr_ref09_Reach (by simp) (.inr rfl) fun _ _ => ?_
  unfold graphA
  simp (disch := ((try simp only [List.length_set, List.length_replicate, List.length_append, List.length_cons, List.length_nil]); omega)) only [aW, aX, aV, aB, aN, aL, aP, aH, s_ref09_Reach, v_ref09_Reach]
  refine (refCheck_vr (w := w) n l).same (by unfold graphA; simp (disch := first | omega | simp (disch := omega) only [aF, aL, aN]) only [aW, aX, aV, aB, aN, aL, aP, aH, aF, Int.natCast_add, Int.natCast_mul, Int.add_sub_cancel, List.length_nil, Int.cast_ofNat_Int, and_true, true_and]) rfl (aret_of ?_)
  simp (disch := ((try simp only [List.length_set, List.length_replicate, List.length_append, List.length_cons, List.length_nil]); omega)) only [aW, aX, aV, aB, aN, aL, aP, aH]
  refine ib_intro (fun h1 => ?_) (fun h1 => ?_)
  · simp (disch := ((try simp only [List.length_set, List.length_replicate, List.length_append, List.length_cons, List.length_nil]); omega)) only [aW, aX, aV, aB, aN, aL, aP, aH, r_ref09_Reach]
    refine post_err ⟨?_, rfl⟩
    unfold visitR; rw [if_pos h1]; rfl
  have h1 : gcheck n l = 0 := Classical.not_not.1 h1
  obtain ⟨c1, c2, c3, c4⟩ := gcheck_ok h1
  simp (disch := ((try simp only [List.length_set, List.length_replicate, List.length_append, List.length_cons, List.length_nil]); omega)) only [aW, aX, aV, aB, aN, aL, aP, aH]
  refine ib_intro (fun h2 => ?_) (fun h2 => ?_)
  · simp (disch := ((try simp only [List.length_set, List.length_replicate, List.length_append, List.length_cons, List.length_nil]); omega)) only [aW, aX, aV, aB, aN, aL, aP, aH, r_ref09_Reach]
    refine post_err ⟨?_, rfl⟩
    unfold visitR; rw [if_neg (by simp [h1]), if_pos h2]; rfl
  have hst : (List.replicate n.toNat false).set v.toNat true = start0 n v := rfl
  have hsl := start_len n v
  simp (disch := ((try simp only [List.length_set, List.length_replicate, List.length_append, List.length_cons, List.length_nil]); omega)) only [aW, aX, aV, aB, aN, aL, aP, aH, hst]
  refine AWP.loopP g_ref09_Reach_0 (fun k : Nat => k ≤ n.toNat) (fun k => [(7, .v (.int .i64 k))]) (fun k => [(1, ⟨0, bools (iterN (relaxAll l) k (start0 n v))⟩)]) (fun k => n.toNat - k) 0 (by omega) ?_ ?_
  · simp (disch := ((try simp only [List.length_set, List.length_replicate, List.length_append, List.length_cons, List.length_nil]); omega)) only [aW, aX, aV, aB, aN, aL, aP, aH]
    exact Cut.of' 2 rfl (by omega) (by simp (disch := first | omega | simp (disch := omega) only [aF, aL, aN]) only [aW, aX, aV, aB, aN, aL, aP, aH, aF, Int.natCast_add, Int.natCast_mul, Int.add_sub_cancel, List.length_nil, Int.cast_ofNat_Int, and_true, true_and, iterN]) (by simp (disch := first | omega | simp (disch := omega) only [aF, aL, aN]) only [aW, aX, aV, aB, aN, aL, aP, aH, aF, Int.natCast_add, Int.natCast_mul, Int.add_sub_cancel, List.length_nil, Int.cast_ofNat_Int, and_true, true_and])
  rintro k hk
  have hil := (iter_len l k (start0 n v)).trans hsl
  by_cases hlt : k < n.toNat
  · simp (disch := ((try simp only [List.length_set, List.length_replicate, List.length_append, List.length_cons, List.length_nil]); omega)) only [aW, aX, aV, aB, aN, aL, aP, aH]
    refine AWP.loopP g_ref09_Reach_1 (fun i : Nat => i ≤ l.length) (fun i => [(8, .v (.int .i64 i))]) (fun i => [(1, ⟨0, bools ((l.take i).foldl relax1 (iterN (relaxAll l) k (start0 n v)))⟩)]) (fun i => l.length - i) 0 (by omega) ?_ ?_
    · simp (disch := ((try simp only [List.length_set, List.length_replicate, List.length_append, List.length_cons, List.length_nil]); omega)) only [aW, aX, aV, aB, aN, aL, aP, aH]
      exact Cut.of' 2 rfl (by omega) (by simp (disch := first | omega | simp (disch := omega) only [aF, aL, aN]) only [aW, aX, aV, aB, aN, aL, aP, aH, aF, Int.natCast_add, Int.natCast_mul, Int.add_sub_cancel, List.length_nil, Int.cast_ofNat_Int, and_true, true_and, List.take_zero, List.foldl_nil]) (by simp (disch := first | omega | simp (disch := omega) only [aF, aL, aN]) only [aW, aX, aV, aB, aN, aL, aP, aH, aF, Int.natCast_add, Int.natCast_mul, Int.add_sub_cancel, List.length_nil, Int.cast_ofNat_Int, and_true, true_and])
    rintro i hi
    have hfl : ((l.take i).foldl relax1 (iterN (relaxAll l) k (start0 n v))).length = n.toNat := (relaxAll_len (l.take i) _).trans hil
    by_cases hlt2 : i < l.length
    · have hmem : l.getD i (0, 0) ∈ l := by simp [List.getD_eq_getElem?_getD, hlt2]
      obtain ⟨⟨r1, r2⟩, r3, r4⟩ := c4 _ hmem
      simp (disch := ((try simp only [List.length_set, List.length_replicate, List.length_append, List.length_cons, List.length_nil]); omega)) only [aW, aX, aV, aB, aN, aL, aP, aH]
      refine ⟨i + 1, by omega, by omega, ?_⟩
      rw [take_succ_get l i (0, 0) hlt2, List.foldl_append]
      exact Cut.of' 2 rfl (by omega) (by simp (disch := first | omega | simp (disch := omega) only [aF, aL, aN]) only [aW, aX, aV, aB, aN, aL, aP, aH, aF, Int.natCast_add, Int.natCast_mul, Int.add_sub_cancel, List.length_nil, Int.cast_ofNat_Int, and_true, true_and, setB_cons, setB_nil, List.foldl_cons, List.foldl_nil, relax1]) (by simp (disch := first | omega | simp (disch := omega) only [aF, aL, aN]) only [aW, aX, aV, aB, aN, aL, aP, aH, aF, Int.natCast_add, Int.natCast_mul, Int.add_sub_cancel, List.length_nil, Int.cast_ofNat_Int, and_true, true_and])
    · have hil2 : i = l.length := by omega
      subst hil2
      simp (disch := ((try simp only [List.length_set, List.length_replicate, List.length_append, List.length_cons, List.length_nil]); omega)) only [aW, aX, aV, aB, aN, aL, aP, aH]
      refine ⟨k + 1, by omega, by omega, ?_⟩
      rw [List.take_length]
      exact Cut.of' 2 rfl (by omega) (by simp (disch := first | omega | simp (disch := omega) only [aF, aL, aN]) only [aW, aX, aV, aB, aN, aL, aP, aH, aF, Int.natCast_add, Int.natCast_mul, Int.add_sub_cancel, List.length_nil, Int.cast_ofNat_Int, and_true, true_and, setB_cons, setB_nil, iterN, relaxAll]) (by simp (disch := first | omega | simp (disch := omega) only [aF, aL, aN]) only [aW, aX, aV, aB, aN, aL, aP, aH, aF, Int.natCast_add, Int.natCast_mul, Int.add_sub_cancel, List.length_nil, Int.cast_ofNat_Int, and_true, true_and])
  · have hkn : k = n.toNat := by omega
    subst hkn
    simp (disch := ((try simp only [List.length_set, List.length_replicate, List.length_append, List.length_cons, List.length_nil]); omega)) only [aW, aX, aV, aB, aN, aL, aP, aH, r_ref09_Reach]
    refine post0 (r := .tup [.fs true (bools (reachL n l v)), .v (.int .i64 0)]) (Fz.tup ⟨fz_slB _ _ _ _ _ _ (by omega) (reachL_len n l v).symm rfl, Fz.refl rfl, trivial⟩) ⟨?_, rfl⟩
    unfold visitR; rw [if_neg (by simp [h1]), if_neg h2]

theorem arcBad_swap (n : Int) (a : Int × Int) : arcBad n a.swap ↔ arcBad n a := by unfold arcBad Prod.swap; simp only; omega
theorem gcheck_back (n : Int) (l : Arcs) : gcheck n (backL l) = gcheck n l := by
  unfold gcheck
  have h1 : (backL l).length = l.length := by simp [backL]
  have h2 : (∃ i, i < l.length ∧ arcBad n ((backL l).getD i (0, 0))) ↔ ∃ i, i < l.length ∧ arcBad n (l.getD i (0, 0)) := by
    refine exists_congr fun i => and_congr_right fun hi => ?_
    rw [← arcBad_swap]
    simp [backL, List.getD_eq_getElem?_getD, hi]
  simp only [h1, h2]
theorem visitR_back (n : Int) (l : Arcs) (v : Int) : visitR n (backL l) (backL l) v = visitR n l (backL l) v := by unfold visitR; rw [gcheck_back]

theorem refBack_vr {w : Bool} (n : Int) (l : Arcs) (v : Int) : VR P false n_ref09_Back [graphA w n l, .v (.int .i64 v)] [] (isR (.tup [.fs true (bools (visitR n l (backL l) v).1), .v (.int .i64 (visitR n l (backL l) v).2)])) := by
  refine vr_ref09_Back (by simp) (.inr rfl) fun _ _ => ?_
  unfold graphA
  simp (disch := ((try simp only [List.length_set, List.length_replicate, List.length_append, List.length_cons, List.length_nil]); omega)) only [aW, aX, aV, aB, aN, aL, aP, aH, s_ref09_Back, v_ref09_Back]
  refine (refCheck_vr (w := w) n l).same (by unfold graphA; simp (disch := first | omega | simp (disch := omega) only [aF, aL, aN]) only [aW, aX, aV, aB, aN, aL, aP, aH, aF, Int.natCast_add, Int.natCast_mul, Int.add_sub_cancel, List.length_nil, Int.cast_ofNat_Int, and_true, true_and]) rfl (aret_of ?_)
  simp (disch := ((try simp only [List.length_set, List.length_replicate, List.length_append, List.length_cons, List.length_nil]); omega)) only [aW, aX, aV, aB, aN, aL, aP, aH]
  refine ib_intro (fun h1 => ?_) (fun h1 => ?_)
  · simp (disch := ((try simp only [List.length_set, List.length_replicate, List.length_append, List.length_cons, List.length_nil]); omega)) only [aW, aX, aV, aB, aN, aL, aP, aH, r_ref09_Back]
    refine post_err ⟨?_, rfl⟩
    unfold visitR; rw [if_pos h1]; rfl
  have h1 : gcheck n l = 0 := Classical.not_not.1 h1
  obtain ⟨c1, c2, c3, c4⟩ := gcheck_ok h1
  simp (disch := ((try simp only [List.length_set, List.length_replicate, List.length_append, List.length_cons, List.length_nil]); omega)) only [aW, aX, aV, aB, aN, aL, aP, aH]
  refine (refReversed_vr (w := w) n l (by omega)).same (by unfold graphA; simp (disch := first | omega | simp (disch := omega) only [aF, aL, aN]) only [aW, aX, aV, aB, aN, aL, aP, aH, aF, Int.natCast_add, Int.natCast_mul, Int.add_sub_cancel, List.length_nil, Int.cast_ofNat_Int, and_true, true_and]) (by unfold graphA; simp (disch := first | omega | simp (disch := omega) only [aF, aL, aN]) only [aW, aX, aV, aB, aN, aL, aP, aH, aF, Int.natCast_add, Int.natCast_mul, Int.add_sub_cancel, List.length_nil, Int.cast_ofNat_Int, and_true, true_and]) (aret_of ?_)
  unfold graphA
  simp (disch := ((try simp only [List.length_set, List.length_replicate, List.length_append, List.length_cons, List.length_nil]); omega)) only [aW, aX, aV, aB, aN, aL, aP, aH]
  have hv := refReach_vr (w := true) n (backL l) v
  rw [visitR_back] at hv
  refine hv.same (by unfold graphA; simp (disch := first | omega | simp (disch := omega) only [aF, aL, aN]) only [aW, aX, aV, aB, aN, aL, aP, aH, aF, Int.natCast_add, Int.natCast_mul, Int.add_sub_cancel, List.length_nil, Int.cast_ofNat_Int, and_true, true_and]) (by simp (disch := first | omega | simp (disch := omega) only [aF, aL, aN]) only [aW, aX, aV, aB, aN, aL, aP, aH, aF, Int.natCast_add, Int.natCast_mul, Int.add_sub_cancel, List.length_nil, Int.cast_ofNat_Int, and_true, true_and]) (aret_of ?_)
  simp (disch := ((try simp only [List.length_set, List.length_replicate, List.length_append, List.length_cons, List.length_nil]); omega)) only [aW, aX, aV, aB, aN, aL, aP, aH, r_ref09_Back]
  exact post0 (Fz.refl (by simp (disch := first | omega | simp (disch := omega) only [aF, aL, aN]) only [aW, aX, aV, aB, aN, aL, aP, aH, aF, Int.natCast_add, Int.natCast_mul, Int.add_sub_cancel, List.length_nil, Int.cast_ofNat_Int, and_true, true_and])) ⟨rfl, rfl⟩
end Go.Proofs.Ytjhdedifmhkhbaa
