/- graph.Cycle. No statement is claimed here. -/
import Derived.Test.YtaiidcelopfjlaaGo
namespace Go.Proofs.Ytaiidcelopfjlaa
open Go Go.Lft
set_option linter.unusedSimpArgs false
set_option linter.unusedVariables false
attribute [local congr] ob_congr bw_congr ib_congr ck_congr iwA_congr itA_congr aw_congr awp_congr sqA_congr bkA_congr vr_congr gd_congr

def dL (l : Arcs) (s : Int) : List Int := tabI 64 fun v => gDist l s v
theorem dL_len (l : Arcs) (s : Int) : (ints (dL l s)).length = 64 := by simp only [ints, List.length_map]; exact tabI_len _ _
theorem dL_spl (l : Arcs) (s : Int) (T : List Int) (hT : T.length = 64) : splA (ints T) 0 (ints (dL l s)) = ints (dL l s) := by
  unfold splA
  rw [List.take_zero, List.nil_append, List.drop_of_length_le, List.append_nil]
  rw [dL_len]; simp only [ints, List.length_map, hT]; omega
theorem dL_take (l : Arcs) (s : Int) : (ints (dL l s)).take 64 = ints (dL l s) := List.take_of_length_le (by rw [dL_len]; omega)
theorem follow1_vr {w : Bool} (n : Int) (l : Arcs) (hn : n ≤ 64) (hl : l.length ≤ 512) (hr : inR n l) (s x : Int) (d : Nat) :
    VR P false n_graph_follow [graphA w n l, .v (.int .i64 x), .v (.int .i64 d), .agg (ints (dL l s))] [] (isR (.v (.int .i64 (folL l (fun u => gDist l s u == (d : Int)) x)))) := by
  have h := follow_vr (w := w) n l hn hl hr x d (fun v => gDist l s v)
  have e : folL l (fun u => gDist l s (u.toNat : Nat) == (d : Int)) x = folL l (fun u => gDist l s u == (d : Int)) x :=
    fol_congr hr fun a ha _ => by rw [Int.toNat_of_nonneg (hr a ha).2.1]
  rw [e] at h
  exact h
theorem distances1_vr {w : Bool} (n : Int) (l : Arcs) (h0 : 0 ≤ n) (hn : n ≤ 64) (hl : l.length ≤ 512) (hr : inR n l) (s : Int) (hs : 0 ≤ s ∧ s < n) :
    VR P false n_graph_distances [graphA w n l, .v (.int .i64 s)] [] (isR (.agg (ints (dL l s)))) := distances_vr n l h0 hn hl hr s hs

theorem cycle_vr {w : Bool} (n : Int) (l : Arcs) : VR P false n_graph_Cycle [graphA w n l] [] (isR (.tup [.fs true (ints (cycR n l).1), .v (.int .i64 (cycR n l).2)])) := by
  refine vr_graph_Cycle (by simp) (.inr rfl) fun _ _ => ?_
  unfold graphA
  simp (disch := ((try simp only [List.length_set, List.length_replicate, List.length_append, List.length_cons, List.length_nil]); omega)) only [aW, aX, aV, aB, aN, aL, aP, aH, s_graph_Cycle, v_graph_Cycle]
  refine (check_vr (w := w) n l).same (by unfold graphA; simp (disch := first | omega | simp (disch := omega) only [aF, aL, aN]) only [aW, aX, aV, aB, aN, aL, aP, aH, aF, Int.natCast_add, Int.natCast_mul, Int.add_sub_cancel, List.length_nil, Int.cast_ofNat_Int, and_true, true_and]) rfl (aret_of ?_)
  simp (disch := ((try simp only [List.length_set, List.length_replicate, List.length_append, List.length_cons, List.length_nil]); omega)) only [aW, aX, aV, aB, aN, aL, aP, aH]
  refine ib_intro (fun h1 => ?_) (fun h1 => ?_)
  · simp (disch := ((try simp only [List.length_set, List.length_replicate, List.length_append, List.length_cons, List.length_nil]); omega)) only [aW, aX, aV, aB, aN, aL, aP, aH, r_graph_Cycle]
    refine post_err ⟨?_, rfl⟩
    unfold cycR; rw [if_pos h1]; rfl
  have h1 : gcheck n l = 0 := Classical.not_not.1 h1
  obtain ⟨c1, c2, c3, c4⟩ := gcheck_ok h1
  simp (disch := ((try simp only [List.length_set, List.length_replicate, List.length_append, List.length_cons, List.length_nil]); omega)) only [aW, aX, aV, aB, aN, aL, aP, aH]
  refine AWP.loopM (α := Nat × List Int) g_graph_Cycle_0 (fun p => p.1 ≤ n.toNat ∧ p.2.length = 64 ∧ ∀ i, i < p.1 → ∀ v : Nat, v < n.toNat → gAt l v i = false) (fun p => [(5, .v (.int .i64 (-1))), (6, .v (.int .i64 0)), (7, .v (.int .i64 (p.1 + 1 : Nat)))])
    (fun p => [⟨0, [.v (.int .i64 n), .fs w (pairs l)]⟩, ⟨0, ints p.2⟩]) (fun p => n.toNat - p.1) (0, List.replicate 64 0) ⟨by simp, by simp, fun i hi => by simp only at hi; omega⟩ ?_ ?_
  · simp (disch := ((try simp only [List.length_set, List.length_replicate, List.length_append, List.length_cons, List.length_nil]); omega)) only [aW, aX, aV, aB, aN, aL, aP, aH]
    exact Cut.of' 2 rfl (by omega) (by simp (disch := first | omega | simp (disch := omega) only [aF, aL, aN]) only [aW, aX, aV, aB, aN, aL, aP, aH, aF, Int.natCast_add, Int.natCast_mul, Int.add_sub_cancel, List.length_nil, Int.cast_ofNat_Int, and_true, true_and]) (by simp (disch := first | omega | simp (disch := omega) only [aF, aL, aN]) only [aW, aX, aV, aB, aN, aL, aP, aH, aF, Int.natCast_add, Int.natCast_mul, Int.add_sub_cancel, List.length_nil, Int.cast_ofNat_Int, and_true, true_and])
  rintro ⟨k, T⟩ ⟨hk, hT, hno⟩
  simp only at hk hT hno
  by_cases hkt : k < n.toNat
  · simp (disch := ((try simp only [List.length_set, List.length_replicate, List.length_append, List.length_cons, List.length_nil]); omega)) only [aW, aX, aV, aB, aN, aL, aP, aH]
    refine AWP.loopM (α := Nat × List Int) g_graph_Cycle_1 (fun p => p.1 ≤ n.toNat ∧ p.2.length = 64 ∧ ∀ v : Nat, v < p.1 → gAt l v k = false) (fun p => [(5, .v (.int .i64 (-1))), (6, .v (.int .i64 0)), (8, .v (.int .i64 p.1))])
      (fun p => [⟨0, [.v (.int .i64 n), .fs w (pairs l)]⟩, ⟨0, ints p.2⟩]) (fun p => n.toNat - p.1) (0, T) ⟨by simp, hT, fun i hi => by simp only at hi; omega⟩ ?_ ?_
    · try simp (disch := ((try simp only [List.length_set, List.length_replicate, List.length_append, List.length_cons, List.length_nil]); omega)) only [aW, aX, aV, aB, aN, aL, aP, aH]
      exact Cut.of' 2 rfl (by omega) (by simp (disch := first | omega | simp (disch := omega) only [aF, aL, aN]) only [aW, aX, aV, aB, aN, aL, aP, aH, aF, Int.natCast_add, Int.natCast_mul, Int.add_sub_cancel, List.length_nil, Int.cast_ofNat_Int, and_true, true_and]) (by simp (disch := first | omega | simp (disch := omega) only [aF, aL, aN]) only [aW, aX, aV, aB, aN, aL, aP, aH, aF, Int.natCast_add, Int.natCast_mul, Int.add_sub_cancel, List.length_nil, Int.cast_ofNat_Int, and_true, true_and])
    rintro ⟨s, T'⟩ ⟨hs, hT', hno'⟩
    simp only at hs hT' hno'
    by_cases hst : s < n.toNat
    · simp (disch := ((try simp only [List.length_set, List.length_replicate, List.length_append, List.length_cons, List.length_nil]); omega)) only [aW, aX, aV, aB, aN, aL, aP, aH]
      refine (distances1_vr (w := w) n l c1 c2 c3 c4 s ⟨by omega, by omega⟩).same (by unfold graphA; simp (disch := first | omega | simp (disch := omega) only [aF, aL, aN]) only [aW, aX, aV, aB, aN, aL, aP, aH, aF, Int.natCast_add, Int.natCast_mul, Int.add_sub_cancel, List.length_nil, Int.cast_ofNat_Int, and_true, true_and]) (by simp (disch := first | omega | simp (disch := omega) only [aF, aL, aN]) only [aW, aX, aV, aB, aN, aL, aP, aH, aF, Int.natCast_add, Int.natCast_mul, Int.add_sub_cancel, List.length_nil, Int.cast_ofNat_Int, and_true, true_and]) (aret_of ?_)
      have hone := ii_one' (dL l s)
      have hle : (dL l s).length = 64 := tabI_len _ _
      have hk1 : ((k + 1 : Nat) : Int) - 1 = (k : Nat) := by omega
      simp (disch := ((try simp only [List.length_set, List.length_replicate, List.length_append, List.length_cons, List.length_nil]); omega)) only [aW, aX, aV, aB, aN, aL, aP, aH, hone, dL_spl l s T' hT', dL_take l s, hk1]
      refine (follow1_vr (w := w) n l c2 c3 c4 s s k).same (by unfold graphA; simp (disch := first | omega | simp (disch := omega) only [aF, aL, aN]) only [aW, aX, aV, aB, aN, aL, aP, aH, aF, Int.natCast_add, Int.natCast_mul, Int.add_sub_cancel, List.length_nil, Int.cast_ofNat_Int, and_true, true_and]) (by simp (disch := first | omega | simp (disch := omega) only [aF, aL, aN]) only [aW, aX, aV, aB, aN, aL, aP, aH, aF, Int.natCast_add, Int.natCast_mul, Int.add_sub_cancel, List.length_nil, Int.cast_ofNat_Int, and_true, true_and]) (aret_of ?_)
      by_cases hf : 0 ≤ folL l (fun u => gDist l s u == (k : Int)) s
      · obtain ⟨g1, g2⟩ := search_found c4 c2 hst hkt (by unfold gAt; exact decide_eq_true hf) hno hno'
        obtain ⟨m1, m2, m3, m4⟩ := cN_eq g2.eq
        simp (disch := ((try simp only [List.length_set, List.length_replicate, List.length_append, List.length_cons, List.length_nil]); omega)) only [aW, aX, aV, aB, aN, aL, aP, aH]
        refine AWP.loopP g_graph_Cycle_2 (fun j : Nat => j < k + 1) (fun j => [(13, .sl 2 j 1 0 (j + 1)), (14, .v (.int .i64 (k - j : Nat)))]) (fun j => [(2, ⟨j, ints (cst l (gQ l s (k + 1)) s j).1⟩)]) (fun j => k - j) 0 (by omega) ?_ ?_
        · simp (disch := ((try simp only [List.length_set, List.length_replicate, List.length_append, List.length_cons, List.length_nil]); omega)) only [aW, aX, aV, aB, aN, aL, aP, aH]
          exact Cut.of' 3 rfl (by omega) (by simp (disch := first | omega | simp (disch := omega) only [aF, aL, aN]) only [aW, aX, aV, aB, aN, aL, aP, aH, aF, Int.natCast_add, Int.natCast_mul, Int.add_sub_cancel, List.length_nil, Int.cast_ofNat_Int, and_true, true_and, cst, ii_one]) (by simp (disch := first | omega | simp (disch := omega) only [aF, aL, aN]) only [aW, aX, aV, aB, aN, aL, aP, aH, aF, Int.natCast_add, Int.natCast_mul, Int.add_sub_cancel, List.length_nil, Int.cast_ofNat_Int, and_true, true_and])
        rintro j hj
        have hcl := cst_len l (gQ l s (k + 1)) s j
        have hla := cst_last l (gQ l s (k + 1)) s j
        have hidx : ((j + 1 : Nat) - 1 : Int).toNat = j := by omega
        by_cases hjt : j < k
        · simp (disch := ((try simp only [List.length_set, List.length_replicate, List.length_append, List.length_cons, List.length_nil]); omega)) only [aW, aX, aV, aB, aN, aL, aP, aH, hidx, hla, dL_take l s]
          refine (follow1_vr (w := w) n l c2 c3 c4 s (cst l (gQ l s (k + 1)) s j).2 (k - j)).same (by unfold graphA; simp (disch := first | omega | simp (disch := omega) only [aF, aL, aN]) only [aW, aX, aV, aB, aN, aL, aP, aH, aF, Int.natCast_add, Int.natCast_mul, Int.add_sub_cancel, List.length_nil, Int.cast_ofNat_Int, and_true, true_and]) (by simp (disch := first | omega | simp (disch := omega) only [aF, aL, aN]) only [aW, aX, aV, aB, aN, aL, aP, aH, aF, Int.natCast_add, Int.natCast_mul, Int.add_sub_cancel, List.length_nil, Int.cast_ofNat_Int, and_true, true_and]) (aret_of ?_)
          simp (disch := ((try simp only [List.length_set, List.length_replicate, List.length_append, List.length_cons, List.length_nil]); omega)) only [aW, aX, aV, aB, aN, aL, aP, aH]
          refine ⟨j + 1, by omega, by omega, ?_⟩
          have e1 : ((k - j : Nat) : Int) - 1 = (k - (j + 1) : Nat) := by omega
          have e2 : gQ l s (k + 1) j = fun u => gDist l s u == ((k - j : Nat) : Int) := rfl
          simp only [cst, e1, e2]
          exact Cut.of' 3 rfl (by omega) (by simp (disch := first | omega | simp (disch := omega) only [aF, aL, aN]) only [aW, aX, aV, aB, aN, aL, aP, aH, aF, Int.natCast_add, Int.natCast_mul, Int.add_sub_cancel, List.length_nil, Int.cast_ofNat_Int, and_true, true_and]) (by simp (disch := first | omega | simp (disch := omega) only [aF, aL, aN]) only [aW, aX, aV, aB, aN, aL, aP, aH, aF, Int.natCast_add, Int.natCast_mul, Int.add_sub_cancel, List.length_nil, Int.cast_ofNat_Int, and_true, true_and])
        · have hjk : j = k := by omega
          subst hjk
          simp (disch := ((try simp only [List.length_set, List.length_replicate, List.length_append, List.length_cons, List.length_nil]); omega)) only [aW, aX, aV, aB, aN, aL, aP, aH, r_graph_Cycle]
          refine post0 (r := .tup [.fs true (ints (cst l (gQ l s (j + 1)) s j).1), .v (.int .i64 0)]) (Fz.tup ⟨fz_slI _ _ _ _ _ _ (by omega) hcl.symm (by simp (disch := ((try simp only [List.length_set, List.length_replicate, List.length_append, List.length_cons, List.length_nil]); omega)) only [aW, aX, aV, aB, aN, aL, aP, aH]), Fz.refl rfl, trivial⟩) ⟨?_, rfl⟩
          have hsame := (cst_same c4 c2 g2 j (by omega)).1
          unfold cycR; rw [if_neg (by simp [h1]), g1, if_neg (by simp only; omega), hsame]; rfl
      · simp (disch := ((try simp only [List.length_set, List.length_replicate, List.length_append, List.length_cons, List.length_nil]); omega)) only [aW, aX, aV, aB, aN, aL, aP, aH]
        refine ⟨(s + 1, dL l s), ⟨by simp only; omega, tabI_len _ _, fun v hv => ?_⟩, by simp only; omega, ?_⟩
        · simp only at hv
          by_cases hvs : v = s
          · subst hvs; unfold gAt; exact decide_eq_false hf
          · exact hno' v (by omega)
        · exact Cut.of' 2 rfl (by omega) (by simp (disch := first | omega | simp (disch := omega) only [aF, aL, aN]) only [aW, aX, aV, aB, aN, aL, aP, aH, aF, Int.natCast_add, Int.natCast_mul, Int.add_sub_cancel, List.length_nil, Int.cast_ofNat_Int, and_true, true_and]) (by simp (disch := first | omega | simp (disch := omega) only [aF, aL, aN]) only [aW, aX, aV, aB, aN, aL, aP, aH, aF, Int.natCast_add, Int.natCast_mul, Int.add_sub_cancel, List.length_nil, Int.cast_ofNat_Int, and_true, true_and])
    · have hse : s = n.toNat := by omega
      subst hse
      simp (disch := ((try simp only [List.length_set, List.length_replicate, List.length_append, List.length_cons, List.length_nil]); omega)) only [aW, aX, aV, aB, aN, aL, aP, aH]
      refine ⟨(k + 1, T'), ⟨by simp only; omega, hT', fun i hi v hv => ?_⟩, by simp only; omega, ?_⟩
      · simp only at hi
        by_cases hik : i = k
        · subst hik; exact hno' v hv
        · exact hno i (by omega) v hv
      · exact Cut.of' 2 rfl (by omega) (by simp (disch := first | omega | simp (disch := omega) only [aF, aL, aN]) only [aW, aX, aV, aB, aN, aL, aP, aH, aF, Int.natCast_add, Int.natCast_mul, Int.add_sub_cancel, List.length_nil, Int.cast_ofNat_Int, and_true, true_and]) (by simp (disch := first | omega | simp (disch := omega) only [aF, aL, aN]) only [aW, aX, aV, aB, aN, aL, aP, aH, aF, Int.natCast_add, Int.natCast_mul, Int.add_sub_cancel, List.length_nil, Int.cast_ofNat_Int, and_true, true_and])
  · have hkn : k = n.toNat := by omega
    subst hkn
    have g1 := search_none c4 c2 hno
    simp (disch := ((try simp only [List.length_set, List.length_replicate, List.length_append, List.length_cons, List.length_nil]); omega)) only [aW, aX, aV, aB, aN, aL, aP, aH, r_graph_Cycle]
    refine post_err ⟨?_, rfl⟩
    unfold cycR; rw [if_neg (by simp [h1]), g1, if_pos (by decide)]; rfl
end Go.Proofs.Ytaiidcelopfjlaa
