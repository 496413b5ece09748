/- The examples of the chapter; what is large. No statement is claimed here. -/
import Derived.Test.YtaiidcelopfjlaaGp
namespace Go.Proofs.Ytaiidcelopfjlaa
open Go Go.Lft
set_option linter.unusedSimpArgs false
set_option linter.unusedVariables false
attribute [local congr] ob_congr bw_congr ib_congr ck_congr iwA_congr itA_congr aw_congr awp_congr sqA_congr bkA_congr vr_congr gd_congr

theorem large_vr {w : Bool} (n : Int) (l : Arcs) : VR P false n_law09_large [graphA w n l] [] (isR (.v (.bool (decide (l.length > (600 : Int)))))) := by
  refine vr_law09_large (by simp) (.inr rfl) fun _ _ => ?_
  unfold graphA
  simp (disch := ((try simp only [List.length_set, List.length_replicate, List.length_append, List.length_cons, List.length_nil]); omega)) only [aW, aX, aV, aB, aN, aL, aP, aH, s_law09_large, v_law09_large, r_law09_large]
  exact post_v ⟨rfl, rfl⟩

theorem ex1 : orderR 3 [(2, 0), (0, 1)] = ([2, 0, 1], 0) := by decide
theorem ex2 : cycR 3 [(0, 1), (1, 2), (2, 0), (2, 1)] = ([1, 2], 0) := by decide
theorem ex3 : groupsR 4 [(0, 1), (1, 0), (1, 3)] = ([[0, 1], [2], [3]], 0) := by decide
theorem ex4 : orderR 1 [(0, 0)] = ([], 11) := by decide

theorem awake_vr : VR P false n_law09_awake [] [] (isR (.v (.bool true))) := by
  refine vr_law09_awake (by simp) (.inr rfl) fun _ _ => ?_
  have h1 := order_vr (w := false) 3 [(2, 0), (0, 1)]
  have h2 := cycle_vr (w := false) 3 [(0, 1), (1, 2), (2, 0), (2, 1)]
  have h3 := groups_vr (w := false) 4 [(0, 1), (1, 0), (1, 3)]
  have h4 := order_vr (w := false) 1 [(0, 0)]
  rw [ex1] at h1
  rw [ex2] at h2
  rw [ex3] at h3
  rw [ex4] at h4
  simp (disch := ((try simp only [List.length_set, List.length_replicate, List.length_append, List.length_cons, List.length_nil]); omega)) only [aW, aX, aV, aB, aN, aL, aP, aH, s_law09_awake, v_law09_awake]
  refine h1.use ⟨Ld.agg ⟨Ld.refl rfl, ld_slP _ _ _ _ [(2, 0), (0, 1)] rfl rfl, trivial⟩, trivial⟩ rfl (aret_of ?_)
  simp (disch := ((try simp only [List.length_set, List.length_replicate, List.length_append, List.length_cons, List.length_nil]); omega)) only [aW, aX, aV, aB, aN, aL, aP, aH]
  refine h2.use ⟨Ld.agg ⟨Ld.refl rfl, ld_slP _ _ _ _ [(0, 1), (1, 2), (2, 0), (2, 1)] rfl rfl, trivial⟩, trivial⟩ rfl (aret_of ?_)
  simp (disch := ((try simp only [List.length_set, List.length_replicate, List.length_append, List.length_cons, List.length_nil]); omega)) only [aW, aX, aV, aB, aN, aL, aP, aH]
  refine h3.use ⟨Ld.agg ⟨Ld.refl rfl, ld_slP _ _ _ _ [(0, 1), (1, 0), (1, 3)] rfl rfl, trivial⟩, trivial⟩ rfl (aret_of ?_)
  simp (disch := ((try simp only [List.length_set, List.length_replicate, List.length_append, List.length_cons, List.length_nil]); omega)) only [aW, aX, aV, aB, aN, aL, aP, aH]
  refine h4.use ⟨Ld.agg ⟨Ld.refl rfl, ld_slP _ _ _ _ [(0, 0)] rfl rfl, trivial⟩, trivial⟩ rfl (aret_of ?_)
  simp (disch := ((try simp only [List.length_set, List.length_replicate, List.length_append, List.length_cons, List.length_nil]); omega)) only [aW, aX, aV, aB, aN, aL, aP, aH]
  refine (refInts_vr (w := true) (v := false) [2, 0, 1] [2, 0, 1] (by decide)).use ⟨Ld.refl rfl, ld_slI _ _ _ _ [2, 0, 1] rfl rfl, trivial⟩ rfl (aret_of ?_)
  rw [show decide (([2, 0, 1] : List Int) = [2, 0, 1]) = true from by decide]
  simp (disch := ((try simp only [List.length_set, List.length_replicate, List.length_append, List.length_cons, List.length_nil]); omega)) only [aW, aX, aV, aB, aN, aL, aP, aH]
  refine (refInts_vr (w := true) (v := false) [1, 2] [1, 2] (by decide)).use ⟨Ld.refl rfl, ld_slI _ _ _ _ [1, 2] rfl rfl, trivial⟩ rfl (aret_of ?_)
  rw [show decide (([1, 2] : List Int) = [1, 2]) = true from by decide]
  simp (disch := ((try simp only [List.length_set, List.length_replicate, List.length_append, List.length_cons, List.length_nil]); omega)) only [aW, aX, aV, aB, aN, aL, aP, aH]
  refine (refLists_vr (w := true) (v := false) (w' := true) (v' := false) [[0, 1], [2], [3]] [[0, 1], [2], [3]] (by decide) (by decide)).use ⟨Ld.refl rfl, Ld.sl (r := rows false [[0, 1], [2], [3]]) rfl ⟨ld_slI _ _ _ _ [0, 1] rfl rfl, ld_slI _ _ _ _ [2] rfl rfl, ld_slI _ _ _ _ [3] rfl rfl, trivial⟩ rfl rfl (by decide), trivial⟩ rfl (aret_of ?_)
  rw [show decide (([[0, 1], [2], [3]] : List (List Int)) = [[0, 1], [2], [3]]) = true from by decide]
  simp (disch := ((try simp only [List.length_set, List.length_replicate, List.length_append, List.length_cons, List.length_nil]); omega)) only [aW, aX, aV, aB, aN, aL, aP, aH, r_law09_awake]
  exact post_v ⟨rfl, rfl⟩
end Go.Proofs.Ytaiidcelopfjlaa
