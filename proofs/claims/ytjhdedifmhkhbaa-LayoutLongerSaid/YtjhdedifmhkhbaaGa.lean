/- graph.Check and its reference. No statement is claimed here. -/
import Derived.Test.YtjhdedifmhkhbaaFns
namespace Go.Proofs.Ytjhdedifmhkhbaa
open Go Go.Lft
set_option linter.unusedSimpArgs false
attribute [local congr] ob_congr bw_congr ib_congr ck_congr iwA_congr itA_congr aw_congr awp_congr sqA_congr bkA_congr vr_congr gd_congr

abbrev Arcs := List (Int × Int)
def arcBad (n : Int) (a : Int × Int) : Prop := ((a.1 < 0 ∨ n ≤ a.1) ∨ a.2 < 0) ∨ n ≤ a.2
instance (n : Int) (a : Int × Int) : Decidable (arcBad n a) := inferInstanceAs (Decidable (((a.1 < 0 ∨ n ≤ a.1) ∨ a.2 < 0) ∨ n ≤ a.2))
/-- The error of a graph. -/
def gcheck (n : Int) (l : Arcs) : Int := if n < 0 ∨ 64 < n then 1 else if 512 < l.length then 8 else if ∃ i, i < l.length ∧ arcBad n (l.getD i (0, 0)) then 7 else 0
def graphA (w : Bool) (n : Int) (l : Arcs) : A := .agg [.v (.int .i64 n), .fs w (pairs l)]

theorem check_vr {w : Bool} (n : Int) (l : Arcs) : VR P false n_graph_Check [graphA w n l] [] (isR (.v (.int .i64 (gcheck n l)))) := by
  refine vr_graph_Check (by simp) (.inr rfl) fun _ _ => ?_
  unfold graphA
  simp (disch := ((try simp only [List.length_set, List.length_replicate, List.length_append, List.length_cons, List.length_nil]); omega)) only [aW, aX, aV, aB, aN, aL, aP, aH, s_graph_Check, v_graph_Check]
  refine ib_intro (fun h1 => ?_) (fun h1 => ?_)
  · simp (disch := ((try simp only [List.length_set, List.length_replicate, List.length_append, List.length_cons, List.length_nil]); omega)) only [aW, aX, aV, aB, aN, aL, aP, aH, r_graph_Check]
    exact post_v ⟨by simp [gcheck, h1], rfl⟩
  simp (disch := ((try simp only [List.length_set, List.length_replicate, List.length_append, List.length_cons, List.length_nil]); omega)) only [aW, aX, aV, aB, aN, aL, aP, aH]
  refine ib_intro (fun h2 => ?_) (fun h2 => ?_)
  · simp (disch := ((try simp only [List.length_set, List.length_replicate, List.length_append, List.length_cons, List.length_nil]); omega)) only [aW, aX, aV, aB, aN, aL, aP, aH, r_graph_Check]
    exact post_v ⟨by unfold gcheck; rw [if_neg h1, if_pos (by omega)], rfl⟩
  simp (disch := ((try simp only [List.length_set, List.length_replicate, List.length_append, List.length_cons, List.length_nil]); omega)) only [aW, aX, aV, aB, aN, aL, aP, aH]
  refine AWP.loopP g_graph_Check_0 (fun k : Nat => k ≤ l.length ∧ ∀ i, i < k → ¬ arcBad n (l.getD i (0, 0))) (fun k => [(1, .v (.int .i64 0)), (3, .v (.int .i64 k))]) (fun _ => []) (fun k => l.length - k) 0 ⟨by omega, fun i hi => by omega⟩ (by refine Cut.of' (1) ?_ (by omega) ?_ ?_ <;> simp (disch := first | omega | simp (disch := omega) only [aF, aL, aN]) only [aW, aX, aV, aB, aN, aL, aP, aH, aF, Int.natCast_add, Int.natCast_mul, Int.add_sub_cancel, List.length_nil, Int.cast_ofNat_Int, and_true, true_and]) ?_
  rintro k ⟨hk, hg⟩
  by_cases hlt : k < l.length
  · simp (disch := ((try simp only [List.length_set, List.length_replicate, List.length_append, List.length_cons, List.length_nil]); omega)) only [aW, aX, aV, aB, aN, aL, aP, aH]
    refine ib_intro (fun h3 => ?_) (fun h3 => ?_)
    · simp (disch := ((try simp only [List.length_set, List.length_replicate, List.length_append, List.length_cons, List.length_nil]); omega)) only [aW, aX, aV, aB, aN, aL, aP, aH, r_graph_Check]
      refine post_v ⟨?_, rfl⟩
      unfold gcheck; rw [if_neg h1, if_neg (by omega), if_pos ⟨k, hlt, h3⟩]
    · simp (disch := ((try simp only [List.length_set, List.length_replicate, List.length_append, List.length_cons, List.length_nil]); omega)) only [aW, aX, aV, aB, aN, aL, aP, aH]
      refine ⟨k + 1, ⟨by omega, fun i hi => ?_⟩, by omega, ?_⟩
      · rcases Nat.lt_succ_iff_lt_or_eq.1 hi with h | rfl
        · exact hg i h
        · exact h3
      · exact (by refine Cut.of' (1) ?_ (by omega) ?_ ?_ <;> simp (disch := first | omega | simp (disch := omega) only [aF, aL, aN]) only [aW, aX, aV, aB, aN, aL, aP, aH, aF, Int.natCast_add, Int.natCast_mul, Int.add_sub_cancel, List.length_nil, Int.cast_ofNat_Int, and_true, true_and])
  · simp (disch := ((try simp only [List.length_set, List.length_replicate, List.length_append, List.length_cons, List.length_nil]); omega)) only [aW, aX, aV, aB, aN, aL, aP, aH, r_graph_Check]
    refine post_v ⟨?_, rfl⟩
    unfold gcheck; rw [if_neg h1, if_neg (by omega), if_neg]
    rintro ⟨i, hi, hb⟩; exact hg i (by omega) hb

theorem refCheck_vr {w : Bool} (n : Int) (l : Arcs) : VR P false n_ref09_Check [graphA w n l] [] (isR (.v (.int .i64 (gcheck n l)))) := by
  refine vr_ref09_Check (by simp) (.inr rfl) fun _ _ => ?_
  unfold graphA
  simp (disch := ((try simp only [List.length_set, List.length_replicate, List.length_append, List.length_cons, List.length_nil]); omega)) only [aW, aX, aV, aB, aN, aL, aP, aH, s_ref09_Check, v_ref09_Check]
  refine ib_intro (fun h1 => ?_) (fun h1 => ?_)
  · simp (disch := ((try simp only [List.length_set, List.length_replicate, List.length_append, List.length_cons, List.length_nil]); omega)) only [aW, aX, aV, aB, aN, aL, aP, aH, r_ref09_Check]
    exact post_v ⟨by simp [gcheck, h1], rfl⟩
  simp (disch := ((try simp only [List.length_set, List.length_replicate, List.length_append, List.length_cons, List.length_nil]); omega)) only [aW, aX, aV, aB, aN, aL, aP, aH]
  refine ib_intro (fun h2 => ?_) (fun h2 => ?_)
  · simp (disch := ((try simp only [List.length_set, List.length_replicate, List.length_append, List.length_cons, List.length_nil]); omega)) only [aW, aX, aV, aB, aN, aL, aP, aH, r_ref09_Check]
    exact post_v ⟨by unfold gcheck; rw [if_neg h1, if_pos (by omega)], rfl⟩
  simp (disch := ((try simp only [List.length_set, List.length_replicate, List.length_append, List.length_cons, List.length_nil]); omega)) only [aW, aX, aV, aB, aN, aL, aP, aH]
  refine AWP.loopP g_ref09_Check_0 (fun k : Nat => k ≤ l.length ∧ ∀ i, i < k → ¬ arcBad n (l.getD i (0, 0))) (fun k => [(1, .v (.int .i64 0)), (3, .v (.int .i64 k))]) (fun _ => []) (fun k => l.length - k) 0 ⟨by omega, fun i hi => by omega⟩ (by refine Cut.of' (1) ?_ (by omega) ?_ ?_ <;> simp (disch := first | omega | simp (disch := omega) only [aF, aL, aN]) only [aW, aX, aV, aB, aN, aL, aP, aH, aF, Int.natCast_add, Int.natCast_mul, Int.add_sub_cancel, List.length_nil, Int.cast_ofNat_Int, and_true, true_and]) ?_
  rintro k ⟨hk, hg⟩
  by_cases hlt : k < l.length
  · simp (disch := ((try simp only [List.length_set, List.length_replicate, List.length_append, List.length_cons, List.length_nil]); omega)) only [aW, aX, aV, aB, aN, aL, aP, aH]
    refine ib_intro (fun h3 => ?_) (fun h3 => ?_)
    · simp (disch := ((try simp only [List.length_set, List.length_replicate, List.length_append, List.length_cons, List.length_nil]); omega)) only [aW, aX, aV, aB, aN, aL, aP, aH, r_ref09_Check]
      refine post_v ⟨?_, rfl⟩
      unfold gcheck; rw [if_neg h1, if_neg (by omega), if_pos ⟨k, hlt, h3⟩]
    · simp (disch := ((try simp only [List.length_set, List.length_replicate, List.length_append, List.length_cons, List.length_nil]); omega)) only [aW, aX, aV, aB, aN, aL, aP, aH]
      refine ⟨k + 1, ⟨by omega, fun i hi => ?_⟩, by omega, ?_⟩
      · rcases Nat.lt_succ_iff_lt_or_eq.1 hi with h | rfl
        · exact hg i h
        · exact h3
      · exact (by refine Cut.of' (1) ?_ (by omega) ?_ ?_ <;> simp (disch := first | omega | simp (disch := omega) only [aF, aL, aN]) only [aW, aX, aV, aB, aN, aL, aP, aH, aF, Int.natCast_add, Int.natCast_mul, Int.add_sub_cancel, List.length_nil, Int.cast_ofNat_Int, and_true, true_and])
  · simp (disch := ((try simp only [List.length_set, List.length_replicate, List.length_append, List.length_cons, List.length_nil]); omega)) only [aW, aX, aV, aB, aN, aL, aP, aH, r_ref09_Check]
    refine post_v ⟨?_, rfl⟩
    unfold gcheck; rw [if_neg h1, if_neg (by omega), if_neg]
    rintro ⟨i, hi, hb⟩; exact hg i (by omega) hb
end Go.Proofs.Ytjhdedifmhkhbaa
