/- slices.Contains; graph.distances and graph.follow. No statement is claimed here. -/
import Derived.Test.YtaiidcelopfjlaaGm
namespace Go.Proofs.Ytaiidcelopfjlaa
open Go Go.Lft
set_option linter.unusedSimpArgs false
set_option linter.unusedVariables false
attribute [local congr] ob_congr bw_congr ib_congr ck_congr iwA_congr itA_congr aw_congr awp_congr sqA_congr bkA_congr vr_congr gd_congr

def idxL (xs : List Int) (x : Int) : Int := low (fun i => xs.getD i 0 == x) 0 xs.length
theorem index_vr {w : Bool} (xs : List Int) (hl : xs.length < 1000000000) (x : Int) : VR P false n_slices_Indexint_int [.fs w (ints xs), .v (.int .i64 x)] [] (isR (.v (.int .i64 (idxL xs x)))) := by
  refine vr_slices_Indexint_int (by simp) (.inr rfl) fun _ _ => ?_
  simp (disch := ((try simp only [List.length_set, List.length_replicate, List.length_append, List.length_cons, List.length_nil]); omega)) only [aW, aX, aV, aB, aN, aL, aP, aH, s_slices_Indexint_int, v_slices_Indexint_int]
  refine AWP.loopP g_slices_Indexint_int_0 (fun i : Nat => i ≤ xs.length ∧ ∀ j, j < i → xs.getD j 0 ≠ x) (fun i => [(2, .v (.int .i64 0)), (3, .v (.int .i64 i))]) (fun _ => []) (fun i => xs.length - i) 0 (by simp) (by refine Cut.of' (0) ?_ (by omega) ?_ ?_ <;> simp (disch := first | omega | simp (disch := omega) only [aF, aL, aN]) only [aW, aX, aV, aB, aN, aL, aP, aH, aF, Int.natCast_add, Int.natCast_mul, Int.add_sub_cancel, List.length_nil, Int.cast_ofNat_Int, and_true, true_and]) ?_
  rintro i ⟨hi, hno⟩
  by_cases hlt : i < xs.length
  · by_cases hx : x = xs.getD i 0
    · simp (disch := ((try simp only [List.length_set, List.length_replicate, List.length_append, List.length_cons, List.length_nil]); omega)) only [aW, aX, aV, aB, aN, aL, aP, aH, r_slices_Indexint_int]
      refine post_v ⟨?_, rfl⟩
      congr 3
      exact (low_eq.2 ⟨by omega, by omega, by rw [beq_iff_eq]; exact hx.symm, fun j _ hj => by simpa using hno j hj⟩).symm
    · simp (disch := ((try simp only [List.length_set, List.length_replicate, List.length_append, List.length_cons, List.length_nil]); omega)) only [aW, aX, aV, aB, aN, aL, aP, aH]
      refine ⟨i + 1, ⟨by omega, fun j hj => ?_⟩, by omega, (by refine Cut.of' (0) ?_ (by omega) ?_ ?_ <;> simp (disch := first | omega | simp (disch := omega) only [aF, aL, aN]) only [aW, aX, aV, aB, aN, aL, aP, aH, aF, Int.natCast_add, Int.natCast_mul, Int.add_sub_cancel, List.length_nil, Int.cast_ofNat_Int, and_true, true_and])⟩
      by_cases hji : j = i
      · subst hji; exact fun hc => hx hc.symm
      · exact hno j (by omega)
  · have hie : i = xs.length := by omega
    subst hie
    simp (disch := ((try simp only [List.length_set, List.length_replicate, List.length_append, List.length_cons, List.length_nil]); omega)) only [aW, aX, aV, aB, aN, aL, aP, aH, r_slices_Indexint_int]
    refine post_v ⟨?_, rfl⟩
    congr 3
    exact (low_m1 (low_neg.2 fun j _ hj => by simpa using hno j (by omega))).symm
theorem idxL_iff (xs : List Int) (x : Int) : 0 ≤ idxL xs x ↔ x ∈ xs := by
  constructor
  · intro h
    obtain ⟨k, hk⟩ := low_nat (p := fun i => xs.getD i 0 == x) (b := 0) (m := xs.length) (by unfold idxL at h; omega)
    obtain ⟨_, h2, h3, _⟩ := low_eq.1 hk
    have hk' : k < xs.length := by omega
    rw [beq_iff_eq] at h3
    rw [← h3]; simp [List.getD_eq_getElem?_getD, hk']
  · intro h
    obtain ⟨k, hk, rfl⟩ := List.mem_iff_getElem.1 h
    apply Int.not_lt.1; intro hc
    have := low_neg.1 hc k (by omega) (by omega)
    simp [List.getD_eq_getElem?_getD, hk] at this
theorem contains_vr {w : Bool} (xs : List Int) (hl : xs.length < 1000000000) (x : Int) : VR P false n_slices_Containsint_int [.fs w (ints xs), .v (.int .i64 x)] [] (isR (.v (.bool (decide (x ∈ xs))))) := by
  refine vr_slices_Containsint_int (by simp) (.inr rfl) fun _ _ => ?_
  simp (disch := ((try simp only [List.length_set, List.length_replicate, List.length_append, List.length_cons, List.length_nil]); omega)) only [aW, aX, aV, aB, aN, aL, aP, aH, s_slices_Containsint_int, v_slices_Containsint_int]
  refine (index_vr (w := w) xs hl x).same (by simp (disch := first | omega | simp (disch := omega) only [aF, aL, aN]) only [aW, aX, aV, aB, aN, aL, aP, aH, aF, Int.natCast_add, Int.natCast_mul, Int.add_sub_cancel, List.length_nil, Int.cast_ofNat_Int, and_true, true_and]) rfl (aret_of ?_)
  simp (disch := ((try simp only [List.length_set, List.length_replicate, List.length_append, List.length_cons, List.length_nil]); omega)) only [aW, aX, aV, aB, aN, aL, aP, aH, r_slices_Containsint_int]
  refine post_v ⟨?_, rfl⟩
  exact vdec (idxL_iff xs x)

theorem ii_one' (xs : List Int) : (ints xs).all A.one = true := by
  rw [List.all_eq_true]; intro a ha
  simp only [ints, List.mem_map] at ha
  obtain ⟨y, _, rfl⟩ := ha; rfl
theorem follow_vr {w : Bool} (n : Int) (l : Arcs) (hn : n ≤ 64) (hl : l.length ≤ 512) (hr : inR n l) (x d : Int) (F : Nat → Int) :
    VR P false n_graph_follow [graphA w n l, .v (.int .i64 x), .v (.int .i64 d), .agg (ints (tabI 64 F))] [] (isR (.v (.int .i64 (folL l (fun u => F u.toNat == d) x)))) := by
  refine vr_graph_follow (by simp) (.inr rfl) fun _ _ => ?_
  unfold graphA
  have hTl := tabI_len 64 F
  have hone := ii_one' (tabI 64 F)
  simp (disch := ((try simp only [List.length_set, List.length_replicate, List.length_append, List.length_cons, List.length_nil]); omega)) only [aW, aX, aV, aB, aN, aL, aP, aH, s_graph_follow, v_graph_follow, hone]
  refine AWP.loopP g_graph_follow_0 (fun i : Nat => i ≤ l.length) (fun i => [(5, .v (.int .i64 ((l.take i).foldl (folS (fun u => F u.toNat == d) x) (-1)))), (7, .v (.int .i64 i))]) (fun _ => []) (fun i => l.length - i) 0 (by omega) ?_ ?_
  · simp (disch := ((try simp only [List.length_set, List.length_replicate, List.length_append, List.length_cons, List.length_nil]); omega)) only [aW, aX, aV, aB, aN, aL, aP, aH]
    exact Cut.of' 2 rfl (by omega) (by simp (disch := first | omega | simp (disch := omega) only [aF, aL, aN]) only [aW, aX, aV, aB, aN, aL, aP, aH, aF, Int.natCast_add, Int.natCast_mul, Int.add_sub_cancel, List.length_nil, Int.cast_ofNat_Int, and_true, true_and]) (by simp (disch := first | omega | simp (disch := omega) only [aF, aL, aN]) only [aW, aX, aV, aB, aN, aL, aP, aH, aF, Int.natCast_add, Int.natCast_mul, Int.add_sub_cancel, List.length_nil, Int.cast_ofNat_Int, and_true, true_and, List.take_zero, List.foldl_nil])
  rintro i hi
  by_cases hil : i < l.length
  · have hmem : l.getD i (0, 0) ∈ l := by simp [List.getD_eq_getElem?_getD, hil]
    obtain ⟨⟨r1, r2⟩, r3, r4⟩ := hr _ hmem
    have hg2 := tabI_get 64 F (l.getD i (0, 0)).2.toNat (by omega)
    simp (disch := ((try simp only [List.length_set, List.length_replicate, List.length_append, List.length_cons, List.length_nil]); omega)) only [aW, aX, aV, aB, aN, aL, aP, aH, hg2]
    refine ib_intro (fun h3 => ?_) (fun h3 => ?_)
    · have hnx := fol_hit l (fun u => F u.toNat == d) x hil ⟨h3.1.1, by simpa using h3.1.2, h3.2⟩
      simp (disch := ((try simp only [List.length_set, List.length_replicate, List.length_append, List.length_cons, List.length_nil]); omega)) only [aW, aX, aV, aB, aN, aL, aP, aH]
      refine ⟨i + 1, by omega, by omega, ?_⟩
      rw [hnx]
      exact Cut.of' 2 rfl (by omega) (by simp (disch := first | omega | simp (disch := omega) only [aF, aL, aN]) only [aW, aX, aV, aB, aN, aL, aP, aH, aF, Int.natCast_add, Int.natCast_mul, Int.add_sub_cancel, List.length_nil, Int.cast_ofNat_Int, and_true, true_and]) (by simp (disch := first | omega | simp (disch := omega) only [aF, aL, aN]) only [aW, aX, aV, aB, aN, aL, aP, aH, aF, Int.natCast_add, Int.natCast_mul, Int.add_sub_cancel, List.length_nil, Int.cast_ofNat_Int, and_true, true_and])
    · have hnx := fol_miss l (fun u => F u.toNat == d) x hil (fun hc => h3 ⟨⟨hc.1, by simpa using hc.2.1⟩, hc.2.2⟩)
      simp (disch := ((try simp only [List.length_set, List.length_replicate, List.length_append, List.length_cons, List.length_nil]); omega)) only [aW, aX, aV, aB, aN, aL, aP, aH]
      refine ⟨i + 1, by omega, by omega, ?_⟩
      rw [hnx]
      exact Cut.of' 2 rfl (by omega) (by simp (disch := first | omega | simp (disch := omega) only [aF, aL, aN]) only [aW, aX, aV, aB, aN, aL, aP, aH, aF, Int.natCast_add, Int.natCast_mul, Int.add_sub_cancel, List.length_nil, Int.cast_ofNat_Int, and_true, true_and]) (by simp (disch := first | omega | simp (disch := omega) only [aF, aL, aN]) only [aW, aX, aV, aB, aN, aL, aP, aH, aF, Int.natCast_add, Int.natCast_mul, Int.add_sub_cancel, List.length_nil, Int.cast_ofNat_Int, and_true, true_and])
  · have hie : i = l.length := by omega
    subst hie
    rw [List.take_length]
    simp (disch := ((try simp only [List.length_set, List.length_replicate, List.length_append, List.length_cons, List.length_nil]); omega)) only [aW, aX, aV, aB, aN, aL, aP, aH, r_graph_follow]
    exact post_v ⟨rfl, rfl⟩
end Go.Proofs.Ytaiidcelopfjlaa
