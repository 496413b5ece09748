/- The reference's distances and cycle. No statement is claimed here. -/
import Derived.Test.YtaiidcelopfjlaaGk
namespace Go.Proofs.Ytaiidcelopfjlaa
open Go Go.Lft
set_option linter.unusedSimpArgs false
set_option linter.unusedVariables false
attribute [local congr] ob_congr bw_congr ib_congr ck_congr iwA_congr itA_congr aw_congr awp_congr sqA_congr bkA_congr vr_congr gd_congr

theorem tabI_repN (N : Nat) : List.replicate N (0 : Int) = tabI N fun _ => 0 := tabI_rep N
theorem rFnd_len (l : Arcs) (t : Int) (k i : Nat) : (rFnd l t k i).length ≤ i := by
  unfold rFnd
  have h1 := List.length_filter_le (rHit l t k) (l.take i)
  simp at h1 ⊢; omega
theorem rFnd_next (l : Arcs) (t : Int) (k : Nat) {i : Nat} (hi : i < l.length) : rFnd l t k (i + 1) = if rHit l t k (l.getD i (0, 0)) = true then rFnd l t k i ++ [(l.getD i (0, 0)).1] else rFnd l t k i := by
  unfold rFnd
  rw [take_succ_get l i (0, 0) hi, List.filter_append]
  by_cases h : rHit l t k (l.getD i (0, 0)) = true
  · rw [if_pos h]; simp only [List.filter_cons, h, if_true, List.filter_nil, List.map_append, List.map_cons, List.map_nil]
  · rw [if_neg h]; simp only [List.filter_cons, h, List.filter_nil, List.map_append, List.map_nil, List.append_nil]; simp
theorem rFnd_in {n : Int} {l : Arcs} (hr : inR n l) (t : Int) (k i : Nat) : ∀ v ∈ rFnd l t k i, 0 ≤ v ∧ v < n := by
  intro v hv
  simp only [rFnd, List.mem_map, List.mem_filter] at hv
  obtain ⟨a, ⟨h1, _⟩, rfl⟩ := hv
  exact (hr a (List.mem_of_mem_take h1)).1

theorem refDistances_vr {w : Bool} (n : Int) (l : Arcs) (h0 : 0 ≤ n) (hn : n ≤ 64) (hl : l.length ≤ 512) (hr : inR n l) (t : Int) (ht : 0 ≤ t ∧ t < n) :
    VR P false n_ref09_distances [graphA w n l, .v (.int .i64 t)] [] (isR (.fs true (ints (tabI n.toNat fun v => rT l t n.toNat v)))) := by
  refine vr_ref09_distances (by simp) (.inr rfl) fun _ _ => ?_
  unfold graphA
  simp (disch := ((try simp only [List.length_set, List.length_replicate, List.length_append, List.length_cons, List.length_nil]); omega)) only [aW, aX, aV, aB, aN, aL, aP, aH, s_ref09_distances, v_ref09_distances]
  refine AWP.loopP g_ref09_distances_0 (fun i : Nat => i ≤ n.toNat) (fun i => [(5, .v (.int .i64 i))]) (fun i => [(1, ⟨0, ints (tabI n.toNat fun v => if v < i then -1 else 0)⟩)]) (fun i => n.toNat - i) 0 (by omega) ?_ ?_
  · have e0 : tabI n.toNat (fun v => if v < 0 then (-1 : Int) else 0) = List.replicate n.toNat 0 := by
      rw [tabI_rep]; exact tabI_ext fun v _ => by rw [if_neg (by omega)]
    simp (disch := ((try simp only [List.length_set, List.length_replicate, List.length_append, List.length_cons, List.length_nil]); omega)) only [aW, aX, aV, aB, aN, aL, aP, aH, e0]
    exact Cut.of' 2 rfl (by omega) (by simp (disch := first | omega | simp (disch := omega) only [aF, aL, aN]) only [aW, aX, aV, aB, aN, aL, aP, aH, aF, Int.natCast_add, Int.natCast_mul, Int.add_sub_cancel, List.length_nil, Int.cast_ofNat_Int, and_true, true_and]) (by simp (disch := first | omega | simp (disch := omega) only [aF, aL, aN]) only [aW, aX, aV, aB, aN, aL, aP, aH, aF, Int.natCast_add, Int.natCast_mul, Int.add_sub_cancel, List.length_nil, Int.cast_ofNat_Int, and_true, true_and])
  rintro i hi
  have hTl := tabI_len n.toNat fun v => if v < i then (-1 : Int) else 0
  by_cases hlt : i < n.toNat
  · simp (disch := ((try simp only [List.length_set, List.length_replicate, List.length_append, List.length_cons, List.length_nil]); omega)) only [aW, aX, aV, aB, aN, aL, aP, aH]
    refine ⟨i + 1, by omega, by omega, ?_⟩
    have e1 : tabI n.toNat (fun v => if v < i + 1 then (-1 : Int) else 0) = (tabI n.toNat fun v => if v < i then (-1 : Int) else 0).set i (-1) := by
      rw [tabI_set _ _ _ _ hlt]
      refine tabI_ext fun v _ => ?_
      by_cases hv : v = i
      · rw [if_pos hv, if_pos (by omega)]
      · rw [if_neg hv]
        by_cases hvi : v < i
        · rw [if_pos hvi, if_pos (by omega)]
        · rw [if_neg hvi, if_neg (by omega)]
    rw [e1]
    exact Cut.of' 2 rfl (by omega) (by simp (disch := first | omega | simp (disch := omega) only [aF, aL, aN]) only [aW, aX, aV, aB, aN, aL, aP, aH, aF, Int.natCast_add, Int.natCast_mul, Int.add_sub_cancel, List.length_nil, Int.cast_ofNat_Int, and_true, true_and]) (by simp (disch := first | omega | simp (disch := omega) only [aF, aL, aN]) only [aW, aX, aV, aB, aN, aL, aP, aH, aF, Int.natCast_add, Int.natCast_mul, Int.add_sub_cancel, List.length_nil, Int.cast_ofNat_Int, and_true, true_and])
  have hin : i = n.toNat := by omega
  subst hin
  clear hTl
  simp (disch := ((try simp only [List.length_set, List.length_replicate, List.length_append, List.length_cons, List.length_nil]); omega)) only [aW, aX, aV, aB, aN, aL, aP, aH]
  refine AWP.loopP g_ref09_distances_1 (fun k : Nat => k ≤ n.toNat) (fun k => [(9, .v (.int .i64 (k + 1 : Nat)))]) (fun k => [(1, ⟨0, ints (tabI n.toNat fun v => rT l t k v)⟩)]) (fun k => n.toNat - k) 0 (by omega) ?_ ?_
  · have e0 : tabI n.toNat (fun v => if v < n.toNat then (-1 : Int) else 0) = tabI n.toNat fun v => rT l t 0 v := tabI_ext fun v hv => by rw [if_pos hv, rT_zero]
    rw [e0]
    exact Cut.of' 2 rfl (by omega) (by simp (disch := first | omega | simp (disch := omega) only [aF, aL, aN]) only [aW, aX, aV, aB, aN, aL, aP, aH, aF, Int.natCast_add, Int.natCast_mul, Int.add_sub_cancel, List.length_nil, Int.cast_ofNat_Int, and_true, true_and]) (by simp (disch := first | omega | simp (disch := omega) only [aF, aL, aN]) only [aW, aX, aV, aB, aN, aL, aP, aH, aF, Int.natCast_add, Int.natCast_mul, Int.add_sub_cancel, List.length_nil, Int.cast_ofNat_Int, and_true, true_and])
  rintro k hk
  have hTl := tabI_len n.toNat fun v => rT l t k v
  by_cases hkt : k < n.toNat
  · simp (disch := ((try simp only [List.length_set, List.length_replicate, List.length_append, List.length_cons, List.length_nil]); omega)) only [aW, aX, aV, aB, aN, aL, aP, aH]
    refine AWP.cut (Cut.virt 10 1 rfl) ?_
    refine AWP.loopP (α := Nat × Nat) g_ref09_distances_2 (fun p => p.1 ≤ l.length) (fun p => [(10, .vs 2 p.2 1 (rFnd l t k p.1).length), (11, .v (.int .i64 p.1))]) (fun p => [(2, ⟨p.2, ints (rFnd l t k p.1)⟩)]) (fun p => l.length - p.1) (0, 0) (by simp) ?_ ?_
    · have e0 : rFnd l t k 0 = [] := rfl
      simp (disch := ((try simp only [List.length_set, List.length_replicate, List.length_append, List.length_cons, List.length_nil]); omega)) only [aW, aX, aV, aB, aN, aL, aP, aH]
      exact Cut.of' 3 rfl (by omega) (by simp (disch := first | omega | simp (disch := omega) only [aF, aL, aN]) only [aW, aX, aV, aB, aN, aL, aP, aH, aF, Int.natCast_add, Int.natCast_mul, Int.add_sub_cancel, List.length_nil, Int.cast_ofNat_Int, and_true, true_and, e0, ii_nil]) (by simp (disch := first | omega | simp (disch := omega) only [aF, aL, aN]) only [aW, aX, aV, aB, aN, aL, aP, aH, aF, Int.natCast_add, Int.natCast_mul, Int.add_sub_cancel, List.length_nil, Int.cast_ofNat_Int, and_true, true_and, e0])
    rintro ⟨i, ver⟩ hi
    simp only at hi
    have hfl := rFnd_len l t k i
    by_cases hil : i < l.length
    · have hmem : l.getD i (0, 0) ∈ l := by simp [List.getD_eq_getElem?_getD, hil]
      obtain ⟨⟨r1, r2⟩, r3, r4⟩ := hr _ hmem
      have hnx := rFnd_next l t k hil
      have hg1 := tabI_get n.toNat (fun v => rT l t k v) (l.getD i (0, 0)).1.toNat (by omega)
      have hg2 := tabI_get n.toNat (fun v => rT l t k v) (l.getD i (0, 0)).2.toNat (by omega)
      rw [Int.toNat_of_nonneg r1] at hg1
      rw [Int.toNat_of_nonneg r3] at hg2
      have hh : rHit l t k (l.getD i (0, 0)) = true ↔ rT l t k (l.getD i (0, 0)).1 < 0 ∧ (if k = 0 then (l.getD i (0, 0)).2 = t else rT l t k (l.getD i (0, 0)).2 = (k : Int)) := by
        unfold rHit
        rw [Bool.and_eq_true, decide_eq_true_eq]
        split <;> simp
      by_cases h1 : rT l t k (l.getD i (0, 0)).1 < 0
      · by_cases hk0 : k = 0
        · by_cases h2 : (l.getD i (0, 0)).2 = t
          · rw [if_pos (hh.2 ⟨h1, by rw [if_pos hk0]; exact h2⟩)] at hnx
            simp (disch := ((try simp only [List.length_set, List.length_replicate, List.length_append, List.length_cons, List.length_nil]); omega)) only [aW, aX, aV, aB, aN, aL, aP, aH, hg1, hg2]
            refine ⟨(i + 1, ver + 1), by simp only; omega, by simp only; omega, ?_⟩
            simp only [hnx]
            exact Cut.of' 3 rfl (by omega) (by simp (disch := first | omega | simp (disch := omega) only [aF, aL, aN]) only [aW, aX, aV, aB, aN, aL, aP, aH, aF, Int.natCast_add, Int.natCast_mul, Int.add_sub_cancel, List.length_nil, Int.cast_ofNat_Int, and_true, true_and]) (by simp (disch := first | omega | simp (disch := omega) only [aF, aL, aN]) only [aW, aX, aV, aB, aN, aL, aP, aH, aF, Int.natCast_add, Int.natCast_mul, Int.add_sub_cancel, List.length_nil, Int.cast_ofNat_Int, and_true, true_and])
          · rw [if_neg (fun hc => h2 (by have := (hh.1 hc).2; rwa [if_pos hk0] at this))] at hnx
            simp (disch := ((try simp only [List.length_set, List.length_replicate, List.length_append, List.length_cons, List.length_nil]); omega)) only [aW, aX, aV, aB, aN, aL, aP, aH, hg1, hg2]
            refine ⟨(i + 1, ver), by simp only; omega, by simp only; omega, ?_⟩
            simp only [hnx]
            exact Cut.of' 3 rfl (by omega) (by simp (disch := first | omega | simp (disch := omega) only [aF, aL, aN]) only [aW, aX, aV, aB, aN, aL, aP, aH, aF, Int.natCast_add, Int.natCast_mul, Int.add_sub_cancel, List.length_nil, Int.cast_ofNat_Int, and_true, true_and]) (by simp (disch := first | omega | simp (disch := omega) only [aF, aL, aN]) only [aW, aX, aV, aB, aN, aL, aP, aH, aF, Int.natCast_add, Int.natCast_mul, Int.add_sub_cancel, List.length_nil, Int.cast_ofNat_Int, and_true, true_and])
        · by_cases h2 : rT l t k (l.getD i (0, 0)).2 = (k : Int)
          · rw [if_pos (hh.2 ⟨h1, by rw [if_neg hk0]; exact h2⟩)] at hnx
            simp (disch := ((try simp only [List.length_set, List.length_replicate, List.length_append, List.length_cons, List.length_nil]); omega)) only [aW, aX, aV, aB, aN, aL, aP, aH, hg1, hg2]
            refine ⟨(i + 1, ver + 1), by simp only; omega, by simp only; omega, ?_⟩
            simp only [hnx]
            exact Cut.of' 3 rfl (by omega) (by simp (disch := first | omega | simp (disch := omega) only [aF, aL, aN]) only [aW, aX, aV, aB, aN, aL, aP, aH, aF, Int.natCast_add, Int.natCast_mul, Int.add_sub_cancel, List.length_nil, Int.cast_ofNat_Int, and_true, true_and]) (by simp (disch := first | omega | simp (disch := omega) only [aF, aL, aN]) only [aW, aX, aV, aB, aN, aL, aP, aH, aF, Int.natCast_add, Int.natCast_mul, Int.add_sub_cancel, List.length_nil, Int.cast_ofNat_Int, and_true, true_and])
          · rw [if_neg (fun hc => h2 (by have := (hh.1 hc).2; rwa [if_neg hk0] at this))] at hnx
            simp (disch := ((try simp only [List.length_set, List.length_replicate, List.length_append, List.length_cons, List.length_nil]); omega)) only [aW, aX, aV, aB, aN, aL, aP, aH, hg1, hg2]
            refine ⟨(i + 1, ver), by simp only; omega, by simp only; omega, ?_⟩
            simp only [hnx]
            exact Cut.of' 3 rfl (by omega) (by simp (disch := first | omega | simp (disch := omega) only [aF, aL, aN]) only [aW, aX, aV, aB, aN, aL, aP, aH, aF, Int.natCast_add, Int.natCast_mul, Int.add_sub_cancel, List.length_nil, Int.cast_ofNat_Int, and_true, true_and]) (by simp (disch := first | omega | simp (disch := omega) only [aF, aL, aN]) only [aW, aX, aV, aB, aN, aL, aP, aH, aF, Int.natCast_add, Int.natCast_mul, Int.add_sub_cancel, List.length_nil, Int.cast_ofNat_Int, and_true, true_and])
      · rw [if_neg (fun hc => h1 (hh.1 hc).1)] at hnx
        simp (disch := ((try simp only [List.length_set, List.length_replicate, List.length_append, List.length_cons, List.length_nil]); omega)) only [aW, aX, aV, aB, aN, aL, aP, aH, hg1, hg2]
        refine ⟨(i + 1, ver), by simp only; omega, by simp only; omega, ?_⟩
        simp only [hnx]
        exact Cut.of' 3 rfl (by omega) (by simp (disch := first | omega | simp (disch := omega) only [aF, aL, aN]) only [aW, aX, aV, aB, aN, aL, aP, aH, aF, Int.natCast_add, Int.natCast_mul, Int.add_sub_cancel, List.length_nil, Int.cast_ofNat_Int, and_true, true_and]) (by simp (disch := first | omega | simp (disch := omega) only [aF, aL, aN]) only [aW, aX, aV, aB, aN, aL, aP, aH, aF, Int.natCast_add, Int.natCast_mul, Int.add_sub_cancel, List.length_nil, Int.cast_ofNat_Int, and_true, true_and])
    · have hie : i = l.length := by omega
      subst hie
      simp (disch := ((try simp only [List.length_set, List.length_replicate, List.length_append, List.length_cons, List.length_nil]); omega)) only [aW, aX, aV, aB, aN, aL, aP, aH]
      refine AWP.loopP g_ref09_distances_3 (fun j : Nat => j ≤ (rFnd l t k l.length).length) (fun j => [(16, .v (.int .i64 j))]) (fun j => [(1, ⟨0, ints (tabI n.toNat fun v => if (v : Int) ∈ (rFnd l t k l.length).take j then ((k + 1 : Nat) : Int) else rT l t k v)⟩)]) (fun j => (rFnd l t k l.length).length - j) 0 (by omega) ?_ ?_
      · have e0 : tabI n.toNat (fun v => if (v : Int) ∈ (rFnd l t k l.length).take 0 then ((k + 1 : Nat) : Int) else rT l t k v) = tabI n.toNat fun v => rT l t k v := tabI_ext fun v _ => by rw [List.take_zero, if_neg (by simp)]
        rw [e0]
        exact Cut.of' 3 rfl (by omega) (by simp (disch := first | omega | simp (disch := omega) only [aF, aL, aN]) only [aW, aX, aV, aB, aN, aL, aP, aH, aF, Int.natCast_add, Int.natCast_mul, Int.add_sub_cancel, List.length_nil, Int.cast_ofNat_Int, and_true, true_and]) (by simp (disch := first | omega | simp (disch := omega) only [aF, aL, aN]) only [aW, aX, aV, aB, aN, aL, aP, aH, aF, Int.natCast_add, Int.natCast_mul, Int.add_sub_cancel, List.length_nil, Int.cast_ofNat_Int, and_true, true_and])
      rintro j hj
      have hTj := tabI_len n.toNat fun v => if (v : Int) ∈ (rFnd l t k l.length).take j then ((k + 1 : Nat) : Int) else rT l t k v
      by_cases hjt : j < (rFnd l t k l.length).length
      · have hfm : (rFnd l t k l.length).getD j 0 ∈ rFnd l t k l.length := by simp [List.getD_eq_getElem?_getD, hjt]
        obtain ⟨q1, q2⟩ := rFnd_in hr t k l.length _ hfm
        simp (disch := ((try simp only [List.length_set, List.length_replicate, List.length_append, List.length_cons, List.length_nil]); omega)) only [aW, aX, aV, aB, aN, aL, aP, aH]
        refine ⟨j + 1, by omega, by omega, ?_⟩
        have e1 : tabI n.toNat (fun v => if (v : Int) ∈ (rFnd l t k l.length).take (j + 1) then ((k + 1 : Nat) : Int) else rT l t k v) = (tabI n.toNat fun v => if (v : Int) ∈ (rFnd l t k l.length).take j then ((k + 1 : Nat) : Int) else rT l t k v).set ((rFnd l t k l.length).getD j 0).toNat ((k + 1 : Nat) : Int) := by
          rw [tabI_set _ _ _ _ (by omega)]
          refine tabI_ext fun v _ => ?_
          rw [take_succ_get _ j 0 hjt]
          by_cases hv : v = ((rFnd l t k l.length).getD j 0).toNat
          · rw [if_pos hv, if_pos]
            rw [List.mem_append]; right; rw [List.mem_singleton]; omega
          · rw [if_neg hv]
            have : (v : Int) ∈ (rFnd l t k l.length).take j ++ [(rFnd l t k l.length).getD j 0] ↔ (v : Int) ∈ (rFnd l t k l.length).take j := by
              rw [List.mem_append, List.mem_singleton]
              exact ⟨fun h => h.resolve_right (by omega), .inl⟩
            simp only [this]
        rw [e1]
        exact Cut.of' 3 rfl (by omega) (by simp (disch := first | omega | simp (disch := omega) only [aF, aL, aN]) only [aW, aX, aV, aB, aN, aL, aP, aH, aF, Int.natCast_add, Int.natCast_mul, Int.add_sub_cancel, List.length_nil, Int.cast_ofNat_Int, and_true, true_and]) (by simp (disch := first | omega | simp (disch := omega) only [aF, aL, aN]) only [aW, aX, aV, aB, aN, aL, aP, aH, aF, Int.natCast_add, Int.natCast_mul, Int.add_sub_cancel, List.length_nil, Int.cast_ofNat_Int, and_true, true_and])
      · have hje : j = (rFnd l t k l.length).length := by omega
        subst hje
        simp (disch := ((try simp only [List.length_set, List.length_replicate, List.length_append, List.length_cons, List.length_nil]); omega)) only [aW, aX, aV, aB, aN, aL, aP, aH]
        refine ⟨k + 1, by omega, by omega, ?_⟩
        have e1 : tabI n.toNat (fun v => if (v : Int) ∈ rFnd l t k l.length then ((k + 1 : Nat) : Int) else rT l t k v) = tabI n.toNat fun v => rT l t (k + 1) v := tabI_ext fun v _ => by rw [rT_next]
        rw [e1]
        exact Cut.of' 2 rfl (by omega) (by simp (disch := first | omega | simp (disch := omega) only [aF, aL, aN]) only [aW, aX, aV, aB, aN, aL, aP, aH, aF, Int.natCast_add, Int.natCast_mul, Int.add_sub_cancel, List.length_nil, Int.cast_ofNat_Int, and_true, true_and]) (by simp (disch := first | omega | simp (disch := omega) only [aF, aL, aN]) only [aW, aX, aV, aB, aN, aL, aP, aH, aF, Int.natCast_add, Int.natCast_mul, Int.add_sub_cancel, List.length_nil, Int.cast_ofNat_Int, and_true, true_and])
  · have hkn : k = n.toNat := by omega
    subst hkn
    simp (disch := ((try simp only [List.length_set, List.length_replicate, List.length_append, List.length_cons, List.length_nil]); omega)) only [aW, aX, aV, aB, aN, aL, aP, aH, r_ref09_distances]
    exact post0 (fz_slI _ _ _ _ _ _ (by omega) (by omega) (by simp (disch := ((try simp only [List.length_set, List.length_replicate, List.length_append, List.length_cons, List.length_nil]); omega)) only [aW, aX, aV, aB, aN, aL, aP, aH])) ⟨rfl, rfl⟩
end Go.Proofs.Ytaiidcelopfjlaa
