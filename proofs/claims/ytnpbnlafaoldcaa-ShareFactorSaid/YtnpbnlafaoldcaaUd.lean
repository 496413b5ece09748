/- The walk of ShareFactor. -/
import Derived.Test.YtnpbnlafaoldcaaUc
namespace Go.Proofs.Ytnpbnlafaoldcaa
open Go Go.Lft
set_option linter.unusedSimpArgs false
set_option linter.unusedVariables false
attribute [local congr] ob_congr bw_congr ib_congr ck_congr iwA_congr itA_congr aw_congr awp_congr sqA_congr bkA_congr vr_congr gd_congr

theorem spR_le {t : Int} {ws p q : List Int} (hp : SpR t ws p) (hq : SpR t ws q) : ∀ i, i < ws.length → p.getD i 0 ≤ q.getD i 0 := fun i hi => by
  apply Classical.byContradiction; intro hc
  have h1 := hp.two i hi
  have h2 := hq.two i hi
  have hpl := hp.len
  have hql := hq.len
  -- somewhere else it is the other way
  have h3 : ∃ j, j < ws.length ∧ p.getD j 0 < q.getD j 0 := by
    apply Classical.byContradiction; intro hn
    have h4 := sum_le_p (q.set i (q.getD i 0 + 1)) p (by simp; omega) fun l hl => by
      simp only [List.length_set] at hl
      rw [getD_seti]
      split
      · rename_i h; rw [← h.1]; omega
      · apply Classical.byContradiction; intro hx; exact hn ⟨l, by omega, by omega⟩
    rw [sum_seti _ _ _ (by omega), hp.sum, hq.sum] at h4
    omega
  obtain ⟨j, hj, h5⟩ := h3
  have h6 := hp.two j hj
  have h7 := hq.two j hj
  have h8 := hp.low i j hi hj (by omega) (by omega)
  have h9 := hq.low j i hj hi (by omega) (by omega)
  omega
theorem spR_unique {t : Int} {ws p q : List Int} (hp : SpR t ws p) (hq : SpR t ws q) : p = q := by
  refine eq_of_getS 0 (by rw [hp.len, hq.len]) fun i hi => ?_
  rw [hp.len] at hi
  have h1 := spR_le hp hq i hi
  have h2 := spR_le hq hp i hi
  omega
def mulL (ws : List Int) (k : Int) : List Int := ws.map (· * k)
theorem mulL_len (ws : List Int) (k : Int) : (mulL ws k).length = ws.length := by simp [mulL]
theorem mulL_get (ws : List Int) (k : Int) (i : Nat) (h : i < ws.length) : (mulL ws k).getD i 0 = ws.getD i 0 * k := by simp [mulL, List.getD_eq_getElem?_getD, h]
theorem mulL_sum (k : Int) : ∀ ws : List Int, (mulL ws k).sum = ws.sum * k
  | [] => by simp [mulL]
  | a :: l => by
    have := mulL_sum k l
    simp only [mulL, List.map_cons, List.sum_cons] at this ⊢
    rw [this, Int.add_mul]
theorem mulL_succ (ws : List Int) (k : Int) (i : Nat) (h : i < ws.length) : mulL (ws.take i) k ++ [ws.getD i 0 * k] = mulL (ws.take (i + 1)) k := by
  rw [List.take_succ_eq_append_getElem h]
  simp only [mulL, List.map_append, List.map_cons, List.map_nil]
  rw [List.getD_eq_getElem?_getD, List.getElem?_eq_getElem h, Option.getD_some]
theorem spR_mul {t k : Int} {ws p : List Int} (hk : 0 < k) (h : SpR t (mulL ws k) p) : SpR t ws p := by
  have e1 : ∀ i, i < ws.length → t * (mulL ws k).getD i 0 / (mulL ws k).sum = t * ws.getD i 0 / ws.sum := fun i hi => by
    rw [mulL_get _ _ _ hi, mulL_sum, ← Int.mul_assoc, Int.mul_ediv_mul_of_pos_left _ _ hk]
  have e2 : ∀ i, i < ws.length → t * (mulL ws k).getD i 0 % (mulL ws k).sum = (t * ws.getD i 0 % ws.sum) * k := fun i hi => by
    rw [mulL_get _ _ _ hi, mulL_sum, ← Int.mul_assoc, Int.mul_comm _ k, Int.mul_comm ws.sum, Int.mul_emod_mul_of_pos _ _ hk, Int.mul_comm]
  have hlen := mulL_len ws k
  refine ⟨by rw [h.len, hlen], h.sum, fun i hi => ?_, fun i j hi hj h1 h2 => ?_⟩
  · have := h.two i (by omega)
    rw [e1 i hi, e2 i hi] at this
    rcases this with h1 | ⟨h1, h2⟩
    · exact .inl h1
    · refine .inr ⟨h1, ?_⟩
      apply Classical.byContradiction; intro hc
      have h3 := Int.mul_le_mul_of_nonneg_right (show t * ws.getD i 0 % ws.sum ≤ 0 by omega) (show 0 ≤ k by omega)
      rw [Int.zero_mul] at h3
      omega
  · have := h.low i j (by omega) (by omega) (by rw [e1 i hi]; exact h1) (by rw [e1 j hj]; exact h2)
    rw [e2 i hi, e2 j hj] at this
    rcases this with h3 | ⟨h3, h4⟩
    · exact .inl (Int.lt_of_mul_lt_mul_right h3 (by omega))
    · exact .inr ⟨Int.eq_of_mul_eq_mul_right (by omega) h3, h4⟩

theorem split_gen_vr {w : Bool} {t : Int} {ws : List Int} (ht : 0 ≤ t ∧ t ≤ 70368744177664) (hl : 1 ≤ ws.length ∧ ws.length ≤ 512) (hw : ∀ i, i < ws.length → 0 ≤ ws.getD i 0 ∧ ws.getD i 0 ≤ 2147483648) (hs : 0 < ws.sum) :
    VR P false n_share_Split [.v (.int .i64 t), .fs w (ints ws)] [] (isR (.tup [.fs true (ints (partsR t ws)), .v (.int .i64 0)])) ∧ SplitOk t ws ∧ SpR t ws (partsR t ws) := by
  have h0 := splitE_small ht hl hw hs
  have ok := splitE_ok h0
  have h := shareSplitA_vr (w := w) t ws
  have e : splitV t ws = (partsR t ws, 0) := by unfold splitV; rw [if_neg (by omega)]
  rw [e] at h
  exact ⟨h, ok, partsR_ok ok.sp⟩

theorem shareFactor_vr (t : Int) (ws : List Int) (k : Int) : VR P false n_law11_ShareFactor [.v (.int .i64 t), .fs true (ints ws), .v (.int .i64 k)] [] (isR (.v (.bool true))) := by
  refine vr_law11_ShareFactor (by simp) (.inr rfl) fun _ _ => ?_
  by_cases ht : t < 0 ∨ 70368744177664 < t
  · simp (disch := ((try simp only [List.length_set, List.length_replicate, List.length_append, List.length_cons, List.length_nil]); omega)) only [aW, aX, aV, aB, aN, aL, aP, aH, s_law11_ShareFactor, v_law11_ShareFactor]
    refine exampleHolds_vr.same (by simp (disch := first | omega | simp (disch := omega) only [aF, aL, aN]) only [aW, aX, aV, aB, aN, aL, aP, aH, aF, Int.natCast_add, Int.natCast_mul, Int.add_sub_cancel, List.length_nil, Int.cast_ofNat_Int, and_true, true_and]) rfl (aret_of ?_)
    simp (disch := ((try simp only [List.length_set, List.length_replicate, List.length_append, List.length_cons, List.length_nil]); omega)) only [aW, aX, aV, aB, aN, aL, aP, aH, r_law11_ShareFactor]
    exact post_v ⟨rfl, rfl⟩
  simp (disch := ((try simp only [List.length_set, List.length_replicate, List.length_append, List.length_cons, List.length_nil]); omega)) only [aW, aX, aV, aB, aN, aL, aP, aH, s_law11_ShareFactor, v_law11_ShareFactor]
  refine (small_vr (w := true) ws).useE (LdL.refl (by simp (disch := first | omega | simp (disch := omega) only [aF, aL, aN]) only [aW, aX, aV, aB, aN, aL, aP, aH, aF, Int.natCast_add, Int.natCast_mul, Int.add_sub_cancel, List.length_nil, Int.cast_ofNat_Int, and_true, true_and])) small_c ?_
  rintro r ⟨_, b, rfl, hb⟩
  refine aret_of ?_
  by_cases hg : b = true ∧ 1 ≤ k ∧ k ≤ 1000
  case neg =>
    cases b with
    | false =>
      simp (disch := ((try simp only [List.length_set, List.length_replicate, List.length_append, List.length_cons, List.length_nil]); omega)) only [aW, aX, aV, aB, aN, aL, aP, aH]
      refine exampleHolds_vr.same (by simp (disch := first | omega | simp (disch := omega) only [aF, aL, aN]) only [aW, aX, aV, aB, aN, aL, aP, aH, aF, Int.natCast_add, Int.natCast_mul, Int.add_sub_cancel, List.length_nil, Int.cast_ofNat_Int, and_true, true_and]) rfl (aret_of ?_)
      simp (disch := ((try simp only [List.length_set, List.length_replicate, List.length_append, List.length_cons, List.length_nil]); omega)) only [aW, aX, aV, aB, aN, aL, aP, aH, r_law11_ShareFactor]
      exact post_v ⟨rfl, rfl⟩
    | true =>
      have hg' : k < 1 ∨ 1000 < k := by
        apply Classical.byContradiction; intro hc; exact hg ⟨rfl, by omega, by omega⟩
      simp (disch := ((try simp only [List.length_set, List.length_replicate, List.length_append, List.length_cons, List.length_nil]); omega)) only [aW, aX, aV, aB, aN, aL, aP, aH]
      refine exampleHolds_vr.same (by simp (disch := first | omega | simp (disch := omega) only [aF, aL, aN]) only [aW, aX, aV, aB, aN, aL, aP, aH, aF, Int.natCast_add, Int.natCast_mul, Int.add_sub_cancel, List.length_nil, Int.cast_ofNat_Int, and_true, true_and]) rfl (aret_of ?_)
      simp (disch := ((try simp only [List.length_set, List.length_replicate, List.length_append, List.length_cons, List.length_nil]); omega)) only [aW, aX, aV, aB, aN, aL, aP, aH, r_law11_ShareFactor]
      exact post_v ⟨rfl, rfl⟩
  obtain ⟨rfl, k1, k2⟩ := hg
  obtain ⟨h1, h2, h3⟩ := hb rfl
  have hm : ∀ i, i < ws.length → 0 ≤ ws.getD i 0 * k ∧ ws.getD i 0 * k ≤ 1048576 * 1000 := fun i hi => mul_bd (h2 i hi) (by omega)
  have hml := mulL_len ws k
  obtain ⟨hv, ok, hsp⟩ := split_gen_vr (w := true) (t := t) (ws := ws) (by omega) (by omega) (fun i hi => by have := h2 i hi; omega) h3
  obtain ⟨hv2, ok2, hsp2⟩ := split_gen_vr (w := false) (t := t) (ws := mulL ws k) (by omega) (by omega) (fun i hi => by
    rw [mulL_get _ _ _ (by omega)]
    have := hm i (by omega); omega) (by rw [mulL_sum]; exact Int.mul_pos h3 (by omega))
  rw [spR_unique (spR_mul (by omega) hsp2) hsp] at hv2
  have hpl := hsp.len
  have htw := hsp.two
  have hz : ∀ i, i < ws.length → ws.getD i 0 = 0 → (partsR t ws).getD i 0 = 0 := fun i hi h0 => by
    have := htw i hi
    rw [h0] at this
    simp at this
    exact this
  have hs := same11_vr (w := true) (v := true) (partsR t ws) (partsR t ws) (by omega)
  rw [decide_eq_true rfl] at hs
  generalize hp : partsR t ws = p at *
  simp (disch := ((try simp only [List.length_set, List.length_replicate, List.length_append, List.length_cons, List.length_nil]); omega)) only [aW, aX, aV, aB, aN, aL, aP, aH]
  refine AWP.cut (Cut.virt 4 1 rfl) ?_
  refine AWP.loopP g_law11_ShareFactor_0 (fun i : Nat => i ≤ ws.length) (fun i => [(3, .v (.bool false)), (4, .vs 0 i 1 i), (5, .v (.int .i64 i))]) (fun i => [(0, ⟨i, ints (mulL (ws.take i) k)⟩)]) (fun i => ws.length - i) 0 (by omega) ?_ ?_
  · have z0 : mulL (ws.take 0) k = [] := by simp [mulL]
    try simp (disch := ((try simp only [List.length_set, List.length_replicate, List.length_append, List.length_cons, List.length_nil]); omega)) only [aW, aX, aV, aB, aN, aL, aP, aH]
    exact Cut.of' 1 rfl (by omega) (by simp (disch := first | omega | simp (disch := omega) only [aF, aL, aN]) only [aW, aX, aV, aB, aN, aL, aP, aH, aF, Int.natCast_add, Int.natCast_mul, Int.add_sub_cancel, List.length_nil, Int.cast_ofNat_Int, and_true, true_and, z0, ii_nil]) (by simp (disch := first | omega | simp (disch := omega) only [aF, aL, aN]) only [aW, aX, aV, aB, aN, aL, aP, aH, aF, Int.natCast_add, Int.natCast_mul, Int.add_sub_cancel, List.length_nil, Int.cast_ofNat_Int, and_true, true_and])
  rintro i hi
  have hil : (mulL (ws.take i) k).length = i := by rw [mulL_len, List.length_take]; omega
  by_cases hlt : i < ws.length
  · have hsu := mulL_succ ws k i hlt
    have hmi := hm i hlt
    simp (disch := ((try simp only [List.length_set, List.length_replicate, List.length_append, List.length_cons, List.length_nil]); omega)) only [aW, aX, aV, aB, aN, aL, aP, aH, hsu]
    refine ⟨i + 1, by omega, by omega, ?_⟩
    exact Cut.of' 1 rfl (by omega) (by simp (disch := first | omega | simp (disch := omega) only [aF, aL, aN]) only [aW, aX, aV, aB, aN, aL, aP, aH, aF, Int.natCast_add, Int.natCast_mul, Int.add_sub_cancel, List.length_nil, Int.cast_ofNat_Int, and_true, true_and]) (by simp (disch := first | omega | simp (disch := omega) only [aF, aL, aN]) only [aW, aX, aV, aB, aN, aL, aP, aH, aF, Int.natCast_add, Int.natCast_mul, Int.add_sub_cancel, List.length_nil, Int.cast_ofNat_Int, and_true, true_and])
  have hie : i = ws.length := by omega
  subst hie
  rw [List.take_length] at hil ⊢
  simp (disch := ((try simp only [List.length_set, List.length_replicate, List.length_append, List.length_cons, List.length_nil]); omega)) only [aW, aX, aV, aB, aN, aL, aP, aH]
  refine hv.same (by simp (disch := first | omega | simp (disch := omega) only [aF, aL, aN]) only [aW, aX, aV, aB, aN, aL, aP, aH, aF, Int.natCast_add, Int.natCast_mul, Int.add_sub_cancel, List.length_nil, Int.cast_ofNat_Int, and_true, true_and]) (by simp (disch := first | omega | simp (disch := omega) only [aF, aL, aN]) only [aW, aX, aV, aB, aN, aL, aP, aH, aF, Int.natCast_add, Int.natCast_mul, Int.add_sub_cancel, List.length_nil, Int.cast_ofNat_Int, and_true, true_and]) (aret_of ?_)
  simp (disch := ((try simp only [List.length_set, List.length_replicate, List.length_append, List.length_cons, List.length_nil]); omega)) only [aW, aX, aV, aB, aN, aL, aP, aH]
  refine hv2.use ⟨Ld.refl (by simp (disch := first | omega | simp (disch := omega) only [aF, aL, aN]) only [aW, aX, aV, aB, aN, aL, aP, aH, aF, Int.natCast_add, Int.natCast_mul, Int.add_sub_cancel, List.length_nil, Int.cast_ofNat_Int, and_true, true_and]), ld_vsI _ 0 ws.length _ _ hil.symm (by simp (disch := ((try simp only [List.length_set, List.length_replicate, List.length_append, List.length_cons, List.length_nil]); omega)) only [aW, aX, aV, aB, aN, aL, aP, aH]), trivial⟩ (by simp (disch := first | omega | simp (disch := omega) only [aF, aL, aN]) only [aW, aX, aV, aB, aN, aL, aP, aH, aF, Int.natCast_add, Int.natCast_mul, Int.add_sub_cancel, List.length_nil, Int.cast_ofNat_Int, and_true, true_and]) (aret_of ?_)
  simp (disch := ((try simp only [List.length_set, List.length_replicate, List.length_append, List.length_cons, List.length_nil]); omega)) only [aW, aX, aV, aB, aN, aL, aP, aH]
  refine hs.same (by simp (disch := first | omega | simp (disch := omega) only [aF, aL, aN]) only [aW, aX, aV, aB, aN, aL, aP, aH, aF, Int.natCast_add, Int.natCast_mul, Int.add_sub_cancel, List.length_nil, Int.cast_ofNat_Int, and_true, true_and]) rfl (aret_of ?_)
  simp (disch := ((try simp only [List.length_set, List.length_replicate, List.length_append, List.length_cons, List.length_nil]); omega)) only [aW, aX, aV, aB, aN, aL, aP, aH]
  refine AWP.loopP g_law11_ShareFactor_1 (fun i : Nat => i ≤ ws.length) (fun i => [(3, .v (.bool false)), (13, .v (.int .i64 i))]) (fun _ => []) (fun i => ws.length - i) 0 (by omega) ?_ ?_
  · exact Cut.of' 1 rfl (by omega) (by simp (disch := first | omega | simp (disch := omega) only [aF, aL, aN]) only [aW, aX, aV, aB, aN, aL, aP, aH, aF, Int.natCast_add, Int.natCast_mul, Int.add_sub_cancel, List.length_nil, Int.cast_ofNat_Int, and_true, true_and]) (by simp (disch := first | omega | simp (disch := omega) only [aF, aL, aN]) only [aW, aX, aV, aB, aN, aL, aP, aH, aF, Int.natCast_add, Int.natCast_mul, Int.add_sub_cancel, List.length_nil, Int.cast_ofNat_Int, and_true, true_and])
  rintro i hi
  by_cases hlt : i < ws.length
  · have hzi := hz i hlt
    by_cases h0 : ws.getD i 0 = 0
    · have hzi' := hzi h0
      simp (disch := ((try simp only [List.length_set, List.length_replicate, List.length_append, List.length_cons, List.length_nil]); omega)) only [aW, aX, aV, aB, aN, aL, aP, aH]
      refine ⟨i + 1, by omega, by omega, ?_⟩
      exact Cut.of' 1 rfl (by omega) (by simp (disch := first | omega | simp (disch := omega) only [aF, aL, aN]) only [aW, aX, aV, aB, aN, aL, aP, aH, aF, Int.natCast_add, Int.natCast_mul, Int.add_sub_cancel, List.length_nil, Int.cast_ofNat_Int, and_true, true_and]) (by simp (disch := first | omega | simp (disch := omega) only [aF, aL, aN]) only [aW, aX, aV, aB, aN, aL, aP, aH, aF, Int.natCast_add, Int.natCast_mul, Int.add_sub_cancel, List.length_nil, Int.cast_ofNat_Int, and_true, true_and])
    · simp (disch := ((try simp only [List.length_set, List.length_replicate, List.length_append, List.length_cons, List.length_nil]); omega)) only [aW, aX, aV, aB, aN, aL, aP, aH]
      refine ⟨i + 1, by omega, by omega, ?_⟩
      exact Cut.of' 1 rfl (by omega) (by simp (disch := first | omega | simp (disch := omega) only [aF, aL, aN]) only [aW, aX, aV, aB, aN, aL, aP, aH, aF, Int.natCast_add, Int.natCast_mul, Int.add_sub_cancel, List.length_nil, Int.cast_ofNat_Int, and_true, true_and]) (by simp (disch := first | omega | simp (disch := omega) only [aF, aL, aN]) only [aW, aX, aV, aB, aN, aL, aP, aH, aF, Int.natCast_add, Int.natCast_mul, Int.add_sub_cancel, List.length_nil, Int.cast_ofNat_Int, and_true, true_and])
  · have hie : i = ws.length := by omega
    subst hie
    simp (disch := ((try simp only [List.length_set, List.length_replicate, List.length_append, List.length_cons, List.length_nil]); omega)) only [aW, aX, aV, aB, aN, aL, aP, aH]
    refine exampleHolds_vr.same (by simp (disch := first | omega | simp (disch := omega) only [aF, aL, aN]) only [aW, aX, aV, aB, aN, aL, aP, aH, aF, Int.natCast_add, Int.natCast_mul, Int.add_sub_cancel, List.length_nil, Int.cast_ofNat_Int, and_true, true_and]) rfl (aret_of ?_)
    simp (disch := ((try simp only [List.length_set, List.length_replicate, List.length_append, List.length_cons, List.length_nil]); omega)) only [aW, aX, aV, aB, aN, aL, aP, aH, r_law11_ShareFactor]
    exact post_v ⟨rfl, rfl⟩
end Go.Proofs.Ytnpbnlafaoldcaa
