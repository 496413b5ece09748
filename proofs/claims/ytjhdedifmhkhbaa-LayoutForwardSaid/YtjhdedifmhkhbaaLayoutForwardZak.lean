/- Lemmas and walks that the proof of LayoutForward uses. No statement is claimed here. -/
import Derived.Test.YtjhdedifmhkhbaaLayoutForwardZaj
namespace Go.Proofs.Ytjhdedifmhkhbaa
open Go Go.Lft
set_option linter.unusedSimpArgs false
set_option linter.unusedVariables false
attribute [local congr] ob_congr bw_congr ib_congr ck_congr iwA_congr itA_congr aw_congr awp_congr sqA_congr bkA_congr vr_congr gd_congr

theorem binN_vr {w v : Bool} (p : Pl) (m : Nat) (h1 : m < p.ms.length) : VR P false n_layout_bin [plA w v p, .v (.int .i64 m)] [] (isR (.v (.bool (decide (binN p m))))) := by
  have := bin_vr (w := w) (v := v) p m (by omega) (by omega)
  rw [Int.toNat_natCast] at this; exact this
def visN (p : Pl) (mt : Int) (m j : Nat) (i : Nat) : Bool := (List.range j).any fun l => posR p mt m l == i
theorem visN_succ (p : Pl) (mt : Int) (m j i : Nat) : visN p mt m (j + 1) i = (visN p mt m j i || i == posR p mt m j) := by
  unfold visN
  rw [List.range_succ, List.any_append]
  simp only [List.any_cons, List.any_nil, Bool.or_false]
  congr 1
  by_cases h : posR p mt m j = i
  · subst h; simp
  · rw [beq_eq_false_iff_ne.2 h, beq_eq_false_iff_ne.2 (Ne.symm h)]
theorem visN_iff {p : Pl} {mt : Int} {m j i : Nat} : visN p mt m j i = true ↔ ∃ l, l < j ∧ posR p mt m l = i := by
  unfold visN; simp

theorem layoutWay_vr {w v : Bool} (p : Pl) (h : POk p) (m : Nat) (hm : m < p.ms.length) (mt : Int) (h0 : 0 ≤ mt) (h1 : mt < p.mat) : VR P false n_layout_way [plA w v p, .v (.int .i64 m), .v (.int .i64 mt)] [] (isR (wayT (wayV p mt m))) := by
  refine vr_layout_way (by simp) (.inr rfl) fun _ _ => ?_
  have hn2 := h.n2
  have hb2 := h.b2
  unfold plA plC
  simp (disch := ((try simp only [List.length_set, List.length_replicate, List.length_append, List.length_cons, List.length_nil]); omega)) only [aW, aX, aV, aB, aN, aL, aP, aH, aM, s_layout_way, v_layout_way]
  refine AWP.loopP g_layout_way_0 (fun k : Nat => k ≤ p.ms.length ∧ (∀ i, i < k → ¬ binN p (posR p mt m i)) ∧ ∀ i l, i < l → l < k → posR p mt m i ≠ posR p mt m l) (fun k => [(5, .v (.int .i64 (posR p mt m k))), (6, .v (.int .i64 (farR p mt m k)))]) (fun k => [(1, ⟨0, bools (tab 24 (visN p mt m k))⟩)]) (fun k => p.ms.length - k) 0 ⟨by omega, fun i hi => by omega, fun i l hi hl => by omega⟩ ?_ ?_
  · have e0 : tab 24 (visN p mt m 0) = List.replicate 24 false := by rw [tab_rep]; exact tab_ext fun k _ => rfl
    simp only [posR, farR, e0]
    try simp (disch := ((try simp only [List.length_set, List.length_replicate, List.length_append, List.length_cons, List.length_nil]); omega)) only [aW, aX, aV, aB, aN, aL, aP, aH, aM]
    exact Cut.of' 2 rfl (by omega) (by simp (disch := first | omega | simp (disch := omega) only [aF, aL, aN, aM]) only [aW, aX, aV, aB, aN, aL, aP, aH, aM, aF, Int.natCast_add, Int.natCast_mul, Int.add_sub_cancel, List.length_nil, Int.cast_ofNat_Int, and_true, true_and]) (by simp (disch := first | omega | simp (disch := omega) only [aF, aL, aN, aM]) only [aW, aX, aV, aB, aN, aL, aP, aH, aM, aF, Int.natCast_add, Int.natCast_mul, Int.add_sub_cancel, List.length_nil, Int.cast_ofNat_Int, and_true, true_and])
  rintro k ⟨hk, hb, hd⟩
  have hp := posR_lt h h0 h1 hm k hb
  have hf := farR_bd h h0 h1 hm k hb
  have htl := tab_len 24 (visN p mt m k)
  simp (disch := ((try simp only [List.length_set, List.length_replicate, List.length_append, List.length_cons, List.length_nil]); omega)) only [aW, aX, aV, aB, aN, aL, aP, aH, aM]
  refine (binN_vr (w := w) (v := v) p _ hp).same (by unfold plA plC; simp (disch := first | omega | simp (disch := omega) only [aF, aL, aN, aM]) only [aW, aX, aV, aB, aN, aL, aP, aH, aM, aF, Int.natCast_add, Int.natCast_mul, Int.add_sub_cancel, List.length_nil, Int.cast_ofNat_Int, and_true, true_and]) rfl (aret_of ?_)
  by_cases hbin : binN p (posR p mt m k)
  · have hw : wayV p mt m = (farR p mt m k, true) := wayR_of (by omega) hb hbin
    simp (disch := ((try simp only [List.length_set, List.length_replicate, List.length_append, List.length_cons, List.length_nil]); omega)) only [aW, aX, aV, aB, aN, aL, aP, aH, aM, decide_eq_true hbin]
    refine (binN_vr (w := w) (v := v) p _ hp).same (by unfold plA plC; simp (disch := first | omega | simp (disch := omega) only [aF, aL, aN, aM]) only [aW, aX, aV, aB, aN, aL, aP, aH, aM, aF, Int.natCast_add, Int.natCast_mul, Int.add_sub_cancel, List.length_nil, Int.cast_ofNat_Int, and_true, true_and]) rfl (aret_of ?_)
    rw [hw]
    simp (disch := ((try simp only [List.length_set, List.length_replicate, List.length_append, List.length_cons, List.length_nil]); omega)) only [aW, aX, aV, aB, aN, aL, aP, aH, aM, decide_eq_true hbin, r_layout_way]
    exact post0 (Fz.refl (by simp (disch := first | omega | simp (disch := omega) only [aF, aL, aN, aM]) only [aW, aX, aV, aB, aN, aL, aP, aH, aM, aF, Int.natCast_add, Int.natCast_mul, Int.add_sub_cancel, List.length_nil, Int.cast_ofNat_Int, and_true, true_and])) ⟨rfl, rfl⟩
  have hg := tab_get 24 (visN p mt m k) (posR p mt m k) (by omega)
  cases hv : visN p mt m k (posR p mt m k) with
  | true =>
    obtain ⟨l, l1, l2⟩ := visN_iff.1 hv
    have hnone := again_none l1 l2 hb
    have hw : wayV p mt m = (0, false) := wayR_none hnone _
    simp (disch := ((try simp only [List.length_set, List.length_replicate, List.length_append, List.length_cons, List.length_nil]); omega)) only [aW, aX, aV, aB, aN, aL, aP, aH, aM, decide_eq_false hbin, hg, hv]
    refine (binN_vr (w := w) (v := v) p _ hp).same (by unfold plA plC; simp (disch := first | omega | simp (disch := omega) only [aF, aL, aN, aM]) only [aW, aX, aV, aB, aN, aL, aP, aH, aM, aF, Int.natCast_add, Int.natCast_mul, Int.add_sub_cancel, List.length_nil, Int.cast_ofNat_Int, and_true, true_and]) rfl (aret_of ?_)
    rw [hw]
    simp (disch := ((try simp only [List.length_set, List.length_replicate, List.length_append, List.length_cons, List.length_nil]); omega)) only [aW, aX, aV, aB, aN, aL, aP, aH, aM, decide_eq_false hbin, r_layout_way]
    exact post0 (Fz.refl (by simp (disch := first | omega | simp (disch := omega) only [aF, aL, aN, aM]) only [aW, aX, aV, aB, aN, aL, aP, aH, aM, aF, Int.natCast_add, Int.natCast_mul, Int.add_sub_cancel, List.length_nil, Int.cast_ofNat_Int, and_true, true_and])) ⟨rfl, rfl⟩
  | false =>
    have hd' : ∀ i l, i < l → l < k + 1 → posR p mt m i ≠ posR p mt m l := fun i l hi hl he => by
      rcases Nat.lt_succ_iff_lt_or_eq.1 hl with h | rfl
      · exact hd i l hi h he
      · rw [visN_iff.2 ⟨i, hi, he⟩] at hv; cases hv
    have hb' : ∀ i, i < k + 1 → ¬ binN p (posR p mt m i) := fun i hi => by
      rcases Nat.lt_succ_iff_lt_or_eq.1 hi with h | rfl
      · exact hb i h
      · exact hbin
    have hk' : k + 1 ≤ p.ms.length := by
      apply Nat.le_of_not_lt; intro hc
      obtain ⟨i, l, a1, a2, a3⟩ := pigeon p.ms.length (posR p mt m) fun i hi => posR_lt h h0 h1 hm i fun l hl => hb l (by omega)
      exact hd' i l a1 (by omega) a3
    have e2 : (tab 24 (visN p mt m k)).set (posR p mt m k) true = tab 24 (visN p mt m (k + 1)) := by
      rw [tab_set _ _ _ (by omega)]
      exact tab_ext fun j _ => (visN_succ p mt m k j).symm
    obtain ⟨o1, o2, o3, o4, o5, o6, o7⟩ := out_ok h h0 h1 hp hbin
    have o1' : (findB p.bs (posR p mt m k) (mainN (p.ms.getD (posR p mt m k) []) mt)).toNat = outB p mt (posR p mt m k) := rfl
    have o8 := findB_ge p.bs (posR p mt m k) (mainN (p.ms.getD (posR p mt m k) []) mt)
    have hr4 := rows4 h hp mt
    have o9 : (p.bs.getD (outB p mt (posR p mt m k)) b0).ln = lx p mt (posR p mt m k) := rfl
    simp (disch := ((try simp only [List.length_set, List.length_replicate, List.length_append, List.length_cons, List.length_nil]); omega)) only [aW, aX, aV, aB, aN, aL, aP, aH, aM, decide_eq_false hbin, hg, hv, e2]
    refine ⟨?_, ?_, ?_⟩
    all_goals
      refine (machineMain_vr (w := w) (p.ms.getD (posR p mt m k) []) mt hr4).same (by unfold mcA mcC; simp (disch := first | omega | simp (disch := omega) only [aF, aL, aN, aM]) only [aW, aX, aV, aB, aN, aL, aP, aH, aM, aF, Int.natCast_add, Int.natCast_mul, Int.add_sub_cancel, List.length_nil, Int.cast_ofNat_Int, and_true, true_and]) rfl (aret_of ?_)
      simp (disch := ((try simp only [List.length_set, List.length_replicate, List.length_append, List.length_cons, List.length_nil]); omega)) only [aW, aX, aV, aB, aN, aL, aP, aH, aM]
      refine (find_vr (w := w) (v := v) p (by omega) (posR p mt m k) (mainN (p.ms.getD (posR p mt m k) []) mt)).same (by unfold plA plC; simp (disch := first | omega | simp (disch := omega) only [aF, aL, aN, aM]) only [aW, aX, aV, aB, aN, aL, aP, aH, aM, aF, Int.natCast_add, Int.natCast_mul, Int.add_sub_cancel, List.length_nil, Int.cast_ofNat_Int, and_true, true_and]) rfl (aret_of ?_)
      simp (disch := ((try simp only [List.length_set, List.length_replicate, List.length_append, List.length_cons, List.length_nil]); omega)) only [aW, aX, aV, aB, aN, aL, aP, aH, aM, o1', o5, o9]
      refine ⟨k + 1, ⟨hk', hb', hd'⟩, by omega, ?_⟩
      simp only [posR, farR]
      try simp (disch := ((try simp only [List.length_set, List.length_replicate, List.length_append, List.length_cons, List.length_nil]); omega)) only [aW, aX, aV, aB, aN, aL, aP, aH, aM]
      exact Cut.of' 2 rfl (by omega) (by simp (disch := first | omega | simp (disch := omega) only [aF, aL, aN, aM]) only [aW, aX, aV, aB, aN, aL, aP, aH, aM, aF, Int.natCast_add, Int.natCast_mul, Int.add_sub_cancel, List.length_nil, Int.cast_ofNat_Int, and_true, true_and]) (by simp (disch := first | omega | simp (disch := omega) only [aF, aL, aN, aM]) only [aW, aX, aV, aB, aN, aL, aP, aH, aM, aF, Int.natCast_add, Int.natCast_mul, Int.add_sub_cancel, List.length_nil, Int.cast_ofNat_Int, and_true, true_and])

/-! ### What drains -/
def drB (p : Pl) : Bool := (List.range p.ms.length).all fun m => (List.range p.mat.toNat).all fun mt => (wayV p mt m).2
theorem drB_iff {p : Pl} (h : POk p) : drB p = true ↔ ∀ m, m < p.ms.length → ∀ mt : Nat, (mt : Int) < p.mat → (wayV p mt m).2 = true := by
  unfold drB
  have := h.m1
  simp only [List.all_eq_true, List.mem_range]
  exact ⟨fun g m hm mt hmt => g m hm mt (by omega), fun g m hm mt hmt => g m hm mt (by omega)⟩
def drainR (p : Pl) : Bool × Int := if pcheck p ≠ 0 then (false, pcheck p) else (drB p, 0)

theorem layoutDrains_vr {w v : Bool} (p : Pl) : VR P false n_layout_Drains [plA w v p] [] (isR (.tup [.v (.bool (drainR p).1), .v (.int .i64 (drainR p).2)])) := by
  refine vr_layout_Drains (by simp) (.inr rfl) fun _ _ => ?_
  unfold plA plC drainR
  simp (disch := ((try simp only [List.length_set, List.length_replicate, List.length_append, List.length_cons, List.length_nil]); omega)) only [aW, aX, aV, aB, aN, aL, aP, aH, aM, s_layout_Drains, v_layout_Drains]
  refine (layoutCheck_vr (w := w) (v := v) p).same (by unfold plA plC; simp (disch := first | omega | simp (disch := omega) only [aF, aL, aN, aM]) only [aW, aX, aV, aB, aN, aL, aP, aH, aM, aF, Int.natCast_add, Int.natCast_mul, Int.add_sub_cancel, List.length_nil, Int.cast_ofNat_Int, and_true, true_and]) rfl (aret_of ?_)
  simp (disch := ((try simp only [List.length_set, List.length_replicate, List.length_append, List.length_cons, List.length_nil]); omega)) only [aW, aX, aV, aB, aN, aL, aP, aH, aM]
  refine ib_intro (fun h1 => ?_) (fun h1 => ?_)
  · rw [if_pos h1]
    simp (disch := ((try simp only [List.length_set, List.length_replicate, List.length_append, List.length_cons, List.length_nil]); omega)) only [aW, aX, aV, aB, aN, aL, aP, aH, aM, r_layout_Drains]
    exact post0 (Fz.refl (by simp (disch := first | omega | simp (disch := omega) only [aF, aL, aN, aM]) only [aW, aX, aV, aB, aN, aL, aP, aH, aM, aF, Int.natCast_add, Int.natCast_mul, Int.add_sub_cancel, List.length_nil, Int.cast_ofNat_Int, and_true, true_and])) ⟨rfl, rfl⟩
  rw [if_neg h1]
  have h := pcheck_ok (Classical.not_not.1 h1)
  have hn2 := h.n2
  have hm1 := h.m1
  have hm2 := h.m2
  simp (disch := ((try simp only [List.length_set, List.length_replicate, List.length_append, List.length_cons, List.length_nil]); omega)) only [aW, aX, aV, aB, aN, aL, aP, aH, aM]
  refine AWP.loopP g_layout_Drains_0 (fun k : Nat => k ≤ p.ms.length ∧ ∀ m, m < k → ∀ mt : Nat, (mt : Int) < p.mat → (wayV p mt m).2 = true) (fun k => [(1, .v (.bool false)), (2, .v (.int .i64 0)), (5, .v (.int .i64 k))]) (fun _ => []) (fun k => p.ms.length - k) 0 ⟨by omega, fun i hi => by omega⟩ (by refine Cut.of' (1) ?_ (by omega) ?_ ?_ <;> simp (disch := first | omega | simp (disch := omega) only [aF, aL, aN, aM]) only [aW, aX, aV, aB, aN, aL, aP, aH, aM, aF, Int.natCast_add, Int.natCast_mul, Int.add_sub_cancel, List.length_nil, Int.cast_ofNat_Int, and_true, true_and]) ?_
  rintro k ⟨hk, hb⟩
  by_cases hlt : k < p.ms.length
  · simp (disch := ((try simp only [List.length_set, List.length_replicate, List.length_append, List.length_cons, List.length_nil]); omega)) only [aW, aX, aV, aB, aN, aL, aP, aH, aM]
    refine AWP.loopP g_layout_Drains_1 (fun j : Nat => (j : Int) ≤ p.mat ∧ ∀ mt : Nat, mt < j → (wayV p mt k).2 = true) (fun j => [(1, .v (.bool false)), (2, .v (.int .i64 0)), (9, .v (.int .i64 j))]) (fun _ => []) (fun j => p.mat.toNat - j) 0 ⟨by omega, fun i hi => by omega⟩ (by refine Cut.of' (1) ?_ (by omega) ?_ ?_ <;> simp (disch := first | omega | simp (disch := omega) only [aF, aL, aN, aM]) only [aW, aX, aV, aB, aN, aL, aP, aH, aM, aF, Int.natCast_add, Int.natCast_mul, Int.add_sub_cancel, List.length_nil, Int.cast_ofNat_Int, and_true, true_and]) ?_
    rintro j ⟨hj, hc⟩
    by_cases hjl : (j : Int) < p.mat
    · simp (disch := ((try simp only [List.length_set, List.length_replicate, List.length_append, List.length_cons, List.length_nil]); omega)) only [aW, aX, aV, aB, aN, aL, aP, aH, aM]
      refine (layoutWay_vr (w := w) (v := v) p h k hlt j (by omega) hjl).same (by unfold plA plC; simp (disch := first | omega | simp (disch := omega) only [aF, aL, aN, aM]) only [aW, aX, aV, aB, aN, aL, aP, aH, aM, aF, Int.natCast_add, Int.natCast_mul, Int.add_sub_cancel, List.length_nil, Int.cast_ofNat_Int, and_true, true_and]) rfl (aret_of ?_)
      unfold wayT
      simp (disch := ((try simp only [List.length_set, List.length_replicate, List.length_append, List.length_cons, List.length_nil]); omega)) only [aW, aX, aV, aB, aN, aL, aP, aH, aM]
      refine ib_split (fun h2 => ?_) (fun h2 => ?_)
      · have hd : drB p = false := by
          apply Bool.eq_false_iff.2
          intro hc
          have := (drB_iff h).1 hc k hlt j hjl
          simp_all
        rw [hd]
        simp (disch := ((try simp only [List.length_set, List.length_replicate, List.length_append, List.length_cons, List.length_nil]); omega)) only [aW, aX, aV, aB, aN, aL, aP, aH, aM, r_layout_Drains]
        exact post0 (Fz.refl (by simp (disch := first | omega | simp (disch := omega) only [aF, aL, aN, aM]) only [aW, aX, aV, aB, aN, aL, aP, aH, aM, aF, Int.natCast_add, Int.natCast_mul, Int.add_sub_cancel, List.length_nil, Int.cast_ofNat_Int, and_true, true_and])) ⟨rfl, rfl⟩
      · simp (disch := ((try simp only [List.length_set, List.length_replicate, List.length_append, List.length_cons, List.length_nil]); omega)) only [aW, aX, aV, aB, aN, aL, aP, aH, aM]
        refine ⟨j + 1, ⟨by omega, fun i hi => ?_⟩, by omega, (by refine Cut.of' (1) ?_ (by omega) ?_ ?_ <;> simp (disch := first | omega | simp (disch := omega) only [aF, aL, aN, aM]) only [aW, aX, aV, aB, aN, aL, aP, aH, aM, aF, Int.natCast_add, Int.natCast_mul, Int.add_sub_cancel, List.length_nil, Int.cast_ofNat_Int, and_true, true_and])⟩
        rcases Nat.lt_succ_iff_lt_or_eq.1 hi with h | rfl
        · exact hc i h
        · simpa using h2
    · simp (disch := ((try simp only [List.length_set, List.length_replicate, List.length_append, List.length_cons, List.length_nil]); omega)) only [aW, aX, aV, aB, aN, aL, aP, aH, aM]
      refine ⟨k + 1, ⟨by omega, fun i hi => ?_⟩, by omega, (by refine Cut.of' (1) ?_ (by omega) ?_ ?_ <;> simp (disch := first | omega | simp (disch := omega) only [aF, aL, aN, aM]) only [aW, aX, aV, aB, aN, aL, aP, aH, aM, aF, Int.natCast_add, Int.natCast_mul, Int.add_sub_cancel, List.length_nil, Int.cast_ofNat_Int, and_true, true_and])⟩
      rcases Nat.lt_succ_iff_lt_or_eq.1 hi with h | rfl
      · exact hb i h
      · exact fun mt hmt => hc mt (by omega)
  · have hd : drB p = true := (drB_iff h).2 fun m hm => hb m (by omega)
    rw [hd]
    simp (disch := ((try simp only [List.length_set, List.length_replicate, List.length_append, List.length_cons, List.length_nil]); omega)) only [aW, aX, aV, aB, aN, aL, aP, aH, aM, r_layout_Drains]
    exact post0 (Fz.refl (by simp (disch := first | omega | simp (disch := omega) only [aF, aL, aN, aM]) only [aW, aX, aV, aB, aN, aL, aP, aH, aM, aF, Int.natCast_add, Int.natCast_mul, Int.add_sub_cancel, List.length_nil, Int.cast_ofNat_Int, and_true, true_and])) ⟨rfl, rfl⟩

/-! ### Heights -/
def heightR (p : Pl) (m mt : Int) : Int × Int :=
  if pcheck p ≠ 0 then (0, pcheck p) else if m < 0 ∨ (p.ms.length : Int) ≤ m then (0, 7) else if mt < 0 ∨ p.mat ≤ mt then (0, 18)
  else if (wayV p mt m.toNat).2 = false then (0, 23) else ((wayV p mt m.toNat).1, 0)
theorem layoutHeight_vr {w v : Bool} (p : Pl) (m mt : Int) : VR P false n_layout_Height [plA w v p, .v (.int .i64 m), .v (.int .i64 mt)] [] (isR (.tup [.v (.int .i64 (heightR p m mt).1), .v (.int .i64 (heightR p m mt).2)])) := by
  refine vr_layout_Height (by simp) (.inr rfl) fun _ _ => ?_
  unfold plA plC heightR
  simp (disch := ((try simp only [List.length_set, List.length_replicate, List.length_append, List.length_cons, List.length_nil]); omega)) only [aW, aX, aV, aB, aN, aL, aP, aH, aM, s_layout_Height, v_layout_Height]
  refine (layoutCheck_vr (w := w) (v := v) p).same (by unfold plA plC; simp (disch := first | omega | simp (disch := omega) only [aF, aL, aN, aM]) only [aW, aX, aV, aB, aN, aL, aP, aH, aM, aF, Int.natCast_add, Int.natCast_mul, Int.add_sub_cancel, List.length_nil, Int.cast_ofNat_Int, and_true, true_and]) rfl (aret_of ?_)
  simp (disch := ((try simp only [List.length_set, List.length_replicate, List.length_append, List.length_cons, List.length_nil]); omega)) only [aW, aX, aV, aB, aN, aL, aP, aH, aM]
  refine ib_intro (fun h1 => ?_) (fun h1 => ?_)
  · rw [if_pos h1]
    simp (disch := ((try simp only [List.length_set, List.length_replicate, List.length_append, List.length_cons, List.length_nil]); omega)) only [aW, aX, aV, aB, aN, aL, aP, aH, aM, r_layout_Height]
    exact post0 (Fz.refl (by simp (disch := first | omega | simp (disch := omega) only [aF, aL, aN, aM]) only [aW, aX, aV, aB, aN, aL, aP, aH, aM, aF, Int.natCast_add, Int.natCast_mul, Int.add_sub_cancel, List.length_nil, Int.cast_ofNat_Int, and_true, true_and])) ⟨rfl, rfl⟩
  rw [if_neg h1]
  have h := pcheck_ok (Classical.not_not.1 h1)
  simp (disch := ((try simp only [List.length_set, List.length_replicate, List.length_append, List.length_cons, List.length_nil]); omega)) only [aW, aX, aV, aB, aN, aL, aP, aH, aM]
  refine (has_vr (w := w) (v := v) p m).same (by unfold plA plC; simp (disch := first | omega | simp (disch := omega) only [aF, aL, aN, aM]) only [aW, aX, aV, aB, aN, aL, aP, aH, aM, aF, Int.natCast_add, Int.natCast_mul, Int.add_sub_cancel, List.length_nil, Int.cast_ofNat_Int, and_true, true_and]) rfl (aret_of ?_)
  by_cases h2 : 0 ≤ m ∧ m < p.ms.length
  · rw [if_neg (by omega)]
    simp (disch := ((try simp only [List.length_set, List.length_replicate, List.length_append, List.length_cons, List.length_nil]); omega)) only [aW, aX, aV, aB, aN, aL, aP, aH, aM, decide_eq_true h2]
    refine ib_intro (fun h3 => ?_) (fun h3 => ?_)
    · rw [if_pos h3]
      simp (disch := ((try simp only [List.length_set, List.length_replicate, List.length_append, List.length_cons, List.length_nil]); omega)) only [aW, aX, aV, aB, aN, aL, aP, aH, aM, r_layout_Height]
      exact post0 (Fz.refl (by simp (disch := first | omega | simp (disch := omega) only [aF, aL, aN, aM]) only [aW, aX, aV, aB, aN, aL, aP, aH, aM, aF, Int.natCast_add, Int.natCast_mul, Int.add_sub_cancel, List.length_nil, Int.cast_ofNat_Int, and_true, true_and])) ⟨rfl, rfl⟩
    rw [if_neg h3]
    have hw := layoutWay_vr (w := w) (v := v) p h m.toNat (by omega) mt (by omega) (by omega)
    rw [Int.toNat_of_nonneg (by omega)] at hw
    simp (disch := ((try simp only [List.length_set, List.length_replicate, List.length_append, List.length_cons, List.length_nil]); omega)) only [aW, aX, aV, aB, aN, aL, aP, aH, aM]
    refine hw.same (by unfold plA plC; simp (disch := first | omega | simp (disch := omega) only [aF, aL, aN, aM]) only [aW, aX, aV, aB, aN, aL, aP, aH, aM, aF, Int.natCast_add, Int.natCast_mul, Int.add_sub_cancel, List.length_nil, Int.cast_ofNat_Int, and_true, true_and]) rfl (aret_of ?_)
    unfold wayT
    simp (disch := ((try simp only [List.length_set, List.length_replicate, List.length_append, List.length_cons, List.length_nil]); omega)) only [aW, aX, aV, aB, aN, aL, aP, aH, aM]
    refine ib_split (fun h2 => ?_) (fun h2 => ?_)
    · rw [if_pos (by simpa using h2)]
      simp (disch := ((try simp only [List.length_set, List.length_replicate, List.length_append, List.length_cons, List.length_nil]); omega)) only [aW, aX, aV, aB, aN, aL, aP, aH, aM, r_layout_Height]
      exact post0 (Fz.refl (by simp (disch := first | omega | simp (disch := omega) only [aF, aL, aN, aM]) only [aW, aX, aV, aB, aN, aL, aP, aH, aM, aF, Int.natCast_add, Int.natCast_mul, Int.add_sub_cancel, List.length_nil, Int.cast_ofNat_Int, and_true, true_and])) ⟨rfl, rfl⟩
    · rw [if_neg (by simpa using h2)]
      simp (disch := ((try simp only [List.length_set, List.length_replicate, List.length_append, List.length_cons, List.length_nil]); omega)) only [aW, aX, aV, aB, aN, aL, aP, aH, aM, r_layout_Height]
      exact post0 (Fz.refl (by simp (disch := first | omega | simp (disch := omega) only [aF, aL, aN, aM]) only [aW, aX, aV, aB, aN, aL, aP, aH, aM, aF, Int.natCast_add, Int.natCast_mul, Int.add_sub_cancel, List.length_nil, Int.cast_ofNat_Int, and_true, true_and])) ⟨rfl, rfl⟩
  · rw [if_pos (by omega)]
    simp (disch := ((try simp only [List.length_set, List.length_replicate, List.length_append, List.length_cons, List.length_nil]); omega)) only [aW, aX, aV, aB, aN, aL, aP, aH, aM, decide_eq_false h2, r_layout_Height]
    exact post0 (Fz.refl (by simp (disch := first | omega | simp (disch := omega) only [aF, aL, aN, aM]) only [aW, aX, aV, aB, aN, aL, aP, aH, aM, aF, Int.natCast_add, Int.natCast_mul, Int.add_sub_cancel, List.length_nil, Int.cast_ofNat_Int, and_true, true_and])) ⟨rfl, rfl⟩

/-! ### Equal graphs -/
theorem sameGraph_vr {w v : Bool} (n k : Int) (l m : Arcs) (hl : l.length < 1000000000) : VR P false n_ref34_SameGraph [graphA w n l, graphA v k m] [] (isR (.v (.bool (decide (n = k ∧ l = m))))) := by
  refine vr_ref34_SameGraph (by simp) (.inr rfl) fun _ _ => ?_
  unfold graphA
  simp (disch := ((try simp only [List.length_set, List.length_replicate, List.length_append, List.length_cons, List.length_nil]); omega)) only [aW, aX, aV, aB, aN, aL, aP, aH, aM, s_ref34_SameGraph, v_ref34_SameGraph]
  refine ib_intro (fun h1 => ?_) (fun h1 => ?_)
  · simp (disch := ((try simp only [List.length_set, List.length_replicate, List.length_append, List.length_cons, List.length_nil]); omega)) only [aW, aX, aV, aB, aN, aL, aP, aH, aM, r_ref34_SameGraph]
    refine post_v ⟨vfalse ?_, rfl⟩
    rintro ⟨rfl, rfl⟩; omega
  have hn : n = k := by omega
  have hlen : l.length = m.length := by omega
  subst hn
  simp (disch := ((try simp only [List.length_set, List.length_replicate, List.length_append, List.length_cons, List.length_nil]); omega)) only [aW, aX, aV, aB, aN, aL, aP, aH, aM]
  refine AWP.loopP g_ref34_SameGraph_0 (fun k : Nat => k ≤ l.length ∧ ∀ i, i < k → l.getD i (0, 0) = m.getD i (0, 0)) (fun k => [(2, .v (.bool false)), (5, .v (.int .i64 k))]) (fun _ => []) (fun k => l.length - k) 0 ⟨by omega, fun i hi => by omega⟩ (by refine Cut.of' (2) ?_ (by omega) ?_ ?_ <;> simp (disch := first | omega | simp (disch := omega) only [aF, aL, aN, aM]) only [aW, aX, aV, aB, aN, aL, aP, aH, aM, aF, Int.natCast_add, Int.natCast_mul, Int.add_sub_cancel, List.length_nil, Int.cast_ofNat_Int, and_true, true_and]) ?_
  rintro k ⟨hk, hg⟩
  by_cases hlt : k < l.length
  · simp (disch := ((try simp only [List.length_set, List.length_replicate, List.length_append, List.length_cons, List.length_nil]); omega)) only [aW, aX, aV, aB, aN, aL, aP, aH, aM]
    refine ib_split (fun h3 => ?_) (fun h3 => ?_)
    · simp (disch := ((try simp only [List.length_set, List.length_replicate, List.length_append, List.length_cons, List.length_nil]); omega)) only [aW, aX, aV, aB, aN, aL, aP, aH, aM, r_ref34_SameGraph]
      refine post_v ⟨vfalse ?_, rfl⟩
      rintro ⟨_, rfl⟩
      simp at h3
    · simp (disch := ((try simp only [List.length_set, List.length_replicate, List.length_append, List.length_cons, List.length_nil]); omega)) only [aW, aX, aV, aB, aN, aL, aP, aH, aM]
      refine ⟨k + 1, ⟨by omega, fun i hi => ?_⟩, by omega, (by refine Cut.of' (2) ?_ (by omega) ?_ ?_ <;> simp (disch := first | omega | simp (disch := omega) only [aF, aL, aN, aM]) only [aW, aX, aV, aB, aN, aL, aP, aH, aM, aF, Int.natCast_add, Int.natCast_mul, Int.add_sub_cancel, List.length_nil, Int.cast_ofNat_Int, and_true, true_and])⟩
      rcases Nat.lt_succ_iff_lt_or_eq.1 hi with h | rfl
      · exact hg i h
      · simp at h3; exact Prod.ext h3.1 h3.2
  · simp (disch := ((try simp only [List.length_set, List.length_replicate, List.length_append, List.length_cons, List.length_nil]); omega)) only [aW, aX, aV, aB, aN, aL, aP, aH, aM, r_ref34_SameGraph]
    have hlm := eq_of_get (0, 0) hlen fun i hi => hg i (by omega)
    exact post_v ⟨vtrue (by first | exact ⟨rfl, hlm⟩ | exact ⟨trivial, hlm⟩ | exact hlm), rfl⟩
end Go.Proofs.Ytjhdedifmhkhbaa
namespace Go.Proofs.Ytjhdedifmhkhbaa
open Go Go.Lft
set_option linter.unusedSimpArgs false
set_option linter.unusedVariables false
attribute [local congr] ob_congr bw_congr ib_congr ck_congr iwA_congr itA_congr aw_congr awp_congr sqA_congr bkA_congr vr_congr gd_congr

/-- The same where the groups are the caller's own. -/
def groupsG (n : Int) (l : Arcs) : List Blk := [⟨0, [.v (.int .i64 n), .any]⟩, ⟨0, bools (tab n.toNat (gst n l n.toNat).1)⟩, ⟨(gst n l n.toNat).2.length, rows true (gst n l n.toNat).2⟩]
theorem groupsO_vr {w : Bool} (n : Int) (l : Arcs) (h1 : gcheck n l = 0) : VR P false n_graph_Groups [graphA w n l] [] (ownR (.tup [.vs 2 (gst n l n.toNat).2.length 1 (gst n l n.toNat).2.length, .v (.int .i64 0)]) (groupsG n l)) := by
  refine vr_graph_Groups (by simp) (.inr rfl) fun _ _ => ?_
  unfold graphA
  simp (disch := ((try simp only [List.length_set, List.length_replicate, List.length_append, List.length_cons, List.length_nil]); omega)) only [aW, aX, aV, aB, aN, aL, aP, aH, aM, s_graph_Groups, v_graph_Groups]
  refine (check_vr (w := w) n l).same (by unfold graphA; simp (disch := first | omega | simp (disch := omega) only [aF, aL, aN, aM]) only [aW, aX, aV, aB, aN, aL, aP, aH, aM, aF, Int.natCast_add, Int.natCast_mul, Int.add_sub_cancel, List.length_nil, Int.cast_ofNat_Int, and_true, true_and]) rfl (aret_of ?_)
  simp (disch := ((try simp only [List.length_set, List.length_replicate, List.length_append, List.length_cons, List.length_nil]); omega)) only [aW, aX, aV, aB, aN, aL, aP, aH, aM]
  rw [h1]
  obtain ⟨c1, c2, c3, c4⟩ := gcheck_ok h1
  simp (disch := ((try simp only [List.length_set, List.length_replicate, List.length_append, List.length_cons, List.length_nil]); omega)) only [aW, aX, aV, aB, aN, aL, aP, aH, aM]
  refine AWP.cut (Cut.virt 5 1 rfl) ?_
  refine AWP.loopP (α := Nat × Nat) g_graph_Groups_0 (fun p => p.1 ≤ n.toNat ∧ p.2 = (gst n l p.1).2.length) (fun p => [(5, .vs 2 p.2 1 (gst n l p.1).2.length), (7, .v (.int .i64 p.1))]) (fun p => [(1, ⟨0, bools (tab n.toNat (gst n l p.1).1)⟩), (2, ⟨p.2, rows true (gst n l p.1).2⟩)]) (fun p => n.toNat - p.1) (0, 0) ⟨by simp, rfl⟩ ?_ ?_
  · simp (disch := ((try simp only [List.length_set, List.length_replicate, List.length_append, List.length_cons, List.length_nil]); omega)) only [aW, aX, aV, aB, aN, aL, aP, aH, aM, tab_rep, gst]
    exact Cut.of' 3 rfl (by omega) (by simp (disch := first | omega | simp (disch := omega) only [aF, aL, aN, aM]) only [aW, aX, aV, aB, aN, aL, aP, aH, aM, aF, Int.natCast_add, Int.natCast_mul, Int.add_sub_cancel, List.length_nil, Int.cast_ofNat_Int, and_true, true_and, r_nil]) (by simp (disch := first | omega | simp (disch := omega) only [aF, aL, aN, aM]) only [aW, aX, aV, aB, aN, aL, aP, aH, aM, aF, Int.natCast_add, Int.natCast_mul, Int.add_sub_cancel, List.length_nil, Int.cast_ofNat_Int, and_true, true_and])
  rintro ⟨v, ver⟩ ⟨hv, hver⟩
  simp only at hv hver
  have hol := gst_len n l v
  have htl := tab_len n.toNat (gst n l v).1
  by_cases hlt : v < n.toNat
  · have hg := tab_get n.toNat (gst n l v).1 v hlt
    cases hd : (gst n l v).1 v with
    | true =>
      simp (disch := ((try simp only [List.length_set, List.length_replicate, List.length_append, List.length_cons, List.length_nil]); omega)) only [aW, aX, aV, aB, aN, aL, aP, aH, aM, hg, hd]
      refine ⟨(v + 1, ver), ⟨by simp only; omega, by simp only [gst, hd, if_true]; omega⟩, by simp only; omega, ?_⟩
      simp only [gst, hd, if_true]
      exact Cut.of' 3 rfl (by omega) (by simp (disch := first | omega | simp (disch := omega) only [aF, aL, aN, aM]) only [aW, aX, aV, aB, aN, aL, aP, aH, aM, aF, Int.natCast_add, Int.natCast_mul, Int.add_sub_cancel, List.length_nil, Int.cast_ofNat_Int, and_true, true_and]) (by simp (disch := first | omega | simp (disch := omega) only [aF, aL, aN, aM]) only [aW, aX, aV, aB, aN, aL, aP, aH, aM, aF, Int.natCast_add, Int.natCast_mul, Int.add_sub_cancel, List.length_nil, Int.cast_ofNat_Int, and_true, true_and])
    | false =>
      have vr : ∀ es, visitR n l es v = (reachL n es v, 0) := fun es => by unfold visitR; rw [if_neg (by simp [h1]), if_neg (by omega)]
      have hv1 := reach_vr (w := w) n l v
      have hv2 := back_vr (w := w) n l v
      rw [vr] at hv1 hv2
      have rl1 := reachL_len n l v
      have rl2 := reachL_len n (backL l) v
      simp (disch := ((try simp only [List.length_set, List.length_replicate, List.length_append, List.length_cons, List.length_nil]); omega)) only [aW, aX, aV, aB, aN, aL, aP, aH, aM, hg, hd]
      refine hv1.same (by unfold graphA; simp (disch := first | omega | simp (disch := omega) only [aF, aL, aN, aM]) only [aW, aX, aV, aB, aN, aL, aP, aH, aM, aF, Int.natCast_add, Int.natCast_mul, Int.add_sub_cancel, List.length_nil, Int.cast_ofNat_Int, and_true, true_and]) (by simp (disch := first | omega | simp (disch := omega) only [aF, aL, aN, aM]) only [aW, aX, aV, aB, aN, aL, aP, aH, aM, aF, Int.natCast_add, Int.natCast_mul, Int.add_sub_cancel, List.length_nil, Int.cast_ofNat_Int, and_true, true_and]) (aret_of ?_)
      simp (disch := ((try simp only [List.length_set, List.length_replicate, List.length_append, List.length_cons, List.length_nil]); omega)) only [aW, aX, aV, aB, aN, aL, aP, aH, aM]
      refine hv2.same (by unfold graphA; simp (disch := first | omega | simp (disch := omega) only [aF, aL, aN, aM]) only [aW, aX, aV, aB, aN, aL, aP, aH, aM, aF, Int.natCast_add, Int.natCast_mul, Int.add_sub_cancel, List.length_nil, Int.cast_ofNat_Int, and_true, true_and]) (by simp (disch := first | omega | simp (disch := omega) only [aF, aL, aN, aM]) only [aW, aX, aV, aB, aN, aL, aP, aH, aM, aF, Int.natCast_add, Int.natCast_mul, Int.add_sub_cancel, List.length_nil, Int.cast_ofNat_Int, and_true, true_and]) (aret_of ?_)
      simp (disch := ((try simp only [List.length_set, List.length_replicate, List.length_append, List.length_cons, List.length_nil]); omega)) only [aW, aX, aV, aB, aN, aL, aP, aH, aM]
      refine AWP.cut (Cut.virt 15 1 rfl) ?_
      refine AWP.loopP (α := Nat × Nat) g_graph_Groups_1 (fun p => p.1 ≤ n.toNat) (fun p => [(15, .vs 3 p.2 1 (memb n l v 0 p.1).length), (16, .v (.int .i64 p.1))]) (fun p => [(1, ⟨0, bools (tab n.toNat (fun j => (gst n l v).1 j || (decide (j < p.1) && both n l v j)))⟩), (3, ⟨p.2, ints (memb n l v 0 p.1)⟩)]) (fun p => n.toNat - p.1) (0, 0) (by simp) ?_ ?_
      · have e0 : (fun j => (gst n l v).1 j || (decide (j < 0) && both n l v j)) = (gst n l v).1 := by funext j; simp
        have e1 : memb n l v 0 0 = [] := rfl
        simp (disch := ((try simp only [List.length_set, List.length_replicate, List.length_append, List.length_cons, List.length_nil]); omega)) only [aW, aX, aV, aB, aN, aL, aP, aH, aM]
        exact Cut.of' 4 rfl (by omega) (by simp (disch := first | omega | simp (disch := omega) only [aF, aL, aN, aM]) only [aW, aX, aV, aB, aN, aL, aP, aH, aM, aF, Int.natCast_add, Int.natCast_mul, Int.add_sub_cancel, List.length_nil, Int.cast_ofNat_Int, and_true, true_and, e0, e1, ii_nil]) (by simp (disch := first | omega | simp (disch := omega) only [aF, aL, aN, aM]) only [aW, aX, aV, aB, aN, aL, aP, aH, aM, aF, Int.natCast_add, Int.natCast_mul, Int.add_sub_cancel, List.length_nil, Int.cast_ofNat_Int, and_true, true_and, e1])
      rintro ⟨k, vk⟩ hk
      simp only at hk
      have hml := memb_len n l v 0 k
      have htk := tab_len n.toNat (fun j => (gst n l v).1 j || (decide (j < k) && both n l v j))
      by_cases hkt : k < n.toNat
      · simp (disch := ((try simp only [List.length_set, List.length_replicate, List.length_append, List.length_cons, List.length_nil]); omega)) only [aW, aX, aV, aB, aN, aL, aP, aH, aM]
        refine ib_split (fun h3 => ?_) (fun h3 => ?_)
        · have h3' : both n l v k = true := h3
          simp (disch := ((try simp only [List.length_set, List.length_replicate, List.length_append, List.length_cons, List.length_nil]); omega)) only [aW, aX, aV, aB, aN, aL, aP, aH, aM]
          refine ⟨(k + 1, vk + 1), by simp only; omega, by simp only; omega, ?_⟩
          have e1 : memb n l v 0 (k + 1) = memb n l v 0 k ++ [(k : Int)] := by rw [memb_succ, if_pos ⟨by omega, h3'⟩]
          have e2 : tab n.toNat (fun j => (gst n l v).1 j || (decide (j < k + 1) && both n l v j)) = (tab n.toNat (fun j => (gst n l v).1 j || (decide (j < k) && both n l v j))).set k true := by
            rw [tab_set _ _ _ hkt]
            refine tab_ext fun j _ => ?_
            by_cases hjk : j = k
            · subst hjk; simp [h3']
            · simp only [show (decide (j < k + 1)) = decide (j < k) by simp; omega, show (j == k) = false by simpa using hjk, Bool.or_false]
          simp only [e1, e2]
          try simp (disch := ((try simp only [List.length_set, List.length_replicate, List.length_append, List.length_cons, List.length_nil]); omega)) only [aW, aX, aV, aB, aN, aL, aP, aH, aM]
          exact Cut.of' 4 rfl (by omega) (by simp (disch := first | omega | simp (disch := omega) only [aF, aL, aN, aM]) only [aW, aX, aV, aB, aN, aL, aP, aH, aM, aF, Int.natCast_add, Int.natCast_mul, Int.add_sub_cancel, List.length_nil, Int.cast_ofNat_Int, and_true, true_and]) (by simp (disch := first | omega | simp (disch := omega) only [aF, aL, aN, aM]) only [aW, aX, aV, aB, aN, aL, aP, aH, aM, aF, Int.natCast_add, Int.natCast_mul, Int.add_sub_cancel, List.length_nil, Int.cast_ofNat_Int, and_true, true_and])
        · have h3' : both n l v k = false := h3
          simp (disch := ((try simp only [List.length_set, List.length_replicate, List.length_append, List.length_cons, List.length_nil]); omega)) only [aW, aX, aV, aB, aN, aL, aP, aH, aM]
          refine ⟨(k + 1, vk), by simp only; omega, by simp only; omega, ?_⟩
          have e1 : memb n l v 0 (k + 1) = memb n l v 0 k := by rw [memb_succ, if_neg (by simp [h3'])]
          have e2 : tab n.toNat (fun j => (gst n l v).1 j || (decide (j < k + 1) && both n l v j)) = tab n.toNat (fun j => (gst n l v).1 j || (decide (j < k) && both n l v j)) := by
            refine tab_ext fun j _ => ?_
            by_cases hjk : j = k
            · subst hjk; simp [h3']
            · simp only [show (decide (j < k + 1)) = decide (j < k) by simp; omega]
          simp only [e1, e2]
          try simp (disch := ((try simp only [List.length_set, List.length_replicate, List.length_append, List.length_cons, List.length_nil]); omega)) only [aW, aX, aV, aB, aN, aL, aP, aH, aM]
          exact Cut.of' 4 rfl (by omega) (by simp (disch := first | omega | simp (disch := omega) only [aF, aL, aN, aM]) only [aW, aX, aV, aB, aN, aL, aP, aH, aM, aF, Int.natCast_add, Int.natCast_mul, Int.add_sub_cancel, List.length_nil, Int.cast_ofNat_Int, and_true, true_and]) (by simp (disch := first | omega | simp (disch := omega) only [aF, aL, aN, aM]) only [aW, aX, aV, aB, aN, aL, aP, aH, aM, aF, Int.natCast_add, Int.natCast_mul, Int.add_sub_cancel, List.length_nil, Int.cast_ofNat_Int, and_true, true_and])
      · have hkn : k = n.toNat := by omega
        subst hkn
        simp (disch := ((try simp only [List.length_set, List.length_replicate, List.length_append, List.length_cons, List.length_nil]); omega)) only [aW, aX, aV, aB, aN, aL, aP, aH, aM]
        refine ⟨(v + 1, ver + 1), ⟨by simp only; omega, by simp [gst, hd, hver]⟩, by simp only; omega, ?_⟩
        have e1 : gst n l (v + 1) = (fun j => (gst n l v).1 j || both n l v j, (gst n l v).2 ++ [memb n l v 0 n.toNat]) := by simp [gst, hd]
        have e2 : tab n.toNat (fun j => (gst n l v).1 j || both n l v j) = tab n.toNat (fun j => (gst n l v).1 j || (decide (j < n.toNat) && both n l v j)) := tab_ext fun j hj => by simp [hj]
        simp only [e1, e2]
        try simp (disch := ((try simp only [List.length_set, List.length_replicate, List.length_append, List.length_cons, List.length_nil]); omega)) only [aW, aX, aV, aB, aN, aL, aP, aH, aM]
        have z : ∀ H : List Blk, blkAt H 3 vk = some (ints (memb n l v 0 n.toNat)) → FzL 3 H (rows true (gst n l v).2 ++ [.vs 3 vk 1 (memb n l v 0 n.toNat).length]) (rows true ((gst n l v).2 ++ [memb n l v 0 n.toNat])) := fun H hH => by
          rw [← r_app1]; exact FzL.app (FzL.refl (r_bd _ _ _)) ⟨fz_vsI _ _ _ _ _ _ (by omega) rfl hH, trivial⟩
        refine Cut.of' 3 rfl (by omega) ⟨rfl, by simp (disch := first | omega | simp (disch := omega) only [aF, aL, aN, aM]) only [aW, aX, aV, aB, aN, aL, aP, aH, aM, aF, Int.natCast_add, Int.natCast_mul, Int.add_sub_cancel, List.length_nil, Int.cast_ofNat_Int, and_true, true_and], rfl, by simp (disch := first | omega | simp (disch := omega) only [aF, aL, aN, aM]) only [aW, aX, aV, aB, aN, aL, aP, aH, aM, aF, Int.natCast_add, Int.natCast_mul, Int.add_sub_cancel, List.length_nil, Int.cast_ofNat_Int, and_true, true_and], rfl, z _ (by simp (disch := ((try simp only [List.length_set, List.length_replicate, List.length_append, List.length_cons, List.length_nil]); omega)) only [aW, aX, aV, aB, aN, aL, aP, aH, aM]), trivial⟩ (by simp (disch := first | omega | simp (disch := omega) only [aF, aL, aN, aM]) only [aW, aX, aV, aB, aN, aL, aP, aH, aM, aF, Int.natCast_add, Int.natCast_mul, Int.add_sub_cancel, List.length_nil, Int.cast_ofNat_Int, and_true, true_and])
  · have hvn : v = n.toNat := by omega
    subst hvn
    subst hver
    simp (disch := ((try simp only [List.length_set, List.length_replicate, List.length_append, List.length_cons, List.length_nil]); omega)) only [aW, aX, aV, aB, aN, aL, aP, aH, aM, r_graph_Groups]
    refine ⟨_, groupsG n l, Cut.of' 3 rfl (by omega) ⟨rfl, ?_, rfl, FzL.refl (b_bd _ _), rfl, FzL.refl (r_bd _ _ _), trivial⟩ ⟨Fz.refl rfl, trivial⟩, rfl, rfl⟩
    exact ⟨Fz.refl rfl, Fz.any, trivial⟩
end Go.Proofs.Ytjhdedifmhkhbaa
namespace Go.Proofs.Ytjhdedifmhkhbaa
open Go Go.Lft
set_option linter.unusedSimpArgs false
set_option linter.unusedVariables false
attribute [local congr] ob_congr bw_congr ib_congr ck_congr iwA_congr itA_congr aw_congr awp_congr sqA_congr bkA_congr vr_congr gd_congr

theorem indexArc_vr {w : Bool} (l : Arcs) (hl : l.length < 1000000000) (x : Int × Int) : VR P false n_slices_Indexapi_Arc_api_Arc [.fs w (pairs l), pairA x] [] (isR (.v (.int .i64 (idxE (fun a : Int × Int => a = x) l)))) := by
  refine vr_slices_Indexapi_Arc_api_Arc (by simp) (.inr rfl) fun _ _ => ?_
  unfold pairA
  simp (disch := ((try simp only [List.length_set, List.length_replicate, List.length_append, List.length_cons, List.length_nil]); omega)) only [aW, aX, aV, aB, aN, aL, aP, aH, aM, s_slices_Indexapi_Arc_api_Arc, v_slices_Indexapi_Arc_api_Arc]
  refine AWP.loopP g_slices_Indexapi_Arc_api_Arc_0 (fun k : Nat => k ≤ l.length ∧ ∀ i, i < k → ¬ (l.getD i (0, 0) = x)) (fun k => [(2, .v (.int .i64 0)), (3, .v (.int .i64 k))]) (fun _ => []) (fun k => l.length - k) 0 ⟨by omega, fun i hi => by omega⟩ (by refine Cut.of' (1) ?_ (by omega) ?_ ?_ <;> simp (disch := first | omega | simp (disch := omega) only [aF, aL, aN, aM]) only [aW, aX, aV, aB, aN, aL, aP, aH, aM, aF, Int.natCast_add, Int.natCast_mul, Int.add_sub_cancel, List.length_nil, Int.cast_ofNat_Int, and_true, true_and]) ?_
  rintro k ⟨hk, hb⟩
  by_cases hlt : k < l.length
  · simp (disch := ((try simp only [List.length_set, List.length_replicate, List.length_append, List.length_cons, List.length_nil]); omega)) only [aW, aX, aV, aB, aN, aL, aP, aH, aM]
    refine ib_split (fun h3 => ?_) (fun h3 => ?_)
    · have h4 : l.getD k (0, 0) = x := by simp at h3; exact (Prod.ext h3.1 h3.2).symm
      have := idxE_hit (p := fun a : Int × Int => a = x) (0, 0) hlt hb h4
      simp (disch := ((try simp only [List.length_set, List.length_replicate, List.length_append, List.length_cons, List.length_nil]); omega)) only [aW, aX, aV, aB, aN, aL, aP, aH, aM, r_slices_Indexapi_Arc_api_Arc]
      exact post_v ⟨by rw [this], rfl⟩
    · have h4 : ¬ l.getD k (0, 0) = x := by rintro rfl; simp at h3
      simp (disch := ((try simp only [List.length_set, List.length_replicate, List.length_append, List.length_cons, List.length_nil]); omega)) only [aW, aX, aV, aB, aN, aL, aP, aH, aM]
      refine ⟨k + 1, ⟨by omega, fun i hi => ?_⟩, by omega, (by refine Cut.of' (1) ?_ (by omega) ?_ ?_ <;> simp (disch := first | omega | simp (disch := omega) only [aF, aL, aN, aM]) only [aW, aX, aV, aB, aN, aL, aP, aH, aM, aF, Int.natCast_add, Int.natCast_mul, Int.add_sub_cancel, List.length_nil, Int.cast_ofNat_Int, and_true, true_and])⟩
      rcases Nat.lt_succ_iff_lt_or_eq.1 hi with h | rfl
      · exact hb i h
      · exact h4
  · have := idxE_none (p := fun a : Int × Int => a = x) (0, 0) (l := l) fun i hi => hb i (by omega)
    simp (disch := ((try simp only [List.length_set, List.length_replicate, List.length_append, List.length_cons, List.length_nil]); omega)) only [aW, aX, aV, aB, aN, aL, aP, aH, aM, r_slices_Indexapi_Arc_api_Arc]
    exact post_v ⟨by rw [this], rfl⟩
theorem idxE_mem {α : Type} {p : α → Prop} [DecidablePred p] {l : List α} : 0 ≤ idxE p l ↔ ∃ x ∈ l, p x := by
  constructor
  · intro h
    have h1 := idxE_ge p l
    cases l with
    | nil => simp [idxE] at h
    | cons d r => exact ⟨_, mem_get d (by omega), idxE_at (p := p) d h⟩
  · rintro ⟨x, h1, h2⟩
    apply Classical.byContradiction; intro hc
    exact idxE_neg (p := p) (l := l) (by omega) x h1 h2
theorem containsArc_vr {w : Bool} (l : Arcs) (hl : l.length < 1000000000) (x : Int × Int) : VR P false n_slices_Containsapi_Arc_api_Arc [.fs w (pairs l), pairA x] [] (isR (.v (.bool (decide (x ∈ l))))) := by
  refine vr_slices_Containsapi_Arc_api_Arc (by simp) (.inr rfl) fun _ _ => ?_
  unfold pairA
  simp (disch := ((try simp only [List.length_set, List.length_replicate, List.length_append, List.length_cons, List.length_nil]); omega)) only [aW, aX, aV, aB, aN, aL, aP, aH, aM, s_slices_Containsapi_Arc_api_Arc, v_slices_Containsapi_Arc_api_Arc]
  refine (indexArc_vr (w := w) l hl x).same (by unfold pairA; simp (disch := first | omega | simp (disch := omega) only [aF, aL, aN, aM]) only [aW, aX, aV, aB, aN, aL, aP, aH, aM, aF, Int.natCast_add, Int.natCast_mul, Int.add_sub_cancel, List.length_nil, Int.cast_ofNat_Int, and_true, true_and]) rfl (aret_of ?_)
  simp (disch := ((try simp only [List.length_set, List.length_replicate, List.length_append, List.length_cons, List.length_nil]); omega)) only [aW, aX, aV, aB, aN, aL, aP, aH, aM, r_slices_Containsapi_Arc_api_Arc]
  refine post_v ⟨vdec ?_, rfl⟩
  rw [show (0 ≤ idxE (fun a => a = x) l) ↔ _ from idxE_mem]
  simp

/-- The group is no loop. -/
def delG (l : Arcs) (r : List Int) : Prop := r.length = 1 ∧ ¬ (r.getD 0 0, r.getD 0 0) ∈ l
instance (l : Arcs) : DecidablePred (delG l) := fun r => by unfold delG; infer_instance

theorem loops1_vr {w v : Bool} (n : Int) (l : Arcs) (hl : l.length < 1000000000) (r : List Int) : VR P false n_layout_Loops_1 [.fs v (ints r), .fp false [.v (.int .i64 n), .fs w (pairs l)]] [] (isR (.v (.bool (decide (delG l r))))) := by
  refine vr_layout_Loops_1 (by simp) (.inr rfl) fun _ _ => ?_
  by_cases h : r.length = 1
  · simp (disch := ((try simp only [List.length_set, List.length_replicate, List.length_append, List.length_cons, List.length_nil]); omega)) only [aW, aX, aV, aB, aN, aL, aP, aH, aM, s_layout_Loops_1, v_layout_Loops_1]
    refine (containsArc_vr (w := w) l hl (r.getD 0 0, r.getD 0 0)).same (by unfold pairA; simp (disch := first | omega | simp (disch := omega) only [aF, aL, aN, aM]) only [aW, aX, aV, aB, aN, aL, aP, aH, aM, aF, Int.natCast_add, Int.natCast_mul, Int.add_sub_cancel, List.length_nil, Int.cast_ofNat_Int, and_true, true_and]) rfl (aret_of ?_)
    simp (disch := ((try simp only [List.length_set, List.length_replicate, List.length_append, List.length_cons, List.length_nil]); omega)) only [aW, aX, aV, aB, aN, aL, aP, aH, aM, r_layout_Loops_1]
    exact post_v ⟨vdec (by unfold delG; simp only [h, true_and]), rfl⟩
  · simp (disch := ((try simp only [List.length_set, List.length_replicate, List.length_append, List.length_cons, List.length_nil]); omega)) only [aW, aX, aV, aB, aN, aL, aP, aH, aM, s_layout_Loops_1, v_layout_Loops_1, r_layout_Loops_1]
    exact post_v ⟨vfalse fun h2 => h h2.1, rfl⟩

theorem indexFuncG_vr {w v : Bool} (n : Int) (l : Arcs) (hl : l.length < 1000000000) (gs : List (List Int)) (hg : gs.length < 1000000000) : VR P false n_slices_IndexFuncint_int [.fs v (rows true gs), .fn n_layout_Loops_1 [.fp false [.v (.int .i64 n), .fs w (pairs l)]]] [] (isR (.v (.int .i64 (idxE (delG l) gs)))) := by
  refine vr_slices_IndexFuncint_int (by simp) (.inr rfl) fun _ _ => ?_
  simp (disch := ((try simp only [List.length_set, List.length_replicate, List.length_append, List.length_cons, List.length_nil]); omega)) only [aW, aX, aV, aB, aN, aL, aP, aH, aM, s_slices_IndexFuncint_int, v_slices_IndexFuncint_int]
  refine AWP.loopP g_slices_IndexFuncint_int_0 (fun k : Nat => k ≤ gs.length ∧ ∀ i, i < k → ¬ delG l (gs.getD i [])) (fun k => [(2, .v (.int .i64 0)), (3, .v (.int .i64 k))]) (fun _ => []) (fun k => gs.length - k) 0 ⟨by omega, fun i hi => by omega⟩ (by refine Cut.of' (0) ?_ (by omega) ?_ ?_ <;> simp (disch := first | omega | simp (disch := omega) only [aF, aL, aN, aM]) only [aW, aX, aV, aB, aN, aL, aP, aH, aM, aF, Int.natCast_add, Int.natCast_mul, Int.add_sub_cancel, List.length_nil, Int.cast_ofNat_Int, and_true, true_and]) ?_
  rintro k ⟨hk, hb⟩
  by_cases hlt : k < gs.length
  · simp (disch := ((try simp only [List.length_set, List.length_replicate, List.length_append, List.length_cons, List.length_nil]); omega)) only [aW, aX, aV, aB, aN, aL, aP, aH, aM]
    refine ⟨by kernel_rfl, ?_⟩
    refine (loops1_vr (w := w) (v := true) n l hl (gs.getD k [])).same (by simp (disch := first | omega | simp (disch := omega) only [aF, aL, aN, aM]) only [aW, aX, aV, aB, aN, aL, aP, aH, aM, aF, Int.natCast_add, Int.natCast_mul, Int.add_sub_cancel, List.length_nil, Int.cast_ofNat_Int, and_true, true_and]) rfl (aret_of ?_)
    simp (disch := ((try simp only [List.length_set, List.length_replicate, List.length_append, List.length_cons, List.length_nil]); omega)) only [aW, aX, aV, aB, aN, aL, aP, aH, aM]
    refine ib_intro (fun h3 => ?_) (fun h3 => ?_)
    · have := idxE_hit (p := delG l) [] hlt hb h3
      simp (disch := ((try simp only [List.length_set, List.length_replicate, List.length_append, List.length_cons, List.length_nil]); omega)) only [aW, aX, aV, aB, aN, aL, aP, aH, aM, r_slices_IndexFuncint_int]
      exact post_v ⟨by rw [this], rfl⟩
    · simp (disch := ((try simp only [List.length_set, List.length_replicate, List.length_append, List.length_cons, List.length_nil]); omega)) only [aW, aX, aV, aB, aN, aL, aP, aH, aM]
      refine ⟨k + 1, ⟨by omega, fun i hi => ?_⟩, by omega, (by refine Cut.of' (0) ?_ (by omega) ?_ ?_ <;> simp (disch := first | omega | simp (disch := omega) only [aF, aL, aN, aM]) only [aW, aX, aV, aB, aN, aL, aP, aH, aM, aF, Int.natCast_add, Int.natCast_mul, Int.add_sub_cancel, List.length_nil, Int.cast_ofNat_Int, and_true, true_and])⟩
      rcases Nat.lt_succ_iff_lt_or_eq.1 hi with h | rfl
      · exact hb i h
      · exact h3
  · have := idxE_none (p := delG l) [] (l := gs) fun i hi => hb i (by omega)
    simp (disch := ((try simp only [List.length_set, List.length_replicate, List.length_append, List.length_cons, List.length_nil]); omega)) only [aW, aX, aV, aB, aN, aL, aP, aH, aM, r_slices_IndexFuncint_int]
    exact post_v ⟨by rw [this], rfl⟩

def keepG (l : Arcs) (gs : List (List Int)) : List (List Int) := gs.filter fun r => decide (¬ delG l r)
theorem keep_succ (l : Arcs) (gs : List (List Int)) (k : Nat) (hk : k < gs.length) : keepG l (gs.take (k + 1)) = if delG l (gs.getD k []) then keepG l (gs.take k) else keepG l (gs.take k) ++ [gs.getD k []] := by
  unfold keepG
  rw [take_succ_get gs k [] hk, List.filter_append]
  by_cases h : delG l (gs.getD k [])
  · rw [if_pos h, List.filter_cons_of_neg (by simpa using h), List.filter_nil, List.append_nil]
  · rw [if_neg h, List.filter_cons_of_pos (by simpa using h), List.filter_nil]
theorem keep_none (l : Arcs) (gs : List (List Int)) (k : Nat) (hk : k ≤ gs.length) (h : ∀ i, i < k → ¬ delG l (gs.getD i [])) : keepG l (gs.take k) = gs.take k := by
  unfold keepG
  rw [List.filter_eq_self]
  intro r hr
  obtain ⟨i, h1, rfl⟩ := get_mem [] hr
  rw [List.length_take] at h1
  have : (gs.take k).getD i [] = gs.getD i [] := by simp [List.getD_eq_getElem?_getD, List.getElem?_take, show i < k by omega]
  rw [this]; simpa using h i (by omega)
theorem keep_le (l : Arcs) (gs : List (List Int)) (k : Nat) : (keepG l (gs.take k)).length ≤ k := by
  unfold keepG
  have := List.length_filter_le (fun r => decide (¬ delG l r)) (gs.take k)
  rw [List.length_take] at this; omega

theorem rows_app (w : Bool) (a b : List (List Int)) : rows w a ++ rows w b = rows w (a ++ b) := by simp [rows]
def nilsA (n : Nat) : List A := List.replicate n (.v (.slice none 0 0))
/-- The groups are freed of those that are no loops. -/
theorem deleteFunc_vr {w : Bool} (n : Int) (l : Arcs) (hl : l.length < 1000000000) (gs : List (List Int)) (hg : gs.length < 1000000000) (B0 B2 B3 : Blk) (V : Nat) (h0 : A.bdL 5 B0.cells = true) (h2 : A.bdL 5 B2.cells = true) (h3 : A.bdL 5 B3.cells = true) :
    VR P false n_slices_DeleteFuncint_int [.sl 4 V 1 0 gs.length, .fn n_layout_Loops_1 [.lp 1 0 0]] [B0, ⟨0, [.v (.int .i64 n), .fs w (pairs l)]⟩, B2, B3, ⟨V, rows true gs⟩] fun r H' =>
      r = .sl 4 V 1 0 (keepG l gs).length ∧ ∃ T, H' = [B0, ⟨0, [.v (.int .i64 n), .fs w (pairs l)]⟩, B2, B3, ⟨V, rows true (keepG l gs) ++ T⟩] := by
  refine vr_slices_DeleteFuncint_int (by simp) (.inl rfl) fun _ _ => ?_
  obtain ⟨v0, c0⟩ := B0
  obtain ⟨v2, c2⟩ := B2
  obtain ⟨v3, c3⟩ := B3
  simp only at h0 h2 h3
  have hx := idxE_ge (delG l) gs
  simp (disch := ((try simp only [List.length_set, List.length_replicate, List.length_append, List.length_cons, List.length_nil]); omega)) only [aW, aX, aV, aB, aN, aL, aP, aH, aM, s_slices_DeleteFuncint_int, v_slices_DeleteFuncint_int]
  refine (indexFuncG_vr (w := w) (v := false) n l hl gs hg).use ⟨ld_slR _ _ _ _ _ _ rfl (by simp (disch := ((try simp only [List.length_set, List.length_replicate, List.length_append, List.length_cons, List.length_nil]); omega)) only [aW, aX, aV, aB, aN, aL, aP, aH, aM]), Ld.fn ⟨Ld.lp (o := 0) rfl (LdL.refl (by simp (disch := first | omega | simp (disch := omega) only [aF, aL, aN, aM]) only [aW, aX, aV, aB, aN, aL, aP, aH, aM, aF, Int.natCast_add, Int.natCast_mul, Int.add_sub_cancel, List.length_nil, Int.cast_ofNat_Int, and_true, true_and])) (by simp), trivial⟩, trivial⟩ rfl (aret_of ?_)
  simp (disch := ((try simp only [List.length_set, List.length_replicate, List.length_append, List.length_cons, List.length_nil]); omega)) only [aW, aX, aV, aB, aN, aL, aP, aH, aM]
  refine ib_intro (fun h4 => ?_) (fun h4 => ?_)
  · have hk : keepG l gs = gs := by
      have := keep_none l gs gs.length (Nat.le_refl _) fun i hi => idxE_neg (p := delG l) (l := gs) (by omega) _ (mem_get [] hi)
      rwa [List.take_length] at this
    simp (disch := ((try simp only [List.length_set, List.length_replicate, List.length_append, List.length_cons, List.length_nil]); omega)) only [aW, aX, aV, aB, aN, aL, aP, aH, aM, r_slices_DeleteFuncint_int]
    refine post2 ⟨by rw [hk]; rfl, [], ?_⟩
    rw [hk, List.append_nil]
  have hd := idxE_at (p := delG l) [] (l := gs) (by omega)
  have hbef : ∀ i, i < (idxE (delG l) gs).toNat → ¬ delG l (gs.getD i []) := fun i hi => idxE_lt (p := delG l) [] (by omega)
  generalize idxE (delG l) gs = x at hx h4 hd hbef ⊢
  have hK0 : keepG l (gs.take (x.toNat + 1)) = gs.take x.toNat := by
    rw [keep_succ _ _ _ (by omega), if_pos hd, keep_none l gs _ (by omega) hbef]
  simp (disch := ((try simp only [List.length_set, List.length_replicate, List.length_append, List.length_cons, List.length_nil]); omega)) only [aW, aX, aV, aB, aN, aL, aP, aH, aM]
  refine AWP.loopP g_slices_DeleteFuncint_int_0 (fun j : Nat => x.toNat + 1 ≤ j ∧ j ≤ gs.length ∧ (keepG l (gs.take j)).length < j) (fun j => [(2, .v (.slice none 0 0)), (3, .v (.int .i64 (keepG l (gs.take j)).length)), (4, .v (.int .i64 j))]) (fun j => [(4, ⟨V, rows true (keepG l (gs.take j) ++ gs.drop (keepG l (gs.take j)).length)⟩)]) (fun j => gs.length - j) (x.toNat + 1) ⟨by omega, by omega, ?_⟩ ?_ ?_
  · rw [hK0, List.length_take]; omega
  · have e1 : keepG l (gs.take (x.toNat + 1)) ++ gs.drop (keepG l (gs.take (x.toNat + 1))).length = gs := by
      rw [hK0, List.length_take, Nat.min_eq_left (by omega), List.take_append_drop]
    have e2 : ((keepG l (gs.take (x.toNat + 1))).length : Int) = x := by rw [hK0, List.length_take]; omega
    have e3 : ((x.toNat + 1 : Nat) : Int) = x + 1 := by omega
    simp only [e1, e2, e3]
    try simp (disch := ((try simp only [List.length_set, List.length_replicate, List.length_append, List.length_cons, List.length_nil]); omega)) only [aW, aX, aV, aB, aN, aL, aP, aH, aM]
    exact Cut.of' 5 rfl (by omega) (by simp (disch := first | omega | simp (disch := omega) only [aF, aL, aN, aM]) only [aW, aX, aV, aB, aN, aL, aP, aH, aM, aF, Int.natCast_add, Int.natCast_mul, Int.add_sub_cancel, List.length_nil, Int.cast_ofNat_Int, and_true, true_and, h0, h2, h3, fzl_refl]) (by simp (disch := first | omega | simp (disch := omega) only [aF, aL, aN, aM]) only [aW, aX, aV, aB, aN, aL, aP, aH, aM, aF, Int.natCast_add, Int.natCast_mul, Int.add_sub_cancel, List.length_nil, Int.cast_ofNat_Int, and_true, true_and])
  rintro j ⟨hj1, hj2, hj3⟩
  have hkl := keep_le l gs j
  have hnext := fun hlt => keep_succ l gs j hlt
  generalize hK : keepG l (gs.take j) = K at hj3 hkl hnext ⊢
  have hlen : (K ++ gs.drop K.length).length = gs.length := by simp; omega
  by_cases hlt : j < gs.length
  · have hnext := hnext hlt
    have hg : (K ++ gs.drop K.length).getD j [] = gs.getD j [] := by
      simp only [List.getD_eq_getElem?_getD]
      rw [List.getElem?_append_right (by omega), List.getElem?_drop]
      congr 2; omega
    have hnth := r_nth true (K ++ gs.drop K.length) j (by omega)
    simp (disch := ((try simp only [List.length_set, List.length_replicate, List.length_append, List.length_cons, List.length_nil]); omega)) only [aW, aX, aV, aB, aN, aL, aP, aH, aM, hnth, hg]
    refine ⟨by kernel_rfl, ?_⟩
    refine (loops1_vr (w := w) (v := true) n l hl (gs.getD j [])).use ⟨Ld.refl (by simp (disch := first | omega | simp (disch := omega) only [aF, aL, aN, aM]) only [aW, aX, aV, aB, aN, aL, aP, aH, aM, aF, Int.natCast_add, Int.natCast_mul, Int.add_sub_cancel, List.length_nil, Int.cast_ofNat_Int, and_true, true_and]), Ld.lp (o := 0) rfl (LdL.refl (by simp (disch := first | omega | simp (disch := omega) only [aF, aL, aN, aM]) only [aW, aX, aV, aB, aN, aL, aP, aH, aM, aF, Int.natCast_add, Int.natCast_mul, Int.add_sub_cancel, List.length_nil, Int.cast_ofNat_Int, and_true, true_and])) (by simp), trivial⟩ rfl (aret_of ?_)
    simp (disch := ((try simp only [List.length_set, List.length_replicate, List.length_append, List.length_cons, List.length_nil]); omega)) only [aW, aX, aV, aB, aN, aL, aP, aH, aM]
    refine ib_intro (fun h5 => ?_) (fun h5 => ?_)
    · have h5 : ¬ delG l (gs.getD j []) := by simpa using h5
      rw [if_neg h5] at hnext
      have e4 : (K ++ gs.drop K.length).set K.length (gs.getD j []) = (K ++ [gs.getD j []]) ++ gs.drop (K ++ [gs.getD j []]).length := by
        rw [List.set_append_right _ _ (Nat.le_refl _), Nat.sub_self, List.length_append, List.append_assoc]
        congr 1
        rw [List.drop_eq_getElem_cons (show K.length < gs.length by omega)]; rfl
      have hst := r_spl true (K ++ gs.drop K.length) K.length (gs.getD j []) (by omega)
      have hle : K.length + 1 ≤ (K ++ gs.drop K.length).length := by omega
      simp (disch := ((try simp only [List.length_set, List.length_replicate, List.length_append, List.length_cons, List.length_nil]); omega)) only [aW, aX, aV, aB, aN, aL, aP, aH, aM, hst, e4, eq_true hle]
      refine ⟨j + 1, ⟨by omega, by omega, by rw [hnext]; simp; omega⟩, by omega, ?_⟩
      rw [hnext]
      exact Cut.of' 5 rfl (by omega) (by simp (disch := first | omega | simp (disch := omega) only [aF, aL, aN, aM]) only [aW, aX, aV, aB, aN, aL, aP, aH, aM, aF, Int.natCast_add, Int.natCast_mul, Int.add_sub_cancel, List.length_nil, Int.cast_ofNat_Int, and_true, true_and, h0, h2, h3, fzl_refl]) (by simp (disch := first | omega | simp (disch := omega) only [aF, aL, aN, aM]) only [aW, aX, aV, aB, aN, aL, aP, aH, aM, aF, Int.natCast_add, Int.natCast_mul, Int.add_sub_cancel, List.length_nil, Int.cast_ofNat_Int, and_true, true_and])
    · have h5 : delG l (gs.getD j []) := by simpa using h5
      rw [if_pos h5] at hnext
      simp (disch := ((try simp only [List.length_set, List.length_replicate, List.length_append, List.length_cons, List.length_nil]); omega)) only [aW, aX, aV, aB, aN, aL, aP, aH, aM]
      refine ⟨j + 1, ⟨by omega, by omega, by rw [hnext]; omega⟩, by omega, ?_⟩
      rw [hnext]
      exact Cut.of' 5 rfl (by omega) (by simp (disch := first | omega | simp (disch := omega) only [aF, aL, aN, aM]) only [aW, aX, aV, aB, aN, aL, aP, aH, aM, aF, Int.natCast_add, Int.natCast_mul, Int.add_sub_cancel, List.length_nil, Int.cast_ofNat_Int, and_true, true_and, h0, h2, h3, fzl_refl]) (by simp (disch := first | omega | simp (disch := omega) only [aF, aL, aN, aM]) only [aW, aX, aV, aB, aN, aL, aP, aH, aM, aF, Int.natCast_add, Int.natCast_mul, Int.add_sub_cancel, List.length_nil, Int.cast_ofNat_Int, and_true, true_and])
  · have hje : j = gs.length := by omega
    subst hje
    rw [List.take_length] at hK
    have e5 : splA (rows true (K ++ gs.drop K.length)) K.length (repL (gs.length - K.length) [.v (.slice none 0 0)]) = rows true K ++ nilsA (gs.length - K.length) := by
      have e6 : repL (gs.length - K.length) [A.v (.slice none 0 0)] = nilsA (gs.length - K.length) := rep_one _ _
      unfold splA
      rw [e6, ← rows_app, List.take_append_of_le_length (by rw [r_len]; exact Nat.le_refl _), List.take_of_length_le (by rw [r_len]; exact Nat.le_refl _), List.drop_of_length_le, List.append_nil]
      simp [nilsA, r_len]
    simp (disch := ((try simp only [List.length_set, List.length_replicate, List.length_append, List.length_cons, List.length_nil]); omega)) only [aW, aX, aV, aB, aN, aL, aP, aH, aM, r_slices_DeleteFuncint_int, hlen, e5]
    refine post2 ⟨?_, nilsA (gs.length - K.length), ?_⟩
    · rw [hK]; rfl
    · rw [hK]
end Go.Proofs.Ytjhdedifmhkhbaa
