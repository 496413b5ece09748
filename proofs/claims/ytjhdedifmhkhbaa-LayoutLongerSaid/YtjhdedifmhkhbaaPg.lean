/- Ways in the program; what drains; heights; equal graphs. No statement is claimed here. -/
import Derived.Test.YtjhdedifmhkhbaaPf
namespace Go.Proofs.Ytjhdedifmhkhbaa
open Go Go.Lft
set_option linter.unusedSimpArgs false
set_option linter.unusedVariables false
attribute [local congr] ob_congr bw_congr ib_congr ck_congr iwA_congr itA_congr aw_congr awp_congr sqA_congr bkA_congr vr_congr gd_congr

theorem binN_vr {w v : Bool} (p : Pl) (m : Nat) (h1 : m < p.ms.length) : VR P false n_layout_bin [plA w v p, .v (.int .i64 m)] [] (isR (.v (.bool (decide (binN p m))))) := by
  have := bin_vr (w := w) (v := v) p m (by omega) (by omega)
  rw [Int.toNat_natCast] at this; exact this
def visN (p : Pl) (mt : Int) (m j : Nat) (i : Nat) : Bool := (List.range j).any fun l => posR p mt m l == i
theorem visN_zero (p : Pl) (mt : Int) (m i : Nat) : visN p mt m 0 i = false := rfl
theorem visN_succ (p : Pl) (mt : Int) (m j i : Nat) : visN p mt m (j + 1) i = (visN p mt m j i || i == posR p mt m j) := by
  unfold visN
  rw [List.range_succ, List.any_append]
  simp only [List.any_cons, List.any_nil, Bool.or_false]
  congr 1
  by_cases h : posR p mt m j = i
  · subst h; simp
  · rw [beq_eq_false_iff_ne.2 h, beq_eq_false_iff_ne.2 (Ne.symm h)]
theorem visN_iff {p : Pl} {mt : Int} {m j i : Nat} : visN p mt m j i = true ↔ ∃ l, l < j ∧ posR p mt m l = i := by
  unfold visN; simp

theorem layoutWay_vr {w v : Bool} (p : Pl) (h : POk p) (m : Nat) (hm : m < p.ms.length) (mt : Int) (h0 : 0 ≤ mt) (h1 : mt < p.mat) : VR P false n_layout_way [plA w v p, .v (.int .i64 m), .v (.int .i64 mt)] [] (isR (wayT (wayV p mt m))) := by
  refine vr_layout_way (by simp) (.inr rfl) fun _ _ => ?_
  have hn2 := h.n2
  have hb2 := h.b2
  unfold plA plC
  simp (disch := ((try simp only [List.length_set, List.length_replicate, List.length_append, List.length_cons, List.length_nil]); omega)) only [aW, aX, aV, aB, aN, aL, aP, aH, aM, s_layout_way, v_layout_way]
  refine AWP.loopP g_layout_way_0 (fun k : Nat => k ≤ p.ms.length ∧ (∀ i, i < k → ¬ binN p (posR p mt m i)) ∧ ∀ i l, i < l → l < k → posR p mt m i ≠ posR p mt m l) (fun k => [(5, .v (.int .i64 (posR p mt m k))), (6, .v (.int .i64 (farR p mt m k)))]) (fun k => [(1, ⟨0, bools (tab 24 (visN p mt m k))⟩)]) (fun k => p.ms.length - k) 0 ⟨by omega, fun i hi => by omega, fun i l hi hl => by omega⟩ ?_ ?_
  · have e0 : tab 24 (visN p mt m 0) = List.replicate 24 false := by rw [tab_rep]; exact tab_ext fun k _ => rfl
    simp only [posR, farR, e0]
    try simp (disch := ((try simp only [List.length_set, List.length_replicate, List.length_append, List.length_cons, List.length_nil]); omega)) only [aW, aX, aV, aB, aN, aL, aP, aH, aM]
    exact Cut.of' 2 rfl (by omega) (by simp (disch := first | omega | simp (disch := omega) only [aF, aL, aN, aM]) only [aW, aX, aV, aB, aN, aL, aP, aH, aM, aF, Int.natCast_add, Int.natCast_mul, Int.add_sub_cancel, List.length_nil, Int.cast_ofNat_Int, and_true, true_and]) (by simp (disch := first | omega | simp (disch := omega) only [aF, aL, aN, aM]) only [aW, aX, aV, aB, aN, aL, aP, aH, aM, aF, Int.natCast_add, Int.natCast_mul, Int.add_sub_cancel, List.length_nil, Int.cast_ofNat_Int, and_true, true_and])
  rintro k ⟨hk, hb, hd⟩
  have hp := posR_lt h h0 h1 hm k hb
  have hf := farR_bd h h0 h1 hm k hb
  have htl := tab_len 24 (visN p mt m k)
  simp (disch := ((try simp only [List.length_set, List.length_replicate, List.length_append, List.length_cons, List.length_nil]); omega)) only [aW, aX, aV, aB, aN, aL, aP, aH, aM]
  refine (binN_vr (w := w) (v := v) p _ hp).same (by unfold plA plC; simp (disch := first | omega | simp (disch := omega) only [aF, aL, aN, aM]) only [aW, aX, aV, aB, aN, aL, aP, aH, aM, aF, Int.natCast_add, Int.natCast_mul, Int.add_sub_cancel, List.length_nil, Int.cast_ofNat_Int, and_true, true_and]) rfl (aret_of ?_)
  by_cases hbin : binN p (posR p mt m k)
  · have hw : wayV p mt m = (farR p mt m k, true) := wayR_of (by omega) hb hbin
    simp (disch := ((try simp only [List.length_set, List.length_replicate, List.length_append, List.length_cons, List.length_nil]); omega)) only [aW, aX, aV, aB, aN, aL, aP, aH, aM, decide_eq_true hbin]
    refine (binN_vr (w := w) (v := v) p _ hp).same (by unfold plA plC; simp (disch := first | omega | simp (disch := omega) only [aF, aL, aN, aM]) only [aW, aX, aV, aB, aN, aL, aP, aH, aM, aF, Int.natCast_add, Int.natCast_mul, Int.add_sub_cancel, List.length_nil, Int.cast_ofNat_Int, and_true, true_and]) rfl (aret_of ?_)
    rw [hw]
    simp (disch := ((try simp only [List.length_set, List.length_replicate, List.length_append, List.length_cons, List.length_nil]); omega)) only [aW, aX, aV, aB, aN, aL, aP, aH, aM, decide_eq_true hbin, r_layout_way]
    exact post0 (Fz.refl (by simp (disch := first | omega | simp (disch := omega) only [aF, aL, aN, aM]) only [aW, aX, aV, aB, aN, aL, aP, aH, aM, aF, Int.natCast_add, Int.natCast_mul, Int.add_sub_cancel, List.length_nil, Int.cast_ofNat_Int, and_true, true_and])) ⟨rfl, rfl⟩
  have hg := tab_get 24 (visN p mt m k) (posR p mt m k) (by omega)
  cases hv : visN p mt m k (posR p mt m k) with
  | true =>
    obtain ⟨l, l1, l2⟩ := visN_iff.1 hv
    have hnone := again_none l1 l2 hb
    have hw : wayV p mt m = (0, false) := wayR_none hnone _
    simp (disch := ((try simp only [List.length_set, List.length_replicate, List.length_append, List.length_cons, List.length_nil]); omega)) only [aW, aX, aV, aB, aN, aL, aP, aH, aM, decide_eq_false hbin, hg, hv]
    refine (binN_vr (w := w) (v := v) p _ hp).same (by unfold plA plC; simp (disch := first | omega | simp (disch := omega) only [aF, aL, aN, aM]) only [aW, aX, aV, aB, aN, aL, aP, aH, aM, aF, Int.natCast_add, Int.natCast_mul, Int.add_sub_cancel, List.length_nil, Int.cast_ofNat_Int, and_true, true_and]) rfl (aret_of ?_)
    rw [hw]
    simp (disch := ((try simp only [List.length_set, List.length_replicate, List.length_append, List.length_cons, List.length_nil]); omega)) only [aW, aX, aV, aB, aN, aL, aP, aH, aM, decide_eq_false hbin, r_layout_way]
    exact post0 (Fz.refl (by simp (disch := first | omega | simp (disch := omega) only [aF, aL, aN, aM]) only [aW, aX, aV, aB, aN, aL, aP, aH, aM, aF, Int.natCast_add, Int.natCast_mul, Int.add_sub_cancel, List.length_nil, Int.cast_ofNat_Int, and_true, true_and])) ⟨rfl, rfl⟩
  | false =>
    have hd' : ∀ i l, i < l → l < k + 1 → posR p mt m i ≠ posR p mt m l := fun i l hi hl he => by
      rcases Nat.lt_succ_iff_lt_or_eq.1 hl with h | rfl
      · exact hd i l hi h he
      · rw [visN_iff.2 ⟨i, hi, he⟩] at hv; cases hv
    have hb' : ∀ i, i < k + 1 → ¬ binN p (posR p mt m i) := fun i hi => by
      rcases Nat.lt_succ_iff_lt_or_eq.1 hi with h | rfl
      · exact hb i h
      · exact hbin
    have hk' : k + 1 ≤ p.ms.length := by
      apply Nat.le_of_not_lt; intro hc
      obtain ⟨i, l, a1, a2, a3⟩ := pigeon p.ms.length (posR p mt m) fun i hi => posR_lt h h0 h1 hm i fun l hl => hb l (by omega)
      exact hd' i l a1 (by omega) a3
    have e2 : (tab 24 (visN p mt m k)).set (posR p mt m k) true = tab 24 (visN p mt m (k + 1)) := by
      rw [tab_set _ _ _ (by omega)]
      exact tab_ext fun j _ => (visN_succ p mt m k j).symm
    obtain ⟨o1, o2, o3, o4, o5, o6, o7⟩ := out_ok h h0 h1 hp hbin
    have o1' : (findB p.bs (posR p mt m k) (mainN (p.ms.getD (posR p mt m k) []) mt)).toNat = outB p mt (posR p mt m k) := rfl
    have o8 := findB_ge p.bs (posR p mt m k) (mainN (p.ms.getD (posR p mt m k) []) mt)
    have hr4 := rows4 h hp mt
    have o9 : (p.bs.getD (outB p mt (posR p mt m k)) b0).ln = lx p mt (posR p mt m k) := rfl
    simp (disch := ((try simp only [List.length_set, List.length_replicate, List.length_append, List.length_cons, List.length_nil]); omega)) only [aW, aX, aV, aB, aN, aL, aP, aH, aM, decide_eq_false hbin, hg, hv, e2]
    refine ⟨?_, ?_, ?_⟩
    all_goals
      refine (machineMain_vr (w := w) (p.ms.getD (posR p mt m k) []) mt hr4).same (by unfold mcA mcC; simp (disch := first | omega | simp (disch := omega) only [aF, aL, aN, aM]) only [aW, aX, aV, aB, aN, aL, aP, aH, aM, aF, Int.natCast_add, Int.natCast_mul, Int.add_sub_cancel, List.length_nil, Int.cast_ofNat_Int, and_true, true_and]) rfl (aret_of ?_)
      simp (disch := ((try simp only [List.length_set, List.length_replicate, List.length_append, List.length_cons, List.length_nil]); omega)) only [aW, aX, aV, aB, aN, aL, aP, aH, aM]
      refine (find_vr (w := w) (v := v) p (by omega) (posR p mt m k) (mainN (p.ms.getD (posR p mt m k) []) mt)).same (by unfold plA plC; simp (disch := first | omega | simp (disch := omega) only [aF, aL, aN, aM]) only [aW, aX, aV, aB, aN, aL, aP, aH, aM, aF, Int.natCast_add, Int.natCast_mul, Int.add_sub_cancel, List.length_nil, Int.cast_ofNat_Int, and_true, true_and]) rfl (aret_of ?_)
      simp (disch := ((try simp only [List.length_set, List.length_replicate, List.length_append, List.length_cons, List.length_nil]); omega)) only [aW, aX, aV, aB, aN, aL, aP, aH, aM, o1', o5, o9]
      refine ⟨k + 1, ⟨hk', hb', hd'⟩, by omega, ?_⟩
      simp only [posR, farR]
      try simp (disch := ((try simp only [List.length_set, List.length_replicate, List.length_append, List.length_cons, List.length_nil]); omega)) only [aW, aX, aV, aB, aN, aL, aP, aH, aM]
      exact Cut.of' 2 rfl (by omega) (by simp (disch := first | omega | simp (disch := omega) only [aF, aL, aN, aM]) only [aW, aX, aV, aB, aN, aL, aP, aH, aM, aF, Int.natCast_add, Int.natCast_mul, Int.add_sub_cancel, List.length_nil, Int.cast_ofNat_Int, and_true, true_and]) (by simp (disch := first | omega | simp (disch := omega) only [aF, aL, aN, aM]) only [aW, aX, aV, aB, aN, aL, aP, aH, aM, aF, Int.natCast_add, Int.natCast_mul, Int.add_sub_cancel, List.length_nil, Int.cast_ofNat_Int, and_true, true_and])

/-! ### What drains -/
def drB (p : Pl) : Bool := (List.range p.ms.length).all fun m => (List.range p.mat.toNat).all fun mt => (wayV p mt m).2
theorem drB_iff {p : Pl} (h : POk p) : drB p = true ↔ ∀ m, m < p.ms.length → ∀ mt : Nat, (mt : Int) < p.mat → (wayV p mt m).2 = true := by
  unfold drB
  have := h.m1
  simp only [List.all_eq_true, List.mem_range]
  exact ⟨fun g m hm mt hmt => g m hm mt (by omega), fun g m hm mt hmt => g m hm mt (by omega)⟩
def drainR (p : Pl) : Bool × Int := if pcheck p ≠ 0 then (false, pcheck p) else (drB p, 0)

theorem refDrains_vr {w v : Bool} (p : Pl) : VR P false n_ref34_Drains [plA w v p] [] (isR (.tup [.v (.bool (drainR p).1), .v (.int .i64 (drainR p).2)])) := by
  refine vr_ref34_Drains (by simp) (.inr rfl) fun _ _ => ?_
  unfold plA plC drainR
  simp (disch := ((try simp only [List.length_set, List.length_replicate, List.length_append, List.length_cons, List.length_nil]); omega)) only [aW, aX, aV, aB, aN, aL, aP, aH, aM, s_ref34_Drains, v_ref34_Drains]
  refine (ref34Check_vr (w := w) (v := v) p).same (by unfold plA plC; simp (disch := first | omega | simp (disch := omega) only [aF, aL, aN, aM]) only [aW, aX, aV, aB, aN, aL, aP, aH, aM, aF, Int.natCast_add, Int.natCast_mul, Int.add_sub_cancel, List.length_nil, Int.cast_ofNat_Int, and_true, true_and]) rfl (aret_of ?_)
  simp (disch := ((try simp only [List.length_set, List.length_replicate, List.length_append, List.length_cons, List.length_nil]); omega)) only [aW, aX, aV, aB, aN, aL, aP, aH, aM]
  refine ib_intro (fun h1 => ?_) (fun h1 => ?_)
  · rw [if_pos h1]
    simp (disch := ((try simp only [List.length_set, List.length_replicate, List.length_append, List.length_cons, List.length_nil]); omega)) only [aW, aX, aV, aB, aN, aL, aP, aH, aM, r_ref34_Drains]
    exact post0 (Fz.refl (by simp (disch := first | omega | simp (disch := omega) only [aF, aL, aN, aM]) only [aW, aX, aV, aB, aN, aL, aP, aH, aM, aF, Int.natCast_add, Int.natCast_mul, Int.add_sub_cancel, List.length_nil, Int.cast_ofNat_Int, and_true, true_and])) ⟨rfl, rfl⟩
  rw [if_neg h1]
  have h := pcheck_ok (Classical.not_not.1 h1)
  have hn2 := h.n2
  have hm1 := h.m1
  have hm2 := h.m2
  simp (disch := ((try simp only [List.length_set, List.length_replicate, List.length_append, List.length_cons, List.length_nil]); omega)) only [aW, aX, aV, aB, aN, aL, aP, aH, aM]
  refine AWP.loopP g_ref34_Drains_0 (fun k : Nat => k ≤ p.ms.length ∧ ∀ m, m < k → ∀ mt : Nat, (mt : Int) < p.mat → (wayV p mt m).2 = true) (fun k => [(1, .v (.bool false)), (2, .v (.int .i64 0)), (5, .v (.int .i64 k))]) (fun _ => []) (fun k => p.ms.length - k) 0 ⟨by omega, fun i hi => by omega⟩ (by refine Cut.of' (1) ?_ (by omega) ?_ ?_ <;> simp (disch := first | omega | simp (disch := omega) only [aF, aL, aN, aM]) only [aW, aX, aV, aB, aN, aL, aP, aH, aM, aF, Int.natCast_add, Int.natCast_mul, Int.add_sub_cancel, List.length_nil, Int.cast_ofNat_Int, and_true, true_and]) ?_
  rintro k ⟨hk, hb⟩
  by_cases hlt : k < p.ms.length
  · simp (disch := ((try simp only [List.length_set, List.length_replicate, List.length_append, List.length_cons, List.length_nil]); omega)) only [aW, aX, aV, aB, aN, aL, aP, aH, aM]
    refine AWP.loopP g_ref34_Drains_1 (fun j : Nat => (j : Int) ≤ p.mat ∧ ∀ mt : Nat, mt < j → (wayV p mt k).2 = true) (fun j => [(1, .v (.bool false)), (2, .v (.int .i64 0)), (6, .v (.int .i64 j))]) (fun _ => []) (fun j => p.mat.toNat - j) 0 ⟨by omega, fun i hi => by omega⟩ (by refine Cut.of' (1) ?_ (by omega) ?_ ?_ <;> simp (disch := first | omega | simp (disch := omega) only [aF, aL, aN, aM]) only [aW, aX, aV, aB, aN, aL, aP, aH, aM, aF, Int.natCast_add, Int.natCast_mul, Int.add_sub_cancel, List.length_nil, Int.cast_ofNat_Int, and_true, true_and]) ?_
    rintro j ⟨hj, hc⟩
    by_cases hjl : (j : Int) < p.mat
    · simp (disch := ((try simp only [List.length_set, List.length_replicate, List.length_append, List.length_cons, List.length_nil]); omega)) only [aW, aX, aV, aB, aN, aL, aP, aH, aM]
      refine (refWay_vr (w := w) (v := v) p h k hlt j (by omega) hjl).same (by unfold plA plC; simp (disch := first | omega | simp (disch := omega) only [aF, aL, aN, aM]) only [aW, aX, aV, aB, aN, aL, aP, aH, aM, aF, Int.natCast_add, Int.natCast_mul, Int.add_sub_cancel, List.length_nil, Int.cast_ofNat_Int, and_true, true_and]) rfl (aret_of ?_)
      unfold wayT
      simp (disch := ((try simp only [List.length_set, List.length_replicate, List.length_append, List.length_cons, List.length_nil]); omega)) only [aW, aX, aV, aB, aN, aL, aP, aH, aM]
      refine ib_split (fun h2 => ?_) (fun h2 => ?_)
      · have hd : drB p = false := by
          apply Bool.eq_false_iff.2
          intro hc
          have := (drB_iff h).1 hc k hlt j hjl
          simp_all
        rw [hd]
        simp (disch := ((try simp only [List.length_set, List.length_replicate, List.length_append, List.length_cons, List.length_nil]); omega)) only [aW, aX, aV, aB, aN, aL, aP, aH, aM, r_ref34_Drains]
        exact post0 (Fz.refl (by simp (disch := first | omega | simp (disch := omega) only [aF, aL, aN, aM]) only [aW, aX, aV, aB, aN, aL, aP, aH, aM, aF, Int.natCast_add, Int.natCast_mul, Int.add_sub_cancel, List.length_nil, Int.cast_ofNat_Int, and_true, true_and])) ⟨rfl, rfl⟩
      · simp (disch := ((try simp only [List.length_set, List.length_replicate, List.length_append, List.length_cons, List.length_nil]); omega)) only [aW, aX, aV, aB, aN, aL, aP, aH, aM]
        refine ⟨j + 1, ⟨by omega, fun i hi => ?_⟩, by omega, (by refine Cut.of' (1) ?_ (by omega) ?_ ?_ <;> simp (disch := first | omega | simp (disch := omega) only [aF, aL, aN, aM]) only [aW, aX, aV, aB, aN, aL, aP, aH, aM, aF, Int.natCast_add, Int.natCast_mul, Int.add_sub_cancel, List.length_nil, Int.cast_ofNat_Int, and_true, true_and])⟩
        rcases Nat.lt_succ_iff_lt_or_eq.1 hi with h | rfl
        · exact hc i h
        · simpa using h2
    · simp (disch := ((try simp only [List.length_set, List.length_replicate, List.length_append, List.length_cons, List.length_nil]); omega)) only [aW, aX, aV, aB, aN, aL, aP, aH, aM]
      refine ⟨k + 1, ⟨by omega, fun i hi => ?_⟩, by omega, (by refine Cut.of' (1) ?_ (by omega) ?_ ?_ <;> simp (disch := first | omega | simp (disch := omega) only [aF, aL, aN, aM]) only [aW, aX, aV, aB, aN, aL, aP, aH, aM, aF, Int.natCast_add, Int.natCast_mul, Int.add_sub_cancel, List.length_nil, Int.cast_ofNat_Int, and_true, true_and])⟩
      rcases Nat.lt_succ_iff_lt_or_eq.1 hi with h | rfl
      · exact hb i h
      · exact fun mt hmt => hc mt (by omega)
  · have hd : drB p = true := (drB_iff h).2 fun m hm => hb m (by omega)
    rw [hd]
    simp (disch := ((try simp only [List.length_set, List.length_replicate, List.length_append, List.length_cons, List.length_nil]); omega)) only [aW, aX, aV, aB, aN, aL, aP, aH, aM, r_ref34_Drains]
    exact post0 (Fz.refl (by simp (disch := first | omega | simp (disch := omega) only [aF, aL, aN, aM]) only [aW, aX, aV, aB, aN, aL, aP, aH, aM, aF, Int.natCast_add, Int.natCast_mul, Int.add_sub_cancel, List.length_nil, Int.cast_ofNat_Int, and_true, true_and])) ⟨rfl, rfl⟩

theorem layoutDrains_vr {w v : Bool} (p : Pl) : VR P false n_layout_Drains [plA w v p] [] (isR (.tup [.v (.bool (drainR p).1), .v (.int .i64 (drainR p).2)])) := by
  refine vr_layout_Drains (by simp) (.inr rfl) fun _ _ => ?_
  unfold plA plC drainR
  simp (disch := ((try simp only [List.length_set, List.length_replicate, List.length_append, List.length_cons, List.length_nil]); omega)) only [aW, aX, aV, aB, aN, aL, aP, aH, aM, s_layout_Drains, v_layout_Drains]
  refine (layoutCheck_vr (w := w) (v := v) p).same (by unfold plA plC; simp (disch := first | omega | simp (disch := omega) only [aF, aL, aN, aM]) only [aW, aX, aV, aB, aN, aL, aP, aH, aM, aF, Int.natCast_add, Int.natCast_mul, Int.add_sub_cancel, List.length_nil, Int.cast_ofNat_Int, and_true, true_and]) rfl (aret_of ?_)
  simp (disch := ((try simp only [List.length_set, List.length_replicate, List.length_append, List.length_cons, List.length_nil]); omega)) only [aW, aX, aV, aB, aN, aL, aP, aH, aM]
  refine ib_intro (fun h1 => ?_) (fun h1 => ?_)
  · rw [if_pos h1]
    simp (disch := ((try simp only [List.length_set, List.length_replicate, List.length_append, List.length_cons, List.length_nil]); omega)) only [aW, aX, aV, aB, aN, aL, aP, aH, aM, r_layout_Drains]
    exact post0 (Fz.refl (by simp (disch := first | omega | simp (disch := omega) only [aF, aL, aN, aM]) only [aW, aX, aV, aB, aN, aL, aP, aH, aM, aF, Int.natCast_add, Int.natCast_mul, Int.add_sub_cancel, List.length_nil, Int.cast_ofNat_Int, and_true, true_and])) ⟨rfl, rfl⟩
  rw [if_neg h1]
  have h := pcheck_ok (Classical.not_not.1 h1)
  have hn2 := h.n2
  have hm1 := h.m1
  have hm2 := h.m2
  simp (disch := ((try simp only [List.length_set, List.length_replicate, List.length_append, List.length_cons, List.length_nil]); omega)) only [aW, aX, aV, aB, aN, aL, aP, aH, aM]
  refine AWP.loopP g_layout_Drains_0 (fun k : Nat => k ≤ p.ms.length ∧ ∀ m, m < k → ∀ mt : Nat, (mt : Int) < p.mat → (wayV p mt m).2 = true) (fun k => [(1, .v (.bool false)), (2, .v (.int .i64 0)), (5, .v (.int .i64 k))]) (fun _ => []) (fun k => p.ms.length - k) 0 ⟨by omega, fun i hi => by omega⟩ (by refine Cut.of' (1) ?_ (by omega) ?_ ?_ <;> simp (disch := first | omega | simp (disch := omega) only [aF, aL, aN, aM]) only [aW, aX, aV, aB, aN, aL, aP, aH, aM, aF, Int.natCast_add, Int.natCast_mul, Int.add_sub_cancel, List.length_nil, Int.cast_ofNat_Int, and_true, true_and]) ?_
  rintro k ⟨hk, hb⟩
  by_cases hlt : k < p.ms.length
  · simp (disch := ((try simp only [List.length_set, List.length_replicate, List.length_append, List.length_cons, List.length_nil]); omega)) only [aW, aX, aV, aB, aN, aL, aP, aH, aM]
    refine AWP.loopP g_layout_Drains_1 (fun j : Nat => (j : Int) ≤ p.mat ∧ ∀ mt : Nat, mt < j → (wayV p mt k).2 = true) (fun j => [(1, .v (.bool false)), (2, .v (.int .i64 0)), (9, .v (.int .i64 j))]) (fun _ => []) (fun j => p.mat.toNat - j) 0 ⟨by omega, fun i hi => by omega⟩ (by refine Cut.of' (1) ?_ (by omega) ?_ ?_ <;> simp (disch := first | omega | simp (disch := omega) only [aF, aL, aN, aM]) only [aW, aX, aV, aB, aN, aL, aP, aH, aM, aF, Int.natCast_add, Int.natCast_mul, Int.add_sub_cancel, List.length_nil, Int.cast_ofNat_Int, and_true, true_and]) ?_
    rintro j ⟨hj, hc⟩
    by_cases hjl : (j : Int) < p.mat
    · simp (disch := ((try simp only [List.length_set, List.length_replicate, List.length_append, List.length_cons, List.length_nil]); omega)) only [aW, aX, aV, aB, aN, aL, aP, aH, aM]
      refine (layoutWay_vr (w := w) (v := v) p h k hlt j (by omega) hjl).same (by unfold plA plC; simp (disch := first | omega | simp (disch := omega) only [aF, aL, aN, aM]) only [aW, aX, aV, aB, aN, aL, aP, aH, aM, aF, Int.natCast_add, Int.natCast_mul, Int.add_sub_cancel, List.length_nil, Int.cast_ofNat_Int, and_true, true_and]) rfl (aret_of ?_)
      unfold wayT
      simp (disch := ((try simp only [List.length_set, List.length_replicate, List.length_append, List.length_cons, List.length_nil]); omega)) only [aW, aX, aV, aB, aN, aL, aP, aH, aM]
      refine ib_split (fun h2 => ?_) (fun h2 => ?_)
      · have hd : drB p = false := by
          apply Bool.eq_false_iff.2
          intro hc
          have := (drB_iff h).1 hc k hlt j hjl
          simp_all
        rw [hd]
        simp (disch := ((try simp only [List.length_set, List.length_replicate, List.length_append, List.length_cons, List.length_nil]); omega)) only [aW, aX, aV, aB, aN, aL, aP, aH, aM, r_layout_Drains]
        exact post0 (Fz.refl (by simp (disch := first | omega | simp (disch := omega) only [aF, aL, aN, aM]) only [aW, aX, aV, aB, aN, aL, aP, aH, aM, aF, Int.natCast_add, Int.natCast_mul, Int.add_sub_cancel, List.length_nil, Int.cast_ofNat_Int, and_true, true_and])) ⟨rfl, rfl⟩
      · simp (disch := ((try simp only [List.length_set, List.length_replicate, List.length_append, List.length_cons, List.length_nil]); omega)) only [aW, aX, aV, aB, aN, aL, aP, aH, aM]
        refine ⟨j + 1, ⟨by omega, fun i hi => ?_⟩, by omega, (by refine Cut.of' (1) ?_ (by omega) ?_ ?_ <;> simp (disch := first | omega | simp (disch := omega) only [aF, aL, aN, aM]) only [aW, aX, aV, aB, aN, aL, aP, aH, aM, aF, Int.natCast_add, Int.natCast_mul, Int.add_sub_cancel, List.length_nil, Int.cast_ofNat_Int, and_true, true_and])⟩
        rcases Nat.lt_succ_iff_lt_or_eq.1 hi with h | rfl
        · exact hc i h
        · simpa using h2
    · simp (disch := ((try simp only [List.length_set, List.length_replicate, List.length_append, List.length_cons, List.length_nil]); omega)) only [aW, aX, aV, aB, aN, aL, aP, aH, aM]
      refine ⟨k + 1, ⟨by omega, fun i hi => ?_⟩, by omega, (by refine Cut.of' (1) ?_ (by omega) ?_ ?_ <;> simp (disch := first | omega | simp (disch := omega) only [aF, aL, aN, aM]) only [aW, aX, aV, aB, aN, aL, aP, aH, aM, aF, Int.natCast_add, Int.natCast_mul, Int.add_sub_cancel, List.length_nil, Int.cast_ofNat_Int, and_true, true_and])⟩
      rcases Nat.lt_succ_iff_lt_or_eq.1 hi with h | rfl
      · exact hb i h
      · exact fun mt hmt => hc mt (by omega)
  · have hd : drB p = true := (drB_iff h).2 fun m hm => hb m (by omega)
    rw [hd]
    simp (disch := ((try simp only [List.length_set, List.length_replicate, List.length_append, List.length_cons, List.length_nil]); omega)) only [aW, aX, aV, aB, aN, aL, aP, aH, aM, r_layout_Drains]
    exact post0 (Fz.refl (by simp (disch := first | omega | simp (disch := omega) only [aF, aL, aN, aM]) only [aW, aX, aV, aB, aN, aL, aP, aH, aM, aF, Int.natCast_add, Int.natCast_mul, Int.add_sub_cancel, List.length_nil, Int.cast_ofNat_Int, and_true, true_and])) ⟨rfl, rfl⟩

/-! ### Heights -/
def heightR (p : Pl) (m mt : Int) : Int × Int :=
  if pcheck p ≠ 0 then (0, pcheck p) else if m < 0 ∨ (p.ms.length : Int) ≤ m then (0, 7) else if mt < 0 ∨ p.mat ≤ mt then (0, 18)
  else if (wayV p mt m.toNat).2 = false then (0, 23) else ((wayV p mt m.toNat).1, 0)
theorem refHeight_vr {w v : Bool} (p : Pl) (m mt : Int) : VR P false n_ref34_Height [plA w v p, .v (.int .i64 m), .v (.int .i64 mt)] [] (isR (.tup [.v (.int .i64 (heightR p m mt).1), .v (.int .i64 (heightR p m mt).2)])) := by
  refine vr_ref34_Height (by simp) (.inr rfl) fun _ _ => ?_
  unfold plA plC heightR
  simp (disch := ((try simp only [List.length_set, List.length_replicate, List.length_append, List.length_cons, List.length_nil]); omega)) only [aW, aX, aV, aB, aN, aL, aP, aH, aM, s_ref34_Height, v_ref34_Height]
  refine (ref34Check_vr (w := w) (v := v) p).same (by unfold plA plC; simp (disch := first | omega | simp (disch := omega) only [aF, aL, aN, aM]) only [aW, aX, aV, aB, aN, aL, aP, aH, aM, aF, Int.natCast_add, Int.natCast_mul, Int.add_sub_cancel, List.length_nil, Int.cast_ofNat_Int, and_true, true_and]) rfl (aret_of ?_)
  simp (disch := ((try simp only [List.length_set, List.length_replicate, List.length_append, List.length_cons, List.length_nil]); omega)) only [aW, aX, aV, aB, aN, aL, aP, aH, aM]
  refine ib_intro (fun h1 => ?_) (fun h1 => ?_)
  · rw [if_pos h1]
    simp (disch := ((try simp only [List.length_set, List.length_replicate, List.length_append, List.length_cons, List.length_nil]); omega)) only [aW, aX, aV, aB, aN, aL, aP, aH, aM, r_ref34_Height]
    exact post0 (Fz.refl (by simp (disch := first | omega | simp (disch := omega) only [aF, aL, aN, aM]) only [aW, aX, aV, aB, aN, aL, aP, aH, aM, aF, Int.natCast_add, Int.natCast_mul, Int.add_sub_cancel, List.length_nil, Int.cast_ofNat_Int, and_true, true_and])) ⟨rfl, rfl⟩
  rw [if_neg h1]
  have h := pcheck_ok (Classical.not_not.1 h1)
  simp (disch := ((try simp only [List.length_set, List.length_replicate, List.length_append, List.length_cons, List.length_nil]); omega)) only [aW, aX, aV, aB, aN, aL, aP, aH, aM]
  refine ib_intro (fun h2 => ?_) (fun h2 => ?_)
  · rw [if_pos h2]
    simp (disch := ((try simp only [List.length_set, List.length_replicate, List.length_append, List.length_cons, List.length_nil]); omega)) only [aW, aX, aV, aB, aN, aL, aP, aH, aM, r_ref34_Height]
    exact post0 (Fz.refl (by simp (disch := first | omega | simp (disch := omega) only [aF, aL, aN, aM]) only [aW, aX, aV, aB, aN, aL, aP, aH, aM, aF, Int.natCast_add, Int.natCast_mul, Int.add_sub_cancel, List.length_nil, Int.cast_ofNat_Int, and_true, true_and])) ⟨rfl, rfl⟩
  rw [if_neg h2]
  simp (disch := ((try simp only [List.length_set, List.length_replicate, List.length_append, List.length_cons, List.length_nil]); omega)) only [aW, aX, aV, aB, aN, aL, aP, aH, aM]
  refine ib_intro (fun h3 => ?_) (fun h3 => ?_)
  · rw [if_pos h3]
    simp (disch := ((try simp only [List.length_set, List.length_replicate, List.length_append, List.length_cons, List.length_nil]); omega)) only [aW, aX, aV, aB, aN, aL, aP, aH, aM, r_ref34_Height]
    exact post0 (Fz.refl (by simp (disch := first | omega | simp (disch := omega) only [aF, aL, aN, aM]) only [aW, aX, aV, aB, aN, aL, aP, aH, aM, aF, Int.natCast_add, Int.natCast_mul, Int.add_sub_cancel, List.length_nil, Int.cast_ofNat_Int, and_true, true_and])) ⟨rfl, rfl⟩
  rw [if_neg h3]
  have hw := refWay_vr (w := w) (v := v) p h m.toNat (by omega) mt (by omega) (by omega)
  rw [Int.toNat_of_nonneg (by omega)] at hw
  simp (disch := ((try simp only [List.length_set, List.length_replicate, List.length_append, List.length_cons, List.length_nil]); omega)) only [aW, aX, aV, aB, aN, aL, aP, aH, aM]
  refine hw.same (by unfold plA plC; simp (disch := first | omega | simp (disch := omega) only [aF, aL, aN, aM]) only [aW, aX, aV, aB, aN, aL, aP, aH, aM, aF, Int.natCast_add, Int.natCast_mul, Int.add_sub_cancel, List.length_nil, Int.cast_ofNat_Int, and_true, true_and]) rfl (aret_of ?_)
  unfold wayT
  simp (disch := ((try simp only [List.length_set, List.length_replicate, List.length_append, List.length_cons, List.length_nil]); omega)) only [aW, aX, aV, aB, aN, aL, aP, aH, aM]
  refine ib_split (fun h2 => ?_) (fun h2 => ?_)
  · rw [if_pos (by simpa using h2)]
    simp (disch := ((try simp only [List.length_set, List.length_replicate, List.length_append, List.length_cons, List.length_nil]); omega)) only [aW, aX, aV, aB, aN, aL, aP, aH, aM, r_ref34_Height]
    exact post0 (Fz.refl (by simp (disch := first | omega | simp (disch := omega) only [aF, aL, aN, aM]) only [aW, aX, aV, aB, aN, aL, aP, aH, aM, aF, Int.natCast_add, Int.natCast_mul, Int.add_sub_cancel, List.length_nil, Int.cast_ofNat_Int, and_true, true_and])) ⟨rfl, rfl⟩
  · rw [if_neg (by simpa using h2)]
    simp (disch := ((try simp only [List.length_set, List.length_replicate, List.length_append, List.length_cons, List.length_nil]); omega)) only [aW, aX, aV, aB, aN, aL, aP, aH, aM, r_ref34_Height]
    exact post0 (Fz.refl (by simp (disch := first | omega | simp (disch := omega) only [aF, aL, aN, aM]) only [aW, aX, aV, aB, aN, aL, aP, aH, aM, aF, Int.natCast_add, Int.natCast_mul, Int.add_sub_cancel, List.length_nil, Int.cast_ofNat_Int, and_true, true_and])) ⟨rfl, rfl⟩
theorem layoutHeight_vr {w v : Bool} (p : Pl) (m mt : Int) : VR P false n_layout_Height [plA w v p, .v (.int .i64 m), .v (.int .i64 mt)] [] (isR (.tup [.v (.int .i64 (heightR p m mt).1), .v (.int .i64 (heightR p m mt).2)])) := by
  refine vr_layout_Height (by simp) (.inr rfl) fun _ _ => ?_
  unfold plA plC heightR
  simp (disch := ((try simp only [List.length_set, List.length_replicate, List.length_append, List.length_cons, List.length_nil]); omega)) only [aW, aX, aV, aB, aN, aL, aP, aH, aM, s_layout_Height, v_layout_Height]
  refine (layoutCheck_vr (w := w) (v := v) p).same (by unfold plA plC; simp (disch := first | omega | simp (disch := omega) only [aF, aL, aN, aM]) only [aW, aX, aV, aB, aN, aL, aP, aH, aM, aF, Int.natCast_add, Int.natCast_mul, Int.add_sub_cancel, List.length_nil, Int.cast_ofNat_Int, and_true, true_and]) rfl (aret_of ?_)
  simp (disch := ((try simp only [List.length_set, List.length_replicate, List.length_append, List.length_cons, List.length_nil]); omega)) only [aW, aX, aV, aB, aN, aL, aP, aH, aM]
  refine ib_intro (fun h1 => ?_) (fun h1 => ?_)
  · rw [if_pos h1]
    simp (disch := ((try simp only [List.length_set, List.length_replicate, List.length_append, List.length_cons, List.length_nil]); omega)) only [aW, aX, aV, aB, aN, aL, aP, aH, aM, r_layout_Height]
    exact post0 (Fz.refl (by simp (disch := first | omega | simp (disch := omega) only [aF, aL, aN, aM]) only [aW, aX, aV, aB, aN, aL, aP, aH, aM, aF, Int.natCast_add, Int.natCast_mul, Int.add_sub_cancel, List.length_nil, Int.cast_ofNat_Int, and_true, true_and])) ⟨rfl, rfl⟩
  rw [if_neg h1]
  have h := pcheck_ok (Classical.not_not.1 h1)
  simp (disch := ((try simp only [List.length_set, List.length_replicate, List.length_append, List.length_cons, List.length_nil]); omega)) only [aW, aX, aV, aB, aN, aL, aP, aH, aM]
  refine (has_vr (w := w) (v := v) p m).same (by unfold plA plC; simp (disch := first | omega | simp (disch := omega) only [aF, aL, aN, aM]) only [aW, aX, aV, aB, aN, aL, aP, aH, aM, aF, Int.natCast_add, Int.natCast_mul, Int.add_sub_cancel, List.length_nil, Int.cast_ofNat_Int, and_true, true_and]) rfl (aret_of ?_)
  by_cases h2 : 0 ≤ m ∧ m < p.ms.length
  · rw [if_neg (by omega)]
    simp (disch := ((try simp only [List.length_set, List.length_replicate, List.length_append, List.length_cons, List.length_nil]); omega)) only [aW, aX, aV, aB, aN, aL, aP, aH, aM, decide_eq_true h2]
    refine ib_intro (fun h3 => ?_) (fun h3 => ?_)
    · rw [if_pos h3]
      simp (disch := ((try simp only [List.length_set, List.length_replicate, List.length_append, List.length_cons, List.length_nil]); omega)) only [aW, aX, aV, aB, aN, aL, aP, aH, aM, r_layout_Height]
      exact post0 (Fz.refl (by simp (disch := first | omega | simp (disch := omega) only [aF, aL, aN, aM]) only [aW, aX, aV, aB, aN, aL, aP, aH, aM, aF, Int.natCast_add, Int.natCast_mul, Int.add_sub_cancel, List.length_nil, Int.cast_ofNat_Int, and_true, true_and])) ⟨rfl, rfl⟩
    rw [if_neg h3]
    have hw := layoutWay_vr (w := w) (v := v) p h m.toNat (by omega) mt (by omega) (by omega)
    rw [Int.toNat_of_nonneg (by omega)] at hw
    simp (disch := ((try simp only [List.length_set, List.length_replicate, List.length_append, List.length_cons, List.length_nil]); omega)) only [aW, aX, aV, aB, aN, aL, aP, aH, aM]
    refine hw.same (by unfold plA plC; simp (disch := first | omega | simp (disch := omega) only [aF, aL, aN, aM]) only [aW, aX, aV, aB, aN, aL, aP, aH, aM, aF, Int.natCast_add, Int.natCast_mul, Int.add_sub_cancel, List.length_nil, Int.cast_ofNat_Int, and_true, true_and]) rfl (aret_of ?_)
    unfold wayT
    simp (disch := ((try simp only [List.length_set, List.length_replicate, List.length_append, List.length_cons, List.length_nil]); omega)) only [aW, aX, aV, aB, aN, aL, aP, aH, aM]
    refine ib_split (fun h2 => ?_) (fun h2 => ?_)
    · rw [if_pos (by simpa using h2)]
      simp (disch := ((try simp only [List.length_set, List.length_replicate, List.length_append, List.length_cons, List.length_nil]); omega)) only [aW, aX, aV, aB, aN, aL, aP, aH, aM, r_layout_Height]
      exact post0 (Fz.refl (by simp (disch := first | omega | simp (disch := omega) only [aF, aL, aN, aM]) only [aW, aX, aV, aB, aN, aL, aP, aH, aM, aF, Int.natCast_add, Int.natCast_mul, Int.add_sub_cancel, List.length_nil, Int.cast_ofNat_Int, and_true, true_and])) ⟨rfl, rfl⟩
    · rw [if_neg (by simpa using h2)]
      simp (disch := ((try simp only [List.length_set, List.length_replicate, List.length_append, List.length_cons, List.length_nil]); omega)) only [aW, aX, aV, aB, aN, aL, aP, aH, aM, r_layout_Height]
      exact post0 (Fz.refl (by simp (disch := first | omega | simp (disch := omega) only [aF, aL, aN, aM]) only [aW, aX, aV, aB, aN, aL, aP, aH, aM, aF, Int.natCast_add, Int.natCast_mul, Int.add_sub_cancel, List.length_nil, Int.cast_ofNat_Int, and_true, true_and])) ⟨rfl, rfl⟩
  · rw [if_pos (by omega)]
    simp (disch := ((try simp only [List.length_set, List.length_replicate, List.length_append, List.length_cons, List.length_nil]); omega)) only [aW, aX, aV, aB, aN, aL, aP, aH, aM, decide_eq_false h2, r_layout_Height]
    exact post0 (Fz.refl (by simp (disch := first | omega | simp (disch := omega) only [aF, aL, aN, aM]) only [aW, aX, aV, aB, aN, aL, aP, aH, aM, aF, Int.natCast_add, Int.natCast_mul, Int.add_sub_cancel, List.length_nil, Int.cast_ofNat_Int, and_true, true_and])) ⟨rfl, rfl⟩

/-! ### Equal graphs -/
theorem sameGraph_vr {w v : Bool} (n k : Int) (l m : Arcs) (hl : l.length < 1000000000) : VR P false n_ref34_SameGraph [graphA w n l, graphA v k m] [] (isR (.v (.bool (decide (n = k ∧ l = m))))) := by
  refine vr_ref34_SameGraph (by simp) (.inr rfl) fun _ _ => ?_
  unfold graphA
  simp (disch := ((try simp only [List.length_set, List.length_replicate, List.length_append, List.length_cons, List.length_nil]); omega)) only [aW, aX, aV, aB, aN, aL, aP, aH, aM, s_ref34_SameGraph, v_ref34_SameGraph]
  refine ib_intro (fun h1 => ?_) (fun h1 => ?_)
  · simp (disch := ((try simp only [List.length_set, List.length_replicate, List.length_append, List.length_cons, List.length_nil]); omega)) only [aW, aX, aV, aB, aN, aL, aP, aH, aM, r_ref34_SameGraph]
    refine post_v ⟨vfalse ?_, rfl⟩
    rintro ⟨rfl, rfl⟩; omega
  have hn : n = k := by omega
  have hlen : l.length = m.length := by omega
  subst hn
  simp (disch := ((try simp only [List.length_set, List.length_replicate, List.length_append, List.length_cons, List.length_nil]); omega)) only [aW, aX, aV, aB, aN, aL, aP, aH, aM]
  refine AWP.loopP g_ref34_SameGraph_0 (fun k : Nat => k ≤ l.length ∧ ∀ i, i < k → l.getD i (0, 0) = m.getD i (0, 0)) (fun k => [(2, .v (.bool false)), (5, .v (.int .i64 k))]) (fun _ => []) (fun k => l.length - k) 0 ⟨by omega, fun i hi => by omega⟩ (by refine Cut.of' (2) ?_ (by omega) ?_ ?_ <;> simp (disch := first | omega | simp (disch := omega) only [aF, aL, aN, aM]) only [aW, aX, aV, aB, aN, aL, aP, aH, aM, aF, Int.natCast_add, Int.natCast_mul, Int.add_sub_cancel, List.length_nil, Int.cast_ofNat_Int, and_true, true_and]) ?_
  rintro k ⟨hk, hg⟩
  by_cases hlt : k < l.length
  · simp (disch := ((try simp only [List.length_set, List.length_replicate, List.length_append, List.length_cons, List.length_nil]); omega)) only [aW, aX, aV, aB, aN, aL, aP, aH, aM]
    refine ib_split (fun h3 => ?_) (fun h3 => ?_)
    · simp (disch := ((try simp only [List.length_set, List.length_replicate, List.length_append, List.length_cons, List.length_nil]); omega)) only [aW, aX, aV, aB, aN, aL, aP, aH, aM, r_ref34_SameGraph]
      refine post_v ⟨vfalse ?_, rfl⟩
      rintro ⟨_, rfl⟩
      simp at h3
    · simp (disch := ((try simp only [List.length_set, List.length_replicate, List.length_append, List.length_cons, List.length_nil]); omega)) only [aW, aX, aV, aB, aN, aL, aP, aH, aM]
      refine ⟨k + 1, ⟨by omega, fun i hi => ?_⟩, by omega, (by refine Cut.of' (2) ?_ (by omega) ?_ ?_ <;> simp (disch := first | omega | simp (disch := omega) only [aF, aL, aN, aM]) only [aW, aX, aV, aB, aN, aL, aP, aH, aM, aF, Int.natCast_add, Int.natCast_mul, Int.add_sub_cancel, List.length_nil, Int.cast_ofNat_Int, and_true, true_and])⟩
      rcases Nat.lt_succ_iff_lt_or_eq.1 hi with h | rfl
      · exact hg i h
      · simp at h3; exact Prod.ext h3.1 h3.2
  · simp (disch := ((try simp only [List.length_set, List.length_replicate, List.length_append, List.length_cons, List.length_nil]); omega)) only [aW, aX, aV, aB, aN, aL, aP, aH, aM, r_ref34_SameGraph]
    have hlm := eq_of_get (0, 0) hlen fun i hi => hg i (by omega)
    exact post_v ⟨vtrue (by first | exact ⟨rfl, hlm⟩ | exact ⟨trivial, hlm⟩ | exact hlm), rfl⟩
end Go.Proofs.Ytjhdedifmhkhbaa
