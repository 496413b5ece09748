/- GraphOrder: the law's walk. No statement is claimed here. -/
import Derived.Test.YtaiidcelopfjlaaGv
namespace Go.Proofs.Ytaiidcelopfjlaa
open Go Go.Lft
set_option linter.unusedSimpArgs false
set_option linter.unusedVariables false
attribute [local congr] ob_congr bw_congr ib_congr ck_congr iwA_congr itA_congr aw_congr awp_congr sqA_congr bkA_congr vr_congr gd_congr

theorem low_congr {p q : Nat → Bool} : ∀ {m b : Nat}, (∀ i, b ≤ i → i < b + m → p i = q i) → low p b m = low q b m
  | 0, b, h => rfl
  | m + 1, b, h => by
    unfold low
    rw [h b (Nat.le_refl _) (by omega), low_congr (m := m) (b := b + 1) fun i h1 h2 => h i (by omega) (by omega)]
theorem idx_app (ys : List Int) (x v : Int) (hx : x ∉ ys) : idxL (ys ++ [x]) v = if v = x then (ys.length : Int) else idxL ys v := by
  unfold idxL
  rw [List.length_append, List.length_singleton, low_next]
  have e : low (fun i => (ys ++ [x]).getD i 0 == v) 0 ys.length = idxL ys v := low_congr fun i _ hi => by
    simp only [Nat.zero_add] at hi
    simp only [List.getD_eq_getElem?_getD, List.getElem?_append_left hi]
  have e2 : (ys ++ [x]).getD (0 + ys.length) 0 = x := by
    rw [Nat.zero_add, List.getD_eq_getElem?_getD, List.getElem?_append_right (Nat.le_refl _), Nat.sub_self]; rfl
  rw [e]
  show (if idxL ys v < 0 then if ((ys ++ [x]).getD (0 + ys.length) 0 == v) = true then _ else -1 else idxL ys v) = if v = x then _ else idxL ys v
  rw [e2]
  by_cases hv : v = x
  · subst hv
    have hn : idxL ys v < 0 := Int.not_le.1 fun h => hx ((idxL_iff ys v).1 h)
    rw [if_pos hn, if_pos (by simp), if_pos rfl, Nat.zero_add]
  · rw [if_neg hv]
    by_cases hn : idxL ys v < 0
    · rw [if_pos hn, if_neg (by simpa using fun h => hv (Eq.symm h))]
      exact (low_m1 (p := fun i => ys.getD i 0 == v) hn).symm
    · rw [if_neg hn]
theorem idx_step (o : List Int) {i : Nat} (hi : i < o.length) (hn : o.getD i 0 ∉ o.take i) (v : Int) : idxL (o.take (i + 1)) v = if v = o.getD i 0 then (i : Int) else idxL (o.take i) v := by
  rw [take_succ_get o i 0 hi, idx_app _ _ _ hn]
  rw [show (o.take i).length = i by simp; omega]
theorem idx_le (o : List Int) (v : Int) : -1 ≤ idxL o v ∧ idxL o v < o.length := by
  unfold idxL
  rcases low_cases (fun i => o.getD i 0 == v) o.length 0 with ⟨h, _⟩ | ⟨i, h, h2, h3, _⟩ <;> omega

theorem graphOrder_vr {w : Bool} (n : Int) (l : Arcs) : VR P false n_law09_GraphOrder [graphA w n l] [] (isR (.v (.bool true))) := by
  refine vr_law09_GraphOrder (by simp) (.inr rfl) fun _ _ => ?_
  have ho := order_vr (w := w) n l
  have hc := cycle_vr (w := w) n l
  unfold graphA
  simp (disch := ((try simp only [List.length_set, List.length_replicate, List.length_append, List.length_cons, List.length_nil]); omega)) only [aW, aX, aV, aB, aN, aL, aP, aH, s_law09_GraphOrder, v_law09_GraphOrder]
  refine (large_vr (w := w) n l).same (by unfold graphA; simp (disch := first | omega | simp (disch := omega) only [aF, aL, aN]) only [aW, aX, aV, aB, aN, aL, aP, aH, aF, Int.natCast_add, Int.natCast_mul, Int.add_sub_cancel, List.length_nil, Int.cast_ofNat_Int, and_true, true_and]) rfl (aret_of ?_)
  simp (disch := ((try simp only [List.length_set, List.length_replicate, List.length_append, List.length_cons, List.length_nil]); omega)) only [aW, aX, aV, aB, aN, aL, aP, aH]
  refine ib_intro (fun h1 => ?_) (fun h1 => ?_)
  · simp (disch := ((try simp only [List.length_set, List.length_replicate, List.length_append, List.length_cons, List.length_nil]); omega)) only [aW, aX, aV, aB, aN, aL, aP, aH]
    refine awake_vr.same (by simp (disch := first | omega | simp (disch := omega) only [aF, aL, aN]) only [aW, aX, aV, aB, aN, aL, aP, aH, aF, Int.natCast_add, Int.natCast_mul, Int.add_sub_cancel, List.length_nil, Int.cast_ofNat_Int, and_true, true_and]) rfl (aret_of ?_)
    simp (disch := ((try simp only [List.length_set, List.length_replicate, List.length_append, List.length_cons, List.length_nil]); omega)) only [aW, aX, aV, aB, aN, aL, aP, aH, r_law09_GraphOrder]
    exact post_v ⟨rfl, rfl⟩
  have h600 : l.length ≤ 600 := by omega
  by_cases hg : gcheck n l = 0
  · obtain ⟨c1, c2, c3, c4⟩ := gcheck_ok hg
    have hlen := ost_len n l n.toNat
    by_cases hfu : Full n l
    · have e1 : orderR n l = (oL n l, 0) := by
        unfold orderR; rw [if_neg (by simp [hg]), if_neg (by unfold Full at hfu; omega)]
      have e2 : cycR n l = ([], 7) := by
        unfold cycR; rw [if_neg (by simp [hg]), full_none c4 hfu, if_pos (by decide)]
      have hol : (oL n l).length = n.toNat := hfu
      rw [e1] at ho
      rw [e2] at hc
      simp (disch := ((try simp only [List.length_set, List.length_replicate, List.length_append, List.length_cons, List.length_nil]); omega)) only [aW, aX, aV, aB, aN, aL, aP, aH]
      refine ho.same (by unfold graphA; simp (disch := first | omega | simp (disch := omega) only [aF, aL, aN]) only [aW, aX, aV, aB, aN, aL, aP, aH, aF, Int.natCast_add, Int.natCast_mul, Int.add_sub_cancel, List.length_nil, Int.cast_ofNat_Int, and_true, true_and]) (by simp (disch := first | omega | simp (disch := omega) only [aF, aL, aN]) only [aW, aX, aV, aB, aN, aL, aP, aH, aF, Int.natCast_add, Int.natCast_mul, Int.add_sub_cancel, List.length_nil, Int.cast_ofNat_Int, and_true, true_and]) (aret_of ?_)
      simp (disch := ((try simp only [List.length_set, List.length_replicate, List.length_append, List.length_cons, List.length_nil]); omega)) only [aW, aX, aV, aB, aN, aL, aP, aH]
      refine hc.same (by unfold graphA; simp (disch := first | omega | simp (disch := omega) only [aF, aL, aN]) only [aW, aX, aV, aB, aN, aL, aP, aH, aF, Int.natCast_add, Int.natCast_mul, Int.add_sub_cancel, List.length_nil, Int.cast_ofNat_Int, and_true, true_and]) (by simp (disch := first | omega | simp (disch := omega) only [aF, aL, aN]) only [aW, aX, aV, aB, aN, aL, aP, aH, aF, Int.natCast_add, Int.natCast_mul, Int.add_sub_cancel, List.length_nil, Int.cast_ofNat_Int, and_true, true_and]) (aret_of ?_)
      simp (disch := ((try simp only [List.length_set, List.length_replicate, List.length_append, List.length_cons, List.length_nil]); omega)) only [aW, aX, aV, aB, aN, aL, aP, aH]
      refine (check_vr (w := w) n l).same (by unfold graphA; simp (disch := first | omega | simp (disch := omega) only [aF, aL, aN]) only [aW, aX, aV, aB, aN, aL, aP, aH, aF, Int.natCast_add, Int.natCast_mul, Int.add_sub_cancel, List.length_nil, Int.cast_ofNat_Int, and_true, true_and]) rfl (aret_of ?_)
      rw [hg]
      simp (disch := ((try simp only [List.length_set, List.length_replicate, List.length_append, List.length_cons, List.length_nil]); omega)) only [aW, aX, aV, aB, aN, aL, aP, aH, ii_nil, hol]
      refine AWP.loopP g_law09_GraphOrder_0 (fun i : Nat => i ≤ n.toNat) (fun i => [(9, .v (.int .i64 i))]) (fun i => [(1, ⟨0, ints (tabI n.toNat fun v => idxL ((oL n l).take i) v + 1)⟩)]) (fun i => n.toNat - i) 0 (by omega) ?_ ?_
      · have e0 : (tabI n.toNat fun v => idxL ((oL n l).take 0) v + 1) = List.replicate n.toNat 0 := by
          rw [tabI_rep]; exact tabI_ext fun v _ => by rw [List.take_zero]; rfl
        simp (disch := ((try simp only [List.length_set, List.length_replicate, List.length_append, List.length_cons, List.length_nil]); omega)) only [aW, aX, aV, aB, aN, aL, aP, aH, e0]
        exact Cut.of' 2 rfl (by omega) (by simp (disch := first | omega | simp (disch := omega) only [aF, aL, aN]) only [aW, aX, aV, aB, aN, aL, aP, aH, aF, Int.natCast_add, Int.natCast_mul, Int.add_sub_cancel, List.length_nil, Int.cast_ofNat_Int, and_true, true_and]) (by simp (disch := first | omega | simp (disch := omega) only [aF, aL, aN]) only [aW, aX, aV, aB, aN, aL, aP, aH, aF, Int.natCast_add, Int.natCast_mul, Int.add_sub_cancel, List.length_nil, Int.cast_ofNat_Int, and_true, true_and])
      rintro i hi
      have hTl := tabI_len n.toNat fun v => idxL ((oL n l).take i) v + 1
      by_cases hil : i < n.toNat
      · have hx := full_new hfu hil
        have hm : (oL n l).getD i 0 ∈ oL n l := by simp [List.getD_eq_getElem?_getD, hol, hil]
        obtain ⟨r1, r2⟩ := ost_rng n l _ _ hm
        have hg1 := tabI_get n.toNat (fun v => idxL ((oL n l).take i) v + 1) ((oL n l).getD i 0).toNat (by omega)
        rw [Int.toNat_of_nonneg r1] at hg1
        have hm1 : idxL ((oL n l).take i) ((oL n l).getD i 0) = -1 := by
          have h1 := idx_le ((oL n l).take i) ((oL n l).getD i 0)
          have h2 : ¬ 0 ≤ idxL ((oL n l).take i) ((oL n l).getD i 0) := fun h => hx ((idxL_iff _ _).1 h)
          omega
        rw [hm1] at hg1
        have hstep := idx_step (oL n l) (by omega) hx
        have e1 : (tabI n.toNat fun v => idxL ((oL n l).take i) v + 1).set ((oL n l).getD i 0).toNat ((i : Int) + 1) = tabI n.toNat fun v => idxL ((oL n l).take (i + 1)) v + 1 := by
          rw [tabI_set _ _ _ _ (by omega)]
          refine tabI_ext fun v _ => ?_
          rw [hstep]
          by_cases hv : v = ((oL n l).getD i 0).toNat
          · have : (v : Int) = (oL n l).getD i 0 := by omega
            rw [if_pos hv, if_pos this]
          · have : ¬ (v : Int) = (oL n l).getD i 0 := by omega
            rw [if_neg hv, if_neg this]
        simp (disch := ((try simp only [List.length_set, List.length_replicate, List.length_append, List.length_cons, List.length_nil]); omega)) only [aW, aX, aV, aB, aN, aL, aP, aH, hg1, e1]
        refine ⟨i + 1, by omega, by omega, ?_⟩
        exact Cut.of' 2 rfl (by omega) (by simp (disch := first | omega | simp (disch := omega) only [aF, aL, aN]) only [aW, aX, aV, aB, aN, aL, aP, aH, aF, Int.natCast_add, Int.natCast_mul, Int.add_sub_cancel, List.length_nil, Int.cast_ofNat_Int, and_true, true_and]) (by simp (disch := first | omega | simp (disch := omega) only [aF, aL, aN]) only [aW, aX, aV, aB, aN, aL, aP, aH, aF, Int.natCast_add, Int.natCast_mul, Int.add_sub_cancel, List.length_nil, Int.cast_ofNat_Int, and_true, true_and])
      · have hie : i = n.toNat := by omega
        subst hie
        have hta : (oL n l).take n.toNat = oL n l := List.take_of_length_le (by omega)
        rw [hta] at hTl
        rw [hta]
        simp (disch := ((try simp only [List.length_set, List.length_replicate, List.length_append, List.length_cons, List.length_nil]); omega)) only [aW, aX, aV, aB, aN, aL, aP, aH]
        refine AWP.loopP g_law09_GraphOrder_1 (fun i : Nat => i ≤ l.length) (fun i => [(15, .v (.int .i64 i))]) (fun _ => []) (fun i => l.length - i) 0 (by omega) ?_ ?_
        · simp (disch := ((try simp only [List.length_set, List.length_replicate, List.length_append, List.length_cons, List.length_nil]); omega)) only [aW, aX, aV, aB, aN, aL, aP, aH]
          exact Cut.of' 2 rfl (by omega) (by simp (disch := first | omega | simp (disch := omega) only [aF, aL, aN]) only [aW, aX, aV, aB, aN, aL, aP, aH, aF, Int.natCast_add, Int.natCast_mul, Int.add_sub_cancel, List.length_nil, Int.cast_ofNat_Int, and_true, true_and]) (by simp (disch := first | omega | simp (disch := omega) only [aF, aL, aN]) only [aW, aX, aV, aB, aN, aL, aP, aH, aF, Int.natCast_add, Int.natCast_mul, Int.add_sub_cancel, List.length_nil, Int.cast_ofNat_Int, and_true, true_and])
        rintro i hi
        by_cases hil : i < l.length
        · have hmem : l.getD i (0, 0) ∈ l := by simp [List.getD_eq_getElem?_getD, hil]
          obtain ⟨⟨r1, r2⟩, r3, r4⟩ := c4 _ hmem
          obtain ⟨f1, f2⟩ := full_arc c4 hfu hmem
          have hg1 := tabI_get n.toNat (fun v => idxL (oL n l) v + 1) (l.getD i (0, 0)).1.toNat (by omega)
          have hg2 := tabI_get n.toNat (fun v => idxL (oL n l) v + 1) (l.getD i (0, 0)).2.toNat (by omega)
          rw [Int.toNat_of_nonneg r1] at hg1
          rw [Int.toNat_of_nonneg r3] at hg2
          simp (disch := ((try simp only [List.length_set, List.length_replicate, List.length_append, List.length_cons, List.length_nil]); omega)) only [aW, aX, aV, aB, aN, aL, aP, aH, hg1, hg2]
          refine ⟨i + 1, by omega, by omega, ?_⟩
          exact Cut.of' 2 rfl (by omega) (by simp (disch := first | omega | simp (disch := omega) only [aF, aL, aN]) only [aW, aX, aV, aB, aN, aL, aP, aH, aF, Int.natCast_add, Int.natCast_mul, Int.add_sub_cancel, List.length_nil, Int.cast_ofNat_Int, and_true, true_and]) (by simp (disch := first | omega | simp (disch := omega) only [aF, aL, aN]) only [aW, aX, aV, aB, aN, aL, aP, aH, aF, Int.natCast_add, Int.natCast_mul, Int.add_sub_cancel, List.length_nil, Int.cast_ofNat_Int, and_true, true_and])
        · have hie : i = l.length := by omega
          subst hie
          simp (disch := ((try simp only [List.length_set, List.length_replicate, List.length_append, List.length_cons, List.length_nil]); omega)) only [aW, aX, aV, aB, aN, aL, aP, aH]
          refine awake_vr.same (by simp (disch := first | omega | simp (disch := omega) only [aF, aL, aN]) only [aW, aX, aV, aB, aN, aL, aP, aH, aF, Int.natCast_add, Int.natCast_mul, Int.add_sub_cancel, List.length_nil, Int.cast_ofNat_Int, and_true, true_and]) rfl (aret_of ?_)
          simp (disch := ((try simp only [List.length_set, List.length_replicate, List.length_append, List.length_cons, List.length_nil]); omega)) only [aW, aX, aV, aB, aN, aL, aP, aH, r_law09_GraphOrder]
          exact post_v ⟨rfl, rfl⟩
    · have e1 : orderR n l = ([], 11) := by
        unfold orderR; rw [if_neg (by simp [hg]), if_pos (by unfold Full at hfu; omega)]
      obtain ⟨f, m, g1, g2⟩ := stuck_cyc c4 hfu
      have hcy := cyc_of c4 c2 g2
      have m1 := (cN_eq g2.eq).1
      have e2 : cycR n l = ((cst l (rQ n l f m) f (m - 1)).1, 0) := by
        unfold cycR; rw [if_neg (by simp [hg]), g1, if_neg (by simp only; omega)]; rfl
      rw [e1] at ho
      rw [e2] at hc
      simp (disch := ((try simp only [List.length_set, List.length_replicate, List.length_append, List.length_cons, List.length_nil]); omega)) only [aW, aX, aV, aB, aN, aL, aP, aH]
      refine ho.same (by unfold graphA; simp (disch := first | omega | simp (disch := omega) only [aF, aL, aN]) only [aW, aX, aV, aB, aN, aL, aP, aH, aF, Int.natCast_add, Int.natCast_mul, Int.add_sub_cancel, List.length_nil, Int.cast_ofNat_Int, and_true, true_and]) (by simp (disch := first | omega | simp (disch := omega) only [aF, aL, aN]) only [aW, aX, aV, aB, aN, aL, aP, aH, aF, Int.natCast_add, Int.natCast_mul, Int.add_sub_cancel, List.length_nil, Int.cast_ofNat_Int, and_true, true_and]) (aret_of ?_)
      simp (disch := ((try simp only [List.length_set, List.length_replicate, List.length_append, List.length_cons, List.length_nil]); omega)) only [aW, aX, aV, aB, aN, aL, aP, aH]
      refine hc.same (by unfold graphA; simp (disch := first | omega | simp (disch := omega) only [aF, aL, aN]) only [aW, aX, aV, aB, aN, aL, aP, aH, aF, Int.natCast_add, Int.natCast_mul, Int.add_sub_cancel, List.length_nil, Int.cast_ofNat_Int, and_true, true_and]) (by simp (disch := first | omega | simp (disch := omega) only [aF, aL, aN]) only [aW, aX, aV, aB, aN, aL, aP, aH, aF, Int.natCast_add, Int.natCast_mul, Int.add_sub_cancel, List.length_nil, Int.cast_ofNat_Int, and_true, true_and]) (aret_of ?_)
      simp (disch := ((try simp only [List.length_set, List.length_replicate, List.length_append, List.length_cons, List.length_nil]); omega)) only [aW, aX, aV, aB, aN, aL, aP, aH]
      refine (check_vr (w := w) n l).same (by unfold graphA; simp (disch := first | omega | simp (disch := omega) only [aF, aL, aN]) only [aW, aX, aV, aB, aN, aL, aP, aH, aF, Int.natCast_add, Int.natCast_mul, Int.add_sub_cancel, List.length_nil, Int.cast_ofNat_Int, and_true, true_and]) rfl (aret_of ?_)
      rw [hg]
      simp (disch := ((try simp only [List.length_set, List.length_replicate, List.length_append, List.length_cons, List.length_nil]); omega)) only [aW, aX, aV, aB, aN, aL, aP, aH]
      refine (cyc_vr (w := w) (u := true) n l h600 _ hcy).same (by unfold graphA; simp (disch := first | omega | simp (disch := omega) only [aF, aL, aN]) only [aW, aX, aV, aB, aN, aL, aP, aH, aF, Int.natCast_add, Int.natCast_mul, Int.add_sub_cancel, List.length_nil, Int.cast_ofNat_Int, and_true, true_and]) rfl (aret_of ?_)
      simp (disch := ((try simp only [List.length_set, List.length_replicate, List.length_append, List.length_cons, List.length_nil]); omega)) only [aW, aX, aV, aB, aN, aL, aP, aH]
      refine awake_vr.same (by simp (disch := first | omega | simp (disch := omega) only [aF, aL, aN]) only [aW, aX, aV, aB, aN, aL, aP, aH, aF, Int.natCast_add, Int.natCast_mul, Int.add_sub_cancel, List.length_nil, Int.cast_ofNat_Int, and_true, true_and]) rfl (aret_of ?_)
      simp (disch := ((try simp only [List.length_set, List.length_replicate, List.length_append, List.length_cons, List.length_nil]); omega)) only [aW, aX, aV, aB, aN, aL, aP, aH, r_law09_GraphOrder]
      exact post_v ⟨rfl, rfl⟩
  · have e1 : orderR n l = ([], gcheck n l) := by unfold orderR; rw [if_pos hg]
    have e2 : cycR n l = ([], gcheck n l) := by unfold cycR; rw [if_pos hg]
    rw [e1] at ho
    rw [e2] at hc
    simp (disch := ((try simp only [List.length_set, List.length_replicate, List.length_append, List.length_cons, List.length_nil]); omega)) only [aW, aX, aV, aB, aN, aL, aP, aH]
    refine ho.same (by unfold graphA; simp (disch := first | omega | simp (disch := omega) only [aF, aL, aN]) only [aW, aX, aV, aB, aN, aL, aP, aH, aF, Int.natCast_add, Int.natCast_mul, Int.add_sub_cancel, List.length_nil, Int.cast_ofNat_Int, and_true, true_and]) (by simp (disch := first | omega | simp (disch := omega) only [aF, aL, aN]) only [aW, aX, aV, aB, aN, aL, aP, aH, aF, Int.natCast_add, Int.natCast_mul, Int.add_sub_cancel, List.length_nil, Int.cast_ofNat_Int, and_true, true_and]) (aret_of ?_)
    simp (disch := ((try simp only [List.length_set, List.length_replicate, List.length_append, List.length_cons, List.length_nil]); omega)) only [aW, aX, aV, aB, aN, aL, aP, aH]
    refine hc.same (by unfold graphA; simp (disch := first | omega | simp (disch := omega) only [aF, aL, aN]) only [aW, aX, aV, aB, aN, aL, aP, aH, aF, Int.natCast_add, Int.natCast_mul, Int.add_sub_cancel, List.length_nil, Int.cast_ofNat_Int, and_true, true_and]) (by simp (disch := first | omega | simp (disch := omega) only [aF, aL, aN]) only [aW, aX, aV, aB, aN, aL, aP, aH, aF, Int.natCast_add, Int.natCast_mul, Int.add_sub_cancel, List.length_nil, Int.cast_ofNat_Int, and_true, true_and]) (aret_of ?_)
    simp (disch := ((try simp only [List.length_set, List.length_replicate, List.length_append, List.length_cons, List.length_nil]); omega)) only [aW, aX, aV, aB, aN, aL, aP, aH]
    refine (check_vr (w := w) n l).same (by unfold graphA; simp (disch := first | omega | simp (disch := omega) only [aF, aL, aN]) only [aW, aX, aV, aB, aN, aL, aP, aH, aF, Int.natCast_add, Int.natCast_mul, Int.add_sub_cancel, List.length_nil, Int.cast_ofNat_Int, and_true, true_and]) rfl (aret_of ?_)
    simp (disch := ((try simp only [List.length_set, List.length_replicate, List.length_append, List.length_cons, List.length_nil]); omega)) only [aW, aX, aV, aB, aN, aL, aP, aH]
    refine awake_vr.same (by simp (disch := first | omega | simp (disch := omega) only [aF, aL, aN]) only [aW, aX, aV, aB, aN, aL, aP, aH, aF, Int.natCast_add, Int.natCast_mul, Int.add_sub_cancel, List.length_nil, Int.cast_ofNat_Int, and_true, true_and]) rfl (aret_of ?_)
    simp (disch := ((try simp only [List.length_set, List.length_replicate, List.length_append, List.length_cons, List.length_nil]); omega)) only [aW, aX, aV, aB, aN, aL, aP, aH, r_law09_GraphOrder]
    exact post_v ⟨rfl, rfl⟩
end Go.Proofs.Ytaiidcelopfjlaa
