/- GraphOrder: the walk. No statement is claimed here. -/
import Derived.Test.YtaiidcelopfjlaaGu
namespace Go.Proofs.Ytaiidcelopfjlaa
open Go Go.Lft
set_option linter.unusedSimpArgs false
set_option linter.unusedVariables false
attribute [local congr] ob_congr bw_congr ib_congr ck_congr iwA_congr itA_congr aw_congr awp_congr sqA_congr bkA_congr vr_congr gd_congr

theorem arc_vr {w : Bool} (n : Int) (l : Arcs) (hl : l.length ≤ 600) (x y : Int) (h : (x, y) ∈ l) : VR P false n_law09_arc [graphA w n l, .v (.int .i64 x), .v (.int .i64 y)] [] (isR (.v (.bool true))) := by
  refine vr_law09_arc (by simp) (.inr rfl) fun _ _ => ?_
  unfold graphA
  simp (disch := ((try simp only [List.length_set, List.length_replicate, List.length_append, List.length_cons, List.length_nil]); omega)) only [aW, aX, aV, aB, aN, aL, aP, aH, s_law09_arc, v_law09_arc]
  refine AWP.loopP g_law09_arc_0 (fun i : Nat => i ≤ l.length ∧ ∀ j, j < i → l.getD j (0, 0) ≠ (x, y)) (fun i => [(3, .v (.bool false)), (5, .v (.int .i64 i))]) (fun _ => []) (fun i => l.length - i) 0 (by simp) ?_ ?_
  · simp (disch := ((try simp only [List.length_set, List.length_replicate, List.length_append, List.length_cons, List.length_nil]); omega)) only [aW, aX, aV, aB, aN, aL, aP, aH]
    exact Cut.of' 1 rfl (by omega) (by simp (disch := first | omega | simp (disch := omega) only [aF, aL, aN]) only [aW, aX, aV, aB, aN, aL, aP, aH, aF, Int.natCast_add, Int.natCast_mul, Int.add_sub_cancel, List.length_nil, Int.cast_ofNat_Int, and_true, true_and]) (by simp (disch := first | omega | simp (disch := omega) only [aF, aL, aN]) only [aW, aX, aV, aB, aN, aL, aP, aH, aF, Int.natCast_add, Int.natCast_mul, Int.add_sub_cancel, List.length_nil, Int.cast_ofNat_Int, and_true, true_and])
  rintro i ⟨hi, hno⟩
  have hil : i < l.length := by
    apply Nat.lt_of_not_le; intro hc
    obtain ⟨k, hk, he⟩ := List.mem_iff_getElem.1 h
    refine hno k (by omega) ?_
    rw [List.getD_eq_getElem?_getD, List.getElem?_eq_getElem hk, he]; rfl
  by_cases h1 : (l.getD i (0, 0)).1 = x
  · by_cases h2 : (l.getD i (0, 0)).2 = y
    · simp (disch := ((try simp only [List.length_set, List.length_replicate, List.length_append, List.length_cons, List.length_nil]); omega)) only [aW, aX, aV, aB, aN, aL, aP, aH, r_law09_arc]
      exact post_v ⟨rfl, rfl⟩
    · simp (disch := ((try simp only [List.length_set, List.length_replicate, List.length_append, List.length_cons, List.length_nil]); omega)) only [aW, aX, aV, aB, aN, aL, aP, aH]
      refine ⟨i + 1, ⟨by omega, fun j hj => ?_⟩, by omega, ?_⟩
      · by_cases hji : j = i
        · subst hji; intro hc; rw [hc] at h2; exact h2 rfl
        · exact hno j (by omega)
      · exact Cut.of' 1 rfl (by omega) (by simp (disch := first | omega | simp (disch := omega) only [aF, aL, aN]) only [aW, aX, aV, aB, aN, aL, aP, aH, aF, Int.natCast_add, Int.natCast_mul, Int.add_sub_cancel, List.length_nil, Int.cast_ofNat_Int, and_true, true_and]) (by simp (disch := first | omega | simp (disch := omega) only [aF, aL, aN]) only [aW, aX, aV, aB, aN, aL, aP, aH, aF, Int.natCast_add, Int.natCast_mul, Int.add_sub_cancel, List.length_nil, Int.cast_ofNat_Int, and_true, true_and])
  · simp (disch := ((try simp only [List.length_set, List.length_replicate, List.length_append, List.length_cons, List.length_nil]); omega)) only [aW, aX, aV, aB, aN, aL, aP, aH]
    refine ⟨i + 1, ⟨by omega, fun j hj => ?_⟩, by omega, ?_⟩
    · by_cases hji : j = i
      · subst hji; intro hc; rw [hc] at h1; exact h1 rfl
      · exact hno j (by omega)
    · exact Cut.of' 1 rfl (by omega) (by simp (disch := first | omega | simp (disch := omega) only [aF, aL, aN]) only [aW, aX, aV, aB, aN, aL, aP, aH, aF, Int.natCast_add, Int.natCast_mul, Int.add_sub_cancel, List.length_nil, Int.cast_ofNat_Int, and_true, true_and]) (by simp (disch := first | omega | simp (disch := omega) only [aF, aL, aN]) only [aW, aX, aV, aB, aN, aL, aP, aH, aF, Int.natCast_add, Int.natCast_mul, Int.add_sub_cancel, List.length_nil, Int.cast_ofNat_Int, and_true, true_and])

/-- What the law asks of a cycle. -/
structure Cyc (l : Arcs) (c : List Int) : Prop where
  pos : 0 < c.length
  le : c.length ≤ 64
  arc : ∀ i, i < c.length → (c.getD i 0, c.getD ((i + 1) % c.length) 0) ∈ l
  ge : ∀ i, i < c.length → c.getD 0 0 ≤ c.getD i 0
  nd : ∀ i j, j < i → i < c.length → c.getD i 0 ≠ c.getD j 0
theorem cst_get (l : Arcs) (q : Nat → Int → Bool) (s : Int) : ∀ {j i : Nat}, i ≤ j → (cst l q s j).1.getD i 0 = (cst l q s i).2
  | 0, i, h => by
    have : i = 0 := by omega
    subst this; rfl
  | j + 1, i, h => by
    by_cases hij : i = j + 1
    · subst hij; exact cst_last l q s (j + 1)
    · rw [← cst_get l q s (j := j) (i := i) (by omega)]
      have := cst_len l q s j
      simp only [cst]
      rw [List.getD_eq_getElem?_getD, List.getElem?_append_left (by omega), ← List.getD_eq_getElem?_getD]
theorem cyc_of {n : Int} {l : Arcs} (hr : inR n l) (hn : n ≤ 64) {f m : Nat} (hf : Fst n l n.toNat f m) : Cyc l (cst l (rQ n l f m) f (m - 1)).1 := by
  obtain ⟨c1, c2, c3, c4⟩ := cN_eq hf.eq
  have hfk := hf.fk
  have hlen : (cst l (rQ n l f m) f (m - 1)).1.length = m := by rw [cst_len]; omega
  have hget : ∀ i, i < m → (cst l (rQ n l f m) f (m - 1)).1.getD i 0 = (cst l (rQ n l f m) f i).2 := fun i hi => cst_get _ _ _ (by omega)
  have hway : ∀ i, i < m → Way l f m i (cst l (rQ n l f m) f i).2 := fun i hi => (cst_same hr hn hf i hi).2
  refine ⟨by omega, by omega, fun i hi => ?_, fun i hi => ?_, fun i j hj hi => ?_⟩
  · rw [hlen] at hi ⊢
    by_cases hi1 : i + 1 < m
    · rw [Nat.mod_eq_of_lt hi1, hget i hi, hget (i + 1) hi1]
      obtain ⟨a, g1, g2, g3, _⟩ := cst_step hr hf hi1 (hway i hi)
      have : (cst l (rQ n l f m) f (i + 1)).2 = a.2 := by simp only [cst]; exact g3
      rw [this, ← g2]; exact g1
    · have : i + 1 = m := by omega
      rw [this, Nat.mod_self, hget i hi, hget 0 (by omega)]
      have hb := (hway i hi).back
      rw [show m - i = 0 + 1 by omega] at hb
      obtain ⟨a, g1, g2, g3⟩ := wk_succ.1 hb
      have g4 : a.2 = (f : Int) := by simpa [wk] using g3
      rw [← g2]
      have : (cst l (rQ n l f m) f 0).2 = a.2 := by rw [g4]; rfl
      rw [this]; exact g1
  · rw [hlen] at hi
    rw [hget i hi, hget 0 (by omega)]
    show (f : Int) ≤ _
    have hw := hway i hi
    have hx := wk_in hr (t := (f : Int)) ⟨by omega, by omega⟩ hw.back
    have hcl := wk_app hw.back hw.to
    rw [show m - i + i = m by omega] at hcl
    obtain ⟨p1, p2⟩ := cN_of (n := n) hcl c1 c2
    apply Int.not_lt.1; intro hlt
    have hvn : (((cst l (rQ n l f m) f i).2.toNat : Nat) : Int) = (cst l (rQ n l f m) f i).2 := by omega
    have := hf.first (cst l (rQ n l f m) f i).2.toNat (by omega)
    rw [hvn] at this
    omega
  · rw [hlen] at hi
    rw [hget i hi, hget j (by omega)]
    intro he
    have h1 := (hway i hi).back
    have h2 := (hway j (by omega)).to
    rw [he] at h1
    have h3 := wk_app h2 h1
    rw [c4 _ (by omega) (by omega)] at h3; cases h3
theorem cyc_vr {w u : Bool} (n : Int) (l : Arcs) (hl : l.length ≤ 600) (c : List Int) (h : Cyc l c) : VR P false n_law09_cycle [graphA w n l, .fs u (ints c)] [] (isR (.v (.bool true))) := by
  refine vr_law09_cycle (by simp) (.inr rfl) fun _ _ => ?_
  have hpos := h.pos
  have hle := h.le
  unfold graphA
  simp (disch := ((try simp only [List.length_set, List.length_replicate, List.length_append, List.length_cons, List.length_nil]); omega)) only [aW, aX, aV, aB, aN, aL, aP, aH, s_law09_cycle, v_law09_cycle]
  refine AWP.loopP g_law09_cycle_0 (fun i : Nat => i ≤ c.length) (fun i => [(2, .v (.bool false)), (3, .v (.int .i64 i))]) (fun _ => []) (fun i => c.length - i) 0 (by omega) ?_ ?_
  · simp (disch := ((try simp only [List.length_set, List.length_replicate, List.length_append, List.length_cons, List.length_nil]); omega)) only [aW, aX, aV, aB, aN, aL, aP, aH]
    exact Cut.of' 1 rfl (by omega) (by simp (disch := first | omega | simp (disch := omega) only [aF, aL, aN]) only [aW, aX, aV, aB, aN, aL, aP, aH, aF, Int.natCast_add, Int.natCast_mul, Int.add_sub_cancel, List.length_nil, Int.cast_ofNat_Int, and_true, true_and]) (by simp (disch := first | omega | simp (disch := omega) only [aF, aL, aN]) only [aW, aX, aV, aB, aN, aL, aP, aH, aF, Int.natCast_add, Int.natCast_mul, Int.add_sub_cancel, List.length_nil, Int.cast_ofNat_Int, and_true, true_and])
  rintro i hi
  by_cases hil : i < c.length
  · have hm : ((i : Int) + 1) % (c.length : Int) = ((i + 1) % c.length : Nat) := by simp
    have hm2 : (i + 1) % c.length < c.length := Nat.mod_lt _ hpos
    have hge := h.ge i hil
    simp (disch := ((try simp only [List.length_set, List.length_replicate, List.length_append, List.length_cons, List.length_nil]); omega)) only [aW, aX, aV, aB, aN, aL, aP, aH, hm]
    refine (arc_vr (w := w) n l hl _ _ (h.arc i hil)).same (by unfold graphA; simp (disch := first | omega | simp (disch := omega) only [aF, aL, aN]) only [aW, aX, aV, aB, aN, aL, aP, aH, aF, Int.natCast_add, Int.natCast_mul, Int.add_sub_cancel, List.length_nil, Int.cast_ofNat_Int, and_true, true_and]) rfl (aret_of ?_)
    simp (disch := ((try simp only [List.length_set, List.length_replicate, List.length_append, List.length_cons, List.length_nil]); omega)) only [aW, aX, aV, aB, aN, aL, aP, aH]
    have htl : (c.take i).length = i := by simp; omega
    refine AWP.loopP g_law09_cycle_1 (fun j : Nat => j ≤ i) (fun j => [(2, .v (.bool false)), (10, .v (.int .i64 j))]) (fun _ => []) (fun j => i - j) 0 (by omega) ?_ ?_
    · try simp (disch := ((try simp only [List.length_set, List.length_replicate, List.length_append, List.length_cons, List.length_nil]); omega)) only [aW, aX, aV, aB, aN, aL, aP, aH]
      exact Cut.of' 1 rfl (by omega) (by simp (disch := first | omega | simp (disch := omega) only [aF, aL, aN]) only [aW, aX, aV, aB, aN, aL, aP, aH, aF, Int.natCast_add, Int.natCast_mul, Int.add_sub_cancel, List.length_nil, Int.cast_ofNat_Int, and_true, true_and]) (by simp (disch := first | omega | simp (disch := omega) only [aF, aL, aN]) only [aW, aX, aV, aB, aN, aL, aP, aH, aF, Int.natCast_add, Int.natCast_mul, Int.add_sub_cancel, List.length_nil, Int.cast_ofNat_Int, and_true, true_and])
    rintro j hj
    by_cases hji : j < i
    · have hne := h.nd i j hji hil
      have hg : (c.take i).getD j 0 = c.getD j 0 := by simp [List.getD_eq_getElem?_getD, List.getElem?_take, hji]
      simp (disch := ((try simp only [List.length_set, List.length_replicate, List.length_append, List.length_cons, List.length_nil]); omega)) only [aW, aX, aV, aB, aN, aL, aP, aH, hg]
      refine ⟨j + 1, by omega, by omega, ?_⟩
      exact Cut.of' 1 rfl (by omega) (by simp (disch := first | omega | simp (disch := omega) only [aF, aL, aN]) only [aW, aX, aV, aB, aN, aL, aP, aH, aF, Int.natCast_add, Int.natCast_mul, Int.add_sub_cancel, List.length_nil, Int.cast_ofNat_Int, and_true, true_and]) (by simp (disch := first | omega | simp (disch := omega) only [aF, aL, aN]) only [aW, aX, aV, aB, aN, aL, aP, aH, aF, Int.natCast_add, Int.natCast_mul, Int.add_sub_cancel, List.length_nil, Int.cast_ofNat_Int, and_true, true_and])
    · have hje : j = i := by omega
      subst hje
      simp (disch := ((try simp only [List.length_set, List.length_replicate, List.length_append, List.length_cons, List.length_nil]); omega)) only [aW, aX, aV, aB, aN, aL, aP, aH]
      refine ⟨j + 1, by omega, by omega, ?_⟩
      exact Cut.of' 1 rfl (by omega) (by simp (disch := first | omega | simp (disch := omega) only [aF, aL, aN]) only [aW, aX, aV, aB, aN, aL, aP, aH, aF, Int.natCast_add, Int.natCast_mul, Int.add_sub_cancel, List.length_nil, Int.cast_ofNat_Int, and_true, true_and]) (by simp (disch := first | omega | simp (disch := omega) only [aF, aL, aN]) only [aW, aX, aV, aB, aN, aL, aP, aH, aF, Int.natCast_add, Int.natCast_mul, Int.add_sub_cancel, List.length_nil, Int.cast_ofNat_Int, and_true, true_and])
  · have hie : i = c.length := by omega
    subst hie
    simp (disch := ((try simp only [List.length_set, List.length_replicate, List.length_append, List.length_cons, List.length_nil]); omega)) only [aW, aX, aV, aB, aN, aL, aP, aH, r_law09_cycle]
    exact post_v ⟨by simp; omega, rfl⟩
end Go.Proofs.Ytaiidcelopfjlaa
