/- Lemmas and walks that the proof of ControlRuns uses. No statement is claimed here. -/
import Derived.Test.YtfnghkmchlfooaaControlRunsZam
namespace Go.Proofs.Ytfnghkmchlfooaa
open Go Go.Lft
set_option linter.unusedSimpArgs false
set_option linter.unusedVariables false

def Cn.no (c : Cn) (x : Int) : Nat := (ofN c.G c.G.length x).toNat
/-- Group i may come next. -/
def freeP (c : Cn) (T : Nat → Bool) (i : Nat) : Prop := T i = false ∧ ∀ a ∈ c.l, c.no a.1 = i → c.no a.2 = i ∨ T (c.no a.2) = true
instance (c : Cn) (T : Nat → Bool) : DecidablePred (freeP c T) := fun i => by unfold freeP; infer_instance
def nextG (c : Cn) (T : Nat → Bool) : Int := idxE (freeP c T) (List.range c.G.length)
theorem range_get {n k : Nat} (h : k < n) : (List.range n).getD k 0 = k := by simp [List.getD_eq_getElem?_getD, h]
theorem next_hit {c : Cn} {T : Nat → Bool} {k : Nat} (hk : k < c.G.length) (hb : ∀ i, i < k → ¬ freeP c T i) (hp : freeP c T k) : nextG c T = k :=
  idxE_hit (p := freeP c T) 0 (by simpa using hk) (fun i hi => by rw [range_get (by omega)]; exact hb i hi) (by rw [range_get hk]; exact hp)
theorem next_none {c : Cn} {T : Nat → Bool} (hb : ∀ i, i < c.G.length → ¬ freeP c T i) : nextG c T = -1 :=
  idxE_none (p := freeP c T) 0 fun i hi => by
    simp only [List.length_range] at hi
    rw [range_get hi]; exact hb i hi
theorem next_lt (c : Cn) (T : Nat → Bool) : -1 ≤ nextG c T ∧ nextG c T < c.G.length := by
  have := idxE_ge (freeP c T) (List.range c.G.length)
  rw [List.length_range] at this; exact this
theorem next_at {c : Cn} {T : Nat → Bool} (h : 0 ≤ nextG c T) : freeP c T (nextG c T).toNat := by
  have h1 := idxE_at (p := freeP c T) 0 h
  have h2 := next_lt c T
  have h3 : (idxE (freeP c T) (List.range c.G.length)).toNat = (nextG c T).toNat := rfl
  rw [h3, range_get (by omega)] at h1; exact h1
theorem next_neg {c : Cn} {T : Nat → Bool} (h : nextG c T < 0) {i : Nat} (hi : i < c.G.length) : ¬ freeP c T i := idxE_neg (p := freeP c T) h i (by simpa using hi)
/-- The groups that are taken after k rounds, and their order. -/
def ordS (c : Cn) : Nat → (Nat → Bool) × List Nat
  | 0 => (fun _ => false, [])
  | k + 1 => (fun j => (ordS c k).1 j || j == (nextG c (ordS c k).1).toNat, (ordS c k).2 ++ [(nextG c (ordS c k).1).toNat])
section
variable {c : Cn} (ok : CnOk c)
include ok
theorem no_lt {x : Int} (h0 : 0 ≤ x) (h1 : x < c.n) : c.no x < c.G.length ∧ x ∈ c.G.getD (c.no x) [] ∧ (c.no x : Int) = ofN c.G c.G.length x := by
  obtain ⟨g1, g2, g3⟩ := ofN_mem ok.gp h0 h1
  exact ⟨by unfold Cn.no; omega, g3, by unfold Cn.no; omega⟩
theorem no_at {k : Nat} (hk : k < c.G.length) {x : Int} (hx : x ∈ c.G.getD k []) : c.no x = k := by
  unfold Cn.no; rw [ofN_at ok.gp hk hx, Int.toNat_natCast]
theorem head_mem {k : Nat} (hk : k < c.G.length) : (c.G.getD k []).getD 0 0 ∈ c.G.getD k [] := mem_get 0 (List.length_pos_iff.2 (ok.gp.ne k hk))
/-- Two nodes of one group reach the same. -/
theorem same_path {k : Nat} (hk : k < c.G.length) {x y : Int} (hx : x ∈ c.G.getD k []) (hy : y ∈ c.G.getD k []) : Path c.l x y := by
  have h1 := ok.gp.rng k hk x hx
  have h2 := ok.gp.rng k hk y hy
  have h3 := (ok.gp.same k hk x hx y h2.1 h2.2).1 hy
  have := (both_iff ok.r (v := x.toNat) (k := y.toNat) (by omega) (by omega)).1 h3
  rw [Int.toNat_of_nonneg h1.1, Int.toNat_of_nonneg h2.1] at this
  exact this.1
theorem path_same {k : Nat} (hk : k < c.G.length) {x y : Int} (hx : x ∈ c.G.getD k []) (h0 : 0 ≤ y) (h1 : y < c.n) (p : Path c.l x y) (q : Path c.l y x) : y ∈ c.G.getD k [] := by
  have h2 := ok.gp.rng k hk x hx
  refine (ok.gp.same k hk x hx y h0 h1).2 ((both_iff ok.r (v := x.toNat) (k := y.toNat) (by omega) (by omega)).2 ?_)
  rw [Int.toNat_of_nonneg h2.1, Int.toNat_of_nonneg h0]; exact ⟨p, q⟩
def rcN (c : Cn) (i : Nat) : Nat := (reachL c.n c.l ((c.G.getD i []).getD 0 0)).count true
/-- As long as one group is not taken, one may come next. -/
theorem free_some {T : Nat → Bool} : ∀ (N i : Nat), i < c.G.length → T i = false → rcN c i ≤ N → ∃ j, j < c.G.length ∧ freeP c T j
  | N, i, hi, hT, hN => by
    by_cases hf : freeP c T i
    · exact ⟨i, hi, hf⟩
    have : ∃ a ∈ c.l, c.no a.1 = i ∧ c.no a.2 ≠ i ∧ T (c.no a.2) = false := by
      apply Classical.byContradiction; intro hc
      refine hf ⟨hT, fun a ha h1 => ?_⟩
      by_cases h2 : c.no a.2 = i
      · exact .inl h2
      · refine .inr ?_
        cases h3 : T (c.no a.2) with
        | true => rfl
        | false => exact absurd ⟨a, ha, h1, h2, h3⟩ hc
    obtain ⟨a, ha, h1, h2, h3⟩ := this
    obtain ⟨⟨b1, b2⟩, b3, b4⟩ := ok.r a ha
    obtain ⟨e1, e2, _⟩ := no_lt ok b1 b2
    obtain ⟨f1, f2, _⟩ := no_lt ok b3 b4
    have m1 := head_mem ok hi
    have m2 := head_mem ok f1
    rw [h1] at e2
    have r1 := ok.gp.rng i hi _ m1
    have r2 := ok.gp.rng _ f1 _ m2
    have pij : Path c.l ((c.G.getD i []).getD 0 0) ((c.G.getD (c.no a.2) []).getD 0 0) :=
      ((same_path ok hi m1 e2).snoc ha).trans (same_path ok f1 f2 m2)
    have hcl := count_le (S := reachL c.n c.l ((c.G.getD (c.no a.2) []).getD 0 0)) (S' := reachL c.n c.l ((c.G.getD i []).getD 0 0)) (by rw [reachL_len, reachL_len]) (fun k hk => by
      have hk' : vis (reachL c.n c.l ((c.G.getD (c.no a.2) []).getD 0 0)) (k : Int) := by unfold vis; rw [Int.toNat_natCast]; exact hk
      have hp := (reachL_iff ok.r r2.1 r2.2 (w := (k : Int)) (by omega)).1 hk'
      have := (reachL_iff ok.r r1.1 r1.2 (w := (k : Int)) (by omega)).2 (pij.trans hp)
      unfold vis at this; rw [Int.toNat_natCast] at this; exact this)
    have hlt : rcN c (c.no a.2) < rcN c i := by
      unfold rcN
      rcases Nat.lt_or_eq_of_le hcl.1 with h | h
      · exact h
      · have he := hcl.2 h
        have hv := (reachL_iff ok.r r1.1 r1.2 (w := (c.G.getD i []).getD 0 0) r1.1).2 (.refl _)
        rw [← he] at hv
        have hp := (reachL_iff ok.r r2.1 r2.2 r1.1).1 hv
        exact absurd (no_at ok hi (path_same ok hi m1 r2.1 r2.2 pij hp)) (fun h => h2 (by rw [no_at ok f1 m2] at h; exact h))
    exact free_some (T := T) (N - 1) (c.no a.2) f1 h3 (by omega)
  termination_by N => N
  decreasing_by omega
def cntT (N : Nat) (T : Nat → Bool) : Nat := ((List.range N).filter T).length
omit ok in
theorem cnt_all {N : Nat} {T : Nat → Bool} (h : cntT N T = N) : ∀ i, i < N → T i = true := by
  intro i hi
  have h1 : (List.range N).filter T = List.range N := by
    refine List.filter_eq_self.2 ?_
    have h2 := (List.filter_sublist (p := T) (l := List.range N)).eq_of_length (by rw [List.length_range]; exact h)
    rw [← h2]
    intro a ha; exact (List.mem_filter.1 ha).2
  have : i ∈ (List.range N).filter T := by rw [h1]; simpa using hi
  exact (List.mem_filter.1 this).2
omit ok in
theorem cnt_some {N : Nat} {T : Nat → Bool} (h : cntT N T < N) : ∃ i, i < N ∧ T i = false := by
  apply Classical.byContradiction; intro hc
  have : (List.range N).filter T = List.range N := List.filter_eq_self.2 fun a ha => by
    cases h2 : T a with
    | true => rfl
    | false => exact absurd ⟨a, by simpa using ha, h2⟩ hc
  unfold cntT at h
  rw [this, List.length_range] at h; omega
omit ok in
theorem cnt_add {T : Nat → Bool} {i : Nat} (hT : T i = false) : ∀ N, cntT N (fun j => T j || j == i) = if i < N then cntT N T + 1 else cntT N T
  | 0 => by simp [cntT]
  | N + 1 => by
    have ih := cnt_add hT N
    unfold cntT at ih ⊢
    rw [List.range_succ, List.filter_append, List.filter_append, List.length_append, List.length_append, ih]
    by_cases h1 : i < N
    · rw [if_pos h1, if_pos (by omega)]
      have : (N == i) = false := by simp; omega
      simp only [List.filter_cons, List.filter_nil, this, Bool.or_false]; omega
    · rw [if_neg h1]
      by_cases h2 : N = i
      · subst h2
        rw [if_pos (by omega)]
        simp [hT]
      · rw [if_neg (by omega)]
        have : (N == i) = false := by simp; omega
        simp only [List.filter_cons, List.filter_nil, this, Bool.or_false]
theorem ord_cnt : ∀ k, k ≤ c.G.length → cntT c.G.length (ordS c k).1 = k ∧ (ordS c k).2.length = k
  | 0, _ => by constructor <;> simp [cntT, ordS]
  | k + 1, hk => by
    obtain ⟨h1, h2⟩ := ord_cnt k (by omega)
    obtain ⟨i, hi, hT⟩ := cnt_some (T := (ordS c k).1) (N := c.G.length) (by omega)
    obtain ⟨j, hj, hf⟩ := free_some ok (T := (ordS c k).1) _ i hi hT (Nat.le_refl _)
    have hn : 0 ≤ nextG c (ordS c k).1 := by
      apply Classical.byContradiction; intro hc
      exact next_neg (by omega) hj hf
    have ha := next_at hn
    have hl := next_lt c (ordS c k).1
    refine ⟨?_, by simp [ordS, h2]⟩
    simp only [ordS]
    rw [cnt_add ha.1, if_pos (by omega), h1]
theorem ord_next {k : Nat} (hk : k < c.G.length) : 0 ≤ nextG c (ordS c k).1 := by
  obtain ⟨i, hi, hT⟩ := cnt_some (T := (ordS c k).1) (N := c.G.length) (by rw [(ord_cnt ok k (by omega)).1]; exact hk)
  obtain ⟨j, hj, hf⟩ := free_some ok (T := (ordS c k).1) _ i hi hT (Nat.le_refl _)
  apply Classical.byContradiction; intro hc
  exact next_neg (by omega) hj hf
theorem ord_end : nextG c (ordS c c.G.length).1 = -1 := next_none fun i hi hf => by
  have := cnt_all (ord_cnt ok _ (Nat.le_refl _)).1 i hi
  rw [hf.1] at this; cases this
end
def ordL (c : Cn) (k : Nat) : List (List Int) := (ordS c k).2.map fun i => c.G.getD i []
theorem ordL_succ (c : Cn) (k : Nat) : ordL c (k + 1) = ordL c k ++ [c.G.getD (nextG c (ordS c k).1).toNat []] := by simp [ordL, ordS]
theorem ordL_len {c : Cn} (ok : CnOk c) {k : Nat} (hk : k ≤ c.G.length) : (ordL c k).length = k := by unfold ordL; rw [List.length_map, (ord_cnt ok k hk).2]
end Go.Proofs.Ytfnghkmchlfooaa
namespace Go.Proofs.Ytfnghkmchlfooaa
open Go Go.Lft
set_option linter.unusedSimpArgs false
set_option linter.unusedVariables false
attribute [local congr] ob_congr bw_congr ib_congr ck_congr iwA_congr itA_congr aw_congr awp_congr sqA_congr bkA_congr vr_congr gd_congr

theorem no_get {c : Cn} (ok : CnOk c) {x : Int} (h0 : 0 ≤ x) (h1 : x < c.n) : c.of.getD x.toNat 0 = (c.no x : Int) := by
  rw [of_get h0 h1, (no_lt ok h0 h1).2.2]
/-- What the closure sees. -/
def ordC (c : Cn) (T : Nat → Bool) : List A := [.fp false [.fs true (rows true c.G)], .fp false [.fs false (bools (tab c.G.length T))], .fp false [.v (.int .i64 c.n), .fs true (pairs c.l)], .fp false [.fs true (ints c.of)]]
theorem order1_vr {c : Cn} (ok : CnOk c) (T : Nat → Bool) : VR P false n_control_Order_1 (ordC c T) [] (isR (.v (.int .i64 (nextG c T)))) := by
  refine vr_control_Order_1 (by simp [ordC]) (.inr rfl) fun _ _ => ?_
  have g1 := ok.G1
  have l1 := ok.l1
  have n1 := ok.n1
  have tl := tab_len c.G.length T
  have ol := c.of_len
  unfold ordC
  simp (disch := ((try simp only [List.length_set, List.length_replicate, List.length_append, List.length_cons, List.length_nil]); omega)) only [aW, aX, aV, aB, aN, aL, aP, aH, aM, s_control_Order_1, v_control_Order_1]
  refine AWP.loopP g_control_Order_1_0 (fun k : Nat => k ≤ c.G.length ∧ ∀ i, i < k → ¬ freeP c T i) (fun k => [(4, .v (.int .i64 0)), (5, .v (.int .i64 k))]) (fun _ => []) (fun k => c.G.length - k) 0 ⟨by omega, fun i hi => by omega⟩ ?_ ?_
  · exact Cut.of' 0 rfl (by omega) (by simp (disch := first | omega | simp (disch := omega) only [aF, aL, aN, aM]) only [aW, aX, aV, aB, aN, aL, aP, aH, aM, aF, Int.natCast_add, Int.natCast_mul, Int.add_sub_cancel, List.length_nil, Int.cast_ofNat_Int, and_true, true_and]) (by simp (disch := first | omega | simp (disch := omega) only [aF, aL, aN, aM]) only [aW, aX, aV, aB, aN, aL, aP, aH, aM, aF, Int.natCast_add, Int.natCast_mul, Int.add_sub_cancel, List.length_nil, Int.cast_ofNat_Int, and_true, true_and])
  rintro k ⟨hk, hb⟩
  by_cases hlt : k < c.G.length
  · have tg := tab_get c.G.length T k hlt
    simp (disch := ((try simp only [List.length_set, List.length_replicate, List.length_append, List.length_cons, List.length_nil]); omega)) only [aW, aX, aV, aB, aN, aL, aP, aH, aM, tg]
    refine AWP.loopP (α := Nat) g_control_Order_1_1 (fun q => q ≤ c.l.length) (fun q => [(9, .v (.bool (!T k && (c.l.take q).all fun a => decide (c.no a.1 = k → c.no a.2 = k ∨ T (c.no a.2) = true)))), (10, .v (.int .i64 q))]) (fun _ => []) (fun q => c.l.length - q) 0 (by omega) ?_ ?_
    · simp only [List.take_zero, List.all_nil, Bool.and_true]
      exact Cut.of' 0 rfl (by omega) (by simp (disch := first | omega | simp (disch := omega) only [aF, aL, aN, aM]) only [aW, aX, aV, aB, aN, aL, aP, aH, aM, aF, Int.natCast_add, Int.natCast_mul, Int.add_sub_cancel, List.length_nil, Int.cast_ofNat_Int, and_true, true_and]) (by simp (disch := first | omega | simp (disch := omega) only [aF, aL, aN, aM]) only [aW, aX, aV, aB, aN, aL, aP, aH, aM, aF, Int.natCast_add, Int.natCast_mul, Int.add_sub_cancel, List.length_nil, Int.cast_ofNat_Int, and_true, true_and])
    rintro q hq
    by_cases hql : q < c.l.length
    · obtain ⟨⟨a1, a2⟩, a3, a4⟩ := ok.r _ (mem_get (0, 0) hql)
      have o1 := no_get ok a1 a2
      have o2 := no_get ok a3 a4
      obtain ⟨e1, _, _⟩ := no_lt ok a3 a4
      have tg2 := tab_get c.G.length T _ e1
      have hts := take_succ_get' c.l q (0, 0) hql
      have e : ((!T k && (c.l.take q).all fun a => decide (c.no a.1 = k → c.no a.2 = k ∨ T (c.no a.2) = true)) && (decide ((c.no (c.l.getD q (0, 0)).1 : Int) ≠ k ∨ (c.no (c.l.getD q (0, 0)).2 : Int) = k) || T (c.no (c.l.getD q (0, 0)).2))) = (!T k && (c.l.take (q + 1)).all fun a => decide (c.no a.1 = k → c.no a.2 = k ∨ T (c.no a.2) = true)) := by
        rw [hts, List.all_append, Bool.and_assoc]
        congr 2
        simp only [List.all_cons, List.all_nil, Bool.and_true]
        cases hT : T (c.no (c.l.getD q (0, 0)).2) with
        | true => simp
        | false =>
          simp only [Bool.or_false]
          refine decide_eq_decide.2 ?_
          simp only [Bool.false_eq_true, or_false]
          omega
      simp (disch := ((try simp only [List.length_set, List.length_replicate, List.length_append, List.length_cons, List.length_nil]); omega)) only [aW, aX, aV, aB, aN, aL, aP, aH, aM, o1, o2, tg2, Int.toNat_natCast]
      rw [e]
      refine ⟨q + 1, by omega, by omega, ?_⟩
      exact Cut.of' 0 rfl (by omega) (by simp (disch := first | omega | simp (disch := omega) only [aF, aL, aN, aM]) only [aW, aX, aV, aB, aN, aL, aP, aH, aM, aF, Int.natCast_add, Int.natCast_mul, Int.add_sub_cancel, List.length_nil, Int.cast_ofNat_Int, and_true, true_and]) (by simp (disch := first | omega | simp (disch := omega) only [aF, aL, aN, aM]) only [aW, aX, aV, aB, aN, aL, aP, aH, aM, aF, Int.natCast_add, Int.natCast_mul, Int.add_sub_cancel, List.length_nil, Int.cast_ofNat_Int, and_true, true_and])
    · have hqe : q = c.l.length := by omega
      subst hqe
      rw [List.take_length]
      have e : (!T k && c.l.all fun a => decide (c.no a.1 = k → c.no a.2 = k ∨ T (c.no a.2) = true)) = decide (freeP c T k) := by
        rw [Bool.eq_iff_iff]
        simp only [Bool.and_eq_true, Bool.not_eq_true', List.all_eq_true, decide_eq_true_eq]
        exact Iff.rfl
      rw [e]
      by_cases hf : freeP c T k
      · rw [next_hit hlt hb hf, decide_eq_true hf]
        simp (disch := ((try simp only [List.length_set, List.length_replicate, List.length_append, List.length_cons, List.length_nil]); omega)) only [aW, aX, aV, aB, aN, aL, aP, aH, aM, r_control_Order_1]
        exact post_v ⟨rfl, rfl⟩
      · rw [decide_eq_false hf]
        simp (disch := ((try simp only [List.length_set, List.length_replicate, List.length_append, List.length_cons, List.length_nil]); omega)) only [aW, aX, aV, aB, aN, aL, aP, aH, aM]
        refine ⟨k + 1, ⟨by omega, fun i hi => ?_⟩, by omega, ?_⟩
        · rcases Nat.lt_succ_iff_lt_or_eq.1 hi with h | rfl
          · exact hb i h
          · exact hf
        · exact Cut.of' 0 rfl (by omega) (by simp (disch := first | omega | simp (disch := omega) only [aF, aL, aN, aM]) only [aW, aX, aV, aB, aN, aL, aP, aH, aM, aF, Int.natCast_add, Int.natCast_mul, Int.add_sub_cancel, List.length_nil, Int.cast_ofNat_Int, and_true, true_and]) (by simp (disch := first | omega | simp (disch := omega) only [aF, aL, aN, aM]) only [aW, aX, aV, aB, aN, aL, aP, aH, aM, aF, Int.natCast_add, Int.natCast_mul, Int.add_sub_cancel, List.length_nil, Int.cast_ofNat_Int, and_true, true_and])
  · have hke : k = c.G.length := by omega
    subst hke
    rw [next_none hb]
    simp (disch := ((try simp only [List.length_set, List.length_replicate, List.length_append, List.length_cons, List.length_nil]); omega)) only [aW, aX, aV, aB, aN, aL, aP, aH, aM, r_control_Order_1]
    exact post_v ⟨rfl, rfl⟩

def ordT (x : List (List Int) × Int) : A := .tup [.fs true (rows true x.1), .v (.int .i64 x.2)]
theorem tab_setB (N : Nat) (D : Nat → Bool) (k : Nat) (h : k < N) : (tab N D).set k true = tab N fun j => D j || j == k := tab_set N D k h
theorem controlOrder_ok {w v : Bool} {p : Pl} (h : pcheck p = 0) : VR P false n_control_Order [plA w v p] [] (isR (ordT (ordL (cnP p) (cnP p).G.length, 0))) := by
  refine vr_control_Order (by simp) (.inr rfl) fun _ _ => ?_
  have hv := controlGroups_ok (w := w) (v := v) h
  have ok := cn_ok h
  have n1 := ok.n1
  have g1 := ok.G1
  unfold ordT
  unfold plA plC at hv ⊢
  generalize cnP p = c at *
  have hord := fun T => order1_vr ok T
  unfold ordC at hord
  simp (disch := ((try simp only [List.length_set, List.length_replicate, List.length_append, List.length_cons, List.length_nil]); omega)) only [aW, aX, aV, aB, aN, aL, aP, aH, aM, s_control_Order, v_control_Order]
  refine hv.same (by simp (disch := first | omega | simp (disch := omega) only [aF, aL, aN, aM]) only [aW, aX, aV, aB, aN, aL, aP, aH, aM, aF, Int.natCast_add, Int.natCast_mul, Int.add_sub_cancel, List.length_nil, Int.cast_ofNat_Int, and_true, true_and]) (by simp (disch := first | omega | simp (disch := omega) only [aF, aL, aN, aM]) only [aW, aX, aV, aB, aN, aL, aP, aH, aM, aF, Int.natCast_add, Int.natCast_mul, Int.add_sub_cancel, List.length_nil, Int.cast_ofNat_Int, and_true, true_and]) (aret_of ?_)
  simp (disch := ((try simp only [List.length_set, List.length_replicate, List.length_append, List.length_cons, List.length_nil]); omega)) only [aW, aX, aV, aB, aN, aL, aP, aH, aM, Int.toNat_natCast]
  rw [tab_rep]
  have T0 : (fun _ : Nat => false) = (ordS c 0).1 := rfl
  rw [T0]
  refine ⟨by kernel_rfl, ?_⟩
  refine (hord (ordS c 0).1).use ⟨Ld.lp (o := 0) rfl (LdL.refl (by simp (disch := first | omega | simp (disch := omega) only [aF, aL, aN, aM]) only [aW, aX, aV, aB, aN, aL, aP, aH, aM, aF, Int.natCast_add, Int.natCast_mul, Int.add_sub_cancel, List.length_nil, Int.cast_ofNat_Int, and_true, true_and])) (by simp), Ld.lp (o := 0) (r := [.fs false (bools (tab c.G.length (ordS c 0).1))]) rfl ⟨ld_slB _ 4 0 _ _ (tab_len _ _).symm rfl, trivial⟩ (by simp), Ld.lp (o := 0) rfl (LdL.refl (by simp (disch := first | omega | simp (disch := omega) only [aF, aL, aN, aM]) only [aW, aX, aV, aB, aN, aL, aP, aH, aM, aF, Int.natCast_add, Int.natCast_mul, Int.add_sub_cancel, List.length_nil, Int.cast_ofNat_Int, and_true, true_and])) (by simp), Ld.lp (o := 0) rfl (LdL.refl (by simp (disch := first | omega | simp (disch := omega) only [aF, aL, aN, aM]) only [aW, aX, aV, aB, aN, aL, aP, aH, aM, aF, Int.natCast_add, Int.natCast_mul, Int.add_sub_cancel, List.length_nil, Int.cast_ofNat_Int, and_true, true_and])) (by simp), trivial⟩ rfl (aret_of ?_)
  simp (disch := ((try simp only [List.length_set, List.length_replicate, List.length_append, List.length_cons, List.length_nil]); omega)) only [aW, aX, aV, aB, aN, aL, aP, aH, aM]
  refine AWP.cut (Cut.virt 10 1 rfl) ?_
  refine AWP.loopP (α := Nat × Nat) g_control_Order_0 (fun q => q.1 ≤ c.G.length) (fun q => [(10, .vs 6 q.2 1 q.1), (11, .v (.int .i64 (nextG c (ordS c q.1).1)))]) (fun q => [(4, ⟨0, bools (tab c.G.length (ordS c q.1).1)⟩), (6, ⟨q.2, rows true (ordL c q.1)⟩)]) (fun q => c.G.length - q.1) (0, 0) (by simp) ?_ ?_
  · have e0 : rows true (ordL c 0) = [] := rfl
    simp (disch := ((try simp only [List.length_set, List.length_replicate, List.length_append, List.length_cons, List.length_nil]); omega)) only [aW, aX, aV, aB, aN, aL, aP, aH, aM, e0]
    exact Cut.of' 7 rfl (by omega) (by simp (disch := first | omega | simp (disch := omega) only [aF, aL, aN, aM]) only [aW, aX, aV, aB, aN, aL, aP, aH, aM, aF, Int.natCast_add, Int.natCast_mul, Int.add_sub_cancel, List.length_nil, Int.cast_ofNat_Int, and_true, true_and]) (by simp (disch := first | omega | simp (disch := omega) only [aF, aL, aN, aM]) only [aW, aX, aV, aB, aN, aL, aP, aH, aM, aF, Int.natCast_add, Int.natCast_mul, Int.add_sub_cancel, List.length_nil, Int.cast_ofNat_Int, and_true, true_and])
  rintro ⟨k, ver⟩ hk
  simp only at hk
  have ll := ordL_len ok hk
  have tl := tab_len c.G.length (ordS c k).1
  have nl := next_lt c (ordS c k).1
  by_cases hlt : k < c.G.length
  · have hn := ord_next ok hlt
    have e1 := ordL_succ c k
    have e2 : (tab c.G.length (ordS c k).1).set (nextG c (ordS c k).1).toNat true = tab c.G.length (ordS c (k + 1)).1 := tab_setB _ _ _ (by omega)
    have e3 : (rows true (ordL c k)).take k = rows true (ordL c k) := List.take_of_length_le (by rw [r_len]; omega)
    have ho := hord (ordS c (k + 1)).1
    simp (disch := ((try simp only [List.length_set, List.length_replicate, List.length_append, List.length_cons, List.length_nil]); omega)) only [aW, aX, aV, aB, aN, aL, aP, aH, aM, e2, e3, ← e1]
    refine ⟨by kernel_rfl, ?_⟩
    refine ho.use ⟨Ld.lp (o := 0) rfl (LdL.refl (by simp (disch := first | omega | simp (disch := omega) only [aF, aL, aN, aM]) only [aW, aX, aV, aB, aN, aL, aP, aH, aM, aF, Int.natCast_add, Int.natCast_mul, Int.add_sub_cancel, List.length_nil, Int.cast_ofNat_Int, and_true, true_and])) (by simp), Ld.lp (o := 0) (r := [.fs false (bools (tab c.G.length (ordS c (k + 1)).1))]) rfl ⟨ld_slB _ 4 0 _ _ (tab_len _ _).symm rfl, trivial⟩ (by simp), Ld.lp (o := 0) rfl (LdL.refl (by simp (disch := first | omega | simp (disch := omega) only [aF, aL, aN, aM]) only [aW, aX, aV, aB, aN, aL, aP, aH, aM, aF, Int.natCast_add, Int.natCast_mul, Int.add_sub_cancel, List.length_nil, Int.cast_ofNat_Int, and_true, true_and])) (by simp), Ld.lp (o := 0) rfl (LdL.refl (by simp (disch := first | omega | simp (disch := omega) only [aF, aL, aN, aM]) only [aW, aX, aV, aB, aN, aL, aP, aH, aM, aF, Int.natCast_add, Int.natCast_mul, Int.add_sub_cancel, List.length_nil, Int.cast_ofNat_Int, and_true, true_and])) (by simp), trivial⟩ rfl (aret_of ?_)
    simp (disch := ((try simp only [List.length_set, List.length_replicate, List.length_append, List.length_cons, List.length_nil]); omega)) only [aW, aX, aV, aB, aN, aL, aP, aH, aM]
    refine ⟨(k + 1, ver + 1), by simp only; omega, by simp only; omega, ?_⟩
    simp only
    exact Cut.of' 7 rfl (by omega) (by simp (disch := first | omega | simp (disch := omega) only [aF, aL, aN, aM]) only [aW, aX, aV, aB, aN, aL, aP, aH, aM, aF, Int.natCast_add, Int.natCast_mul, Int.add_sub_cancel, List.length_nil, Int.cast_ofNat_Int, and_true, true_and]) (by simp (disch := first | omega | simp (disch := omega) only [aF, aL, aN, aM]) only [aW, aX, aV, aB, aN, aL, aP, aH, aM, aF, Int.natCast_add, Int.natCast_mul, Int.add_sub_cancel, List.length_nil, Int.cast_ofNat_Int, and_true, true_and])
  · have hke : k = c.G.length := by omega
    subst hke
    rw [ord_end ok]
    simp (disch := ((try simp only [List.length_set, List.length_replicate, List.length_append, List.length_cons, List.length_nil]); omega)) only [aW, aX, aV, aB, aN, aL, aP, aH, aM, r_control_Order]
    exact post0 (r := .tup [.fs true (rows true (ordL c c.G.length)), .v (.int .i64 0)]) (Fz.tup ⟨fz_vsR 0 _ 6 ver _ _ (by omega) ll.symm (by simp [blkAt]), Fz.refl rfl, trivial⟩) ⟨rfl, rfl⟩

end Go.Proofs.Ytfnghkmchlfooaa
namespace Go.Proofs.Ytfnghkmchlfooaa
open Go Go.Lft
set_option linter.unusedSimpArgs false
set_option linter.unusedVariables false

section
variable {c : Cn} (ok : CnOk c)
include ok
end

/-! ### Clearing all jams, and starting all -/
section
variable {c : Cn} (ok : CnOk c)
include ok
end
end Go.Proofs.Ytfnghkmchlfooaa
namespace Go.Proofs.Ytfnghkmchlfooaa
open Go Go.Lft
set_option linter.unusedSimpArgs false
set_option linter.unusedVariables false

def tyPlant : Ty := (.st [(.int .i64), (.sl (.st [(.sl (.sl (.int .i64)))])), (.sl (.st [(.int .i64), (.int .i64), (.int .i64), (.int .i64)])), (.int .i64)])
theorem tyPlant_is : tyPlant.Is Try.prog 25 := by
  unfold tyPlant
  simp only [Ty.Is]
  refine ⟨_, Try.underlying25, by kernel_rfl, ?_⟩
  simp only [Ty.IsL, Ty.Is]
  refine ⟨by first | rfl | trivial, by kernel_rfl, ?_, ?_⟩
  ·
    exact Try.underlying3
  refine ⟨by first | rfl | trivial, by kernel_rfl, ?_, ?_⟩
  ·
    refine ⟨68, Try.underlying22, by kernel_rfl, by decide, ?_⟩
    refine ⟨_, Try.underlying68, by kernel_rfl, ?_⟩
    simp only [Ty.IsL, Ty.Is]
    refine ⟨by first | rfl | trivial, by kernel_rfl, ?_, ?_⟩
    ·
      refine ⟨44, Try.underlying28, by kernel_rfl, by decide, ?_⟩
      refine ⟨3, Try.underlying44, by kernel_rfl, by decide, ?_⟩
      exact Try.underlying3
    trivial
  refine ⟨by first | rfl | trivial, by kernel_rfl, ?_, ?_⟩
  ·
    refine ⟨57, Try.underlying23, by kernel_rfl, by decide, ?_⟩
    refine ⟨_, Try.underlying57, by kernel_rfl, ?_⟩
    simp only [Ty.IsL, Ty.Is]
    refine ⟨by first | rfl | trivial, by kernel_rfl, ?_, ?_⟩
    ·
      exact Try.underlying3
    refine ⟨by first | rfl | trivial, by kernel_rfl, ?_, ?_⟩
    ·
      exact Try.underlying3
    refine ⟨by first | rfl | trivial, by kernel_rfl, ?_, ?_⟩
    ·
      exact Try.underlying3
    refine ⟨by first | rfl | trivial, by kernel_rfl, ?_, ?_⟩
    ·
      exact Try.underlying3
    trivial
  refine ⟨by first | rfl | trivial, by kernel_rfl, ?_, ?_⟩
  ·
    exact Try.underlying3
  trivial
def tyInt : Ty := (.int .i64)
theorem tyInt_is : tyInt.Is Try.prog 3 := by
  unfold tyInt
  simp only [Ty.Is]
  exact Try.underlying3
theorem list_of {α : Type} {w : Bool} (t : Ty) (f : α → A) (Q : α → Prop) (h1 : ∀ ce, t.Sh w ce → ∃ x, t.pk ce = f x ∧ Q x) : ∀ (L : List (List A)), (∀ ce ∈ L, t.Sh w ce) → ∃ l : List α, L.map t.pk = l.map f ∧ L.length = l.length ∧ ∀ x ∈ l, Q x
  | [], _ => ⟨[], rfl, rfl, by simp⟩
  | ce :: L, h => by
    obtain ⟨l, hl, hn, hq⟩ := list_of t f Q h1 L fun x hx => h x (by simp [hx])
    obtain ⟨x, hx, hqx⟩ := h1 ce (h ce (by simp))
    exact ⟨x :: l, by rw [List.map_cons, hl, hx]; rfl, by simp [hn], fun y hy => by
      rcases List.mem_cons.1 hy with rfl | hy
      · exact hqx
      · exact hq y hy⟩
theorem i64_of {w : Bool} {ce : List A} (h : (Ty.int .i64).Sh w ce) : ∃ n : Int, (Ty.int .i64).pk ce = .v (.int .i64 n) ∧ (Lit.int .i64 n).wf = true := by
  simp only [Ty.Sh] at h
  obtain ⟨n, rfl, h⟩ := h; exact ⟨n, rfl, h⟩
theorem wf_i64 {n : Int} (h : (Lit.int .i64 n).wf = true) : -9223372036854775808 ≤ n ∧ n ≤ 9223372036854775807 := by
  simp only [Lit.wf, Bool.and_eq_true, decide_eq_true_eq] at h
  have h1 : IntKind.i64.max = 9223372036854775807 := rfl
  have h2 : IntKind.i64.min = -9223372036854775808 := rfl
  omega
/-- A row of numbers; all are numbers of the kind. -/
def fit (n : Int) : Prop := -9223372036854775808 ≤ n ∧ n ≤ 9223372036854775807
theorem ints_of {w : Bool} {ce : List A} (h : (Ty.sl (.int .i64)).Sh w ce) : ∃ l : List Int, (Ty.sl (.int .i64)).pk ce = .fs w (ints l) ∧ l.length ≤ maxLen ∧ ∀ x ∈ l, fit x := by
  simp only [Ty.Sh] at h
  obtain ⟨L, rfl, hn, h⟩ := h
  obtain ⟨l, h1, h2, h3⟩ := list_of (w := w) (.int .i64) (fun n => A.v (.int .i64 n)) fit (fun ce hce => by
    obtain ⟨n, e1, e2⟩ := i64_of hce; exact ⟨n, e1, wf_i64 e2⟩) L (fun ce hce => by simp only [Ty.Sh]; exact h ce hce)
  exact ⟨l, by show A.fs w _ = _; rw [h1]; rfl, by omega, h3⟩
theorem rows_of {w : Bool} {ce : List A} (h : (Ty.sl (.sl (.int .i64))).Sh w ce) : ∃ l : List (List Int), (Ty.sl (.sl (.int .i64))).pk ce = .fs w (rows w l) ∧ l.length ≤ maxLen ∧ ∀ r ∈ l, r.length ≤ maxLen ∧ ∀ x ∈ r, fit x := by
  simp only [Ty.Sh] at h
  obtain ⟨L, rfl, hn, h⟩ := h
  obtain ⟨l, h1, h2, h3⟩ := list_of (w := w) (.sl (.int .i64)) (fun r => A.fs w (ints r)) (fun r => r.length ≤ maxLen ∧ ∀ x ∈ r, fit x) (fun ce hce => ints_of hce) L (fun ce hce => by simp only [Ty.Sh]; exact h ce hce)
  exact ⟨l, by show A.fs w _ = _; rw [h1]; rfl, by omega, h3⟩
theorem mc_of {w : Bool} {ce : List A} (h : (Ty.st [.sl (.sl (.int .i64))]).Sh w ce) : ∃ m : Mc, (Ty.st [.sl (.sl (.int .i64))]).pk ce = mcA w m ∧ m.length ≤ maxLen ∧ ∀ r ∈ m, r.length ≤ maxLen ∧ ∀ x ∈ r, fit x := by
  simp only [Ty.Sh, Ty.ShL] at h
  obtain ⟨a, b, rfl, h, rfl⟩ := h
  obtain ⟨m, h1, h2, h3⟩ := rows_of (w := w) (ce := a) (by simp only [Ty.Sh]; exact h)
  obtain ⟨L, rfl, _⟩ := h
  exact ⟨m, by rw [show (Ty.sl (.sl (.int .i64))).pk [A.fs w (L.map (Ty.sl (.int .i64)).pk)] = .fs w (L.map (Ty.sl (.int .i64)).pk) from rfl] at h1; show A.agg _ = _; rw [List.append_nil, h1]; rfl, h2, h3⟩
theorem bt_of {w : Bool} {ce : List A} (h : (Ty.st [.int .i64, .int .i64, .int .i64, .int .i64]).Sh w ce) : ∃ b : Bt, (Ty.st [.int .i64, .int .i64, .int .i64, .int .i64]).pk ce = btA b ∧ True := by
  simp only [Ty.Sh, Ty.ShL] at h
  obtain ⟨_, _, rfl, ⟨x, rfl, _⟩, _, _, rfl, ⟨y, rfl, _⟩, _, _, rfl, ⟨z, rfl, _⟩, _, _, rfl, ⟨u, rfl, _⟩, rfl⟩ := h
  exact ⟨⟨x, y, z, u⟩, rfl, trivial⟩
theorem plant_of {cl : List A} (h : tyPlant.Sh true cl) : ∃ p, tyPlant.pk cl = plA true true p := by
  unfold tyPlant at h ⊢
  simp only [Ty.Sh, Ty.ShL] at h
  obtain ⟨_, _, rfl, ⟨x, rfl, _⟩, _, _, rfl, ⟨L, rfl, _, hL⟩, _, _, rfl, ⟨M, rfl, _, hM⟩, _, _, rfl, ⟨y, rfl, _⟩, rfl⟩ := h
  obtain ⟨ms, h1, _⟩ := list_of (w := true) (.st [.sl (.sl (.int .i64))]) (mcA true) (fun _ => True) (fun ce hce => by
    obtain ⟨m, e, _⟩ := mc_of hce; exact ⟨m, e, trivial⟩) L (fun ce hce => by simp only [Ty.Sh, Ty.ShL]; exact hL ce hce)
  obtain ⟨bs, h2, _⟩ := list_of (w := true) (.st [.int .i64, .int .i64, .int .i64, .int .i64]) btA (fun _ => True) (fun ce hce => bt_of hce) M (fun ce hce => by simp only [Ty.Sh, Ty.ShL]; exact hM ce hce)
  exact ⟨⟨x, ms, bs, y⟩, by rw [h1, h2]; rfl⟩
theorem int_of {cl : List A} (h : tyInt.Sh true cl) : ∃ n, tyInt.pk cl = .v (.int .i64 n) ∧ fit n := by
  obtain ⟨n, h1, h2⟩ := i64_of (w := true) h; exact ⟨n, h1, wf_i64 h2⟩
end Go.Proofs.Ytfnghkmchlfooaa
namespace Go.Proofs.Ytfnghkmchlfooaa
open Go Go.Lft
set_option linter.unusedSimpArgs false
set_option linter.unusedVariables false

def tyAct : Ty := (.st [(.int .i64), (.int .i64)])
def tyActs : Ty := (.sl (.st [(.int .i64), (.int .i64)]))
theorem tyActs_is : tyActs.Is Try.prog 33 := by
  unfold tyActs
  simp only [Ty.Is]
  refine ⟨41, Try.underlying33, by kernel_rfl, by decide, ?_⟩
  refine ⟨_, Try.underlying41, by kernel_rfl, ?_⟩
  simp only [Ty.IsL, Ty.Is]
  refine ⟨by first | rfl | trivial, by kernel_rfl, ?_, ?_⟩
  ·
    exact Try.underlying3
  refine ⟨by first | rfl | trivial, by kernel_rfl, ?_, ?_⟩
  ·
    exact Try.underlying3
  trivial
theorem act_of {es : List A} (h : tyAct.Sh true es) : ∃ a : Int × Int, tyAct.pk es = pairA a := by
  unfold tyAct at h ⊢
  simp only [Ty.Sh, Ty.ShL] at h
  obtain ⟨_, _, rfl, ⟨y, rfl, hy⟩, _, _, rfl, ⟨z, rfl, hz⟩, rfl⟩ := h
  exact ⟨(y, z), rfl⟩
theorem acts_of {es : List A} (h : tyActs.Sh true es) : ∃ l : List (Int × Int), tyActs.pk es = .fs true (pairs l) := by
  unfold tyActs at h ⊢
  simp only [Ty.Sh] at h
  obtain ⟨L, rfl, hn, h⟩ := h
  obtain ⟨l, h1, h2, h3⟩ := list_of (w := true) tyAct pairA (fun _ => True) (fun ce hce => by
    obtain ⟨a, e⟩ := act_of hce; exact ⟨a, e, trivial⟩) L (fun ce hce => by unfold tyAct; simp only [Ty.Sh]; exact h ce hce)
  exact ⟨l, by show A.fs true _ = _; unfold tyAct at h1; rw [h1]; rfl⟩
end Go.Proofs.Ytfnghkmchlfooaa
namespace Go.Proofs.Ytfnghkmchlfooaa
open Go Go.Lft
set_option linter.unusedSimpArgs false
set_option linter.unusedVariables false
attribute [local congr] ob_congr bw_congr ib_congr ck_congr iwA_congr itA_congr aw_congr awp_congr sqA_congr bkA_congr vr_congr gd_congr

theorem large36_vr {w v : Bool} (p : Pl) : VR P false n_ref36_Large [plA w v p] [] (fun r G => G = [] ∧ ∃ b : Bool, r = .v (.bool b)) := by
  refine vr_ref36_Large (by simp) (.inr rfl) fun _ _ => ?_
  unfold plA plC
  simp (disch := ((try simp only [List.length_set, List.length_replicate, List.length_append, List.length_cons, List.length_nil]); omega)) only [aW, aX, aV, aB, aN, aL, aP, aH, aM, s_ref36_Large, v_ref36_Large]
  refine ib_intro (fun h1 => ?_) (fun h1 => ?_)
  · simp (disch := ((try simp only [List.length_set, List.length_replicate, List.length_append, List.length_cons, List.length_nil]); omega)) only [aW, aX, aV, aB, aN, aL, aP, aH, aM, r_ref36_Large]
    exact post_v ⟨rfl, _, rfl⟩
  simp (disch := ((try simp only [List.length_set, List.length_replicate, List.length_append, List.length_cons, List.length_nil]); omega)) only [aW, aX, aV, aB, aN, aL, aP, aH, aM]
  refine AWP.loopP g_ref36_Large_0 (fun k : Nat => k ≤ p.ms.length) (fun k => [(1, .v (.bool false)), (3, .v (.int .i64 k))]) (fun _ => []) (fun k => p.ms.length - k) 0 (by omega) ?_ ?_
  · exact Cut.of' 1 rfl (by omega) (by simp (disch := first | omega | simp (disch := omega) only [aF, aL, aN, aM]) only [aW, aX, aV, aB, aN, aL, aP, aH, aM, aF, Int.natCast_add, Int.natCast_mul, Int.add_sub_cancel, List.length_nil, Int.cast_ofNat_Int, and_true, true_and]) (by simp (disch := first | omega | simp (disch := omega) only [aF, aL, aN, aM]) only [aW, aX, aV, aB, aN, aL, aP, aH, aM, aF, Int.natCast_add, Int.natCast_mul, Int.add_sub_cancel, List.length_nil, Int.cast_ofNat_Int, and_true, true_and])
  rintro k hk
  by_cases hlt : k < p.ms.length
  · simp (disch := ((try simp only [List.length_set, List.length_replicate, List.length_append, List.length_cons, List.length_nil]); omega)) only [aW, aX, aV, aB, aN, aL, aP, aH, aM]
    refine ib_intro (fun h2 => ?_) (fun h2 => ?_)
    · simp (disch := ((try simp only [List.length_set, List.length_replicate, List.length_append, List.length_cons, List.length_nil]); omega)) only [aW, aX, aV, aB, aN, aL, aP, aH, aM, r_ref36_Large]
      exact post_v ⟨rfl, _, rfl⟩
    simp (disch := ((try simp only [List.length_set, List.length_replicate, List.length_append, List.length_cons, List.length_nil]); omega)) only [aW, aX, aV, aB, aN, aL, aP, aH, aM]
    refine AWP.loopP g_ref36_Large_1 (fun j : Nat => j ≤ (p.ms.getD k []).length) (fun j => [(1, .v (.bool false)), (8, .v (.int .i64 j))]) (fun _ => []) (fun j => (p.ms.getD k []).length - j) 0 (by omega) ?_ ?_
    · exact Cut.of' 2 rfl (by omega) (by simp (disch := first | omega | simp (disch := omega) only [aF, aL, aN, aM]) only [aW, aX, aV, aB, aN, aL, aP, aH, aM, aF, Int.natCast_add, Int.natCast_mul, Int.add_sub_cancel, List.length_nil, Int.cast_ofNat_Int, and_true, true_and]) (by simp (disch := first | omega | simp (disch := omega) only [aF, aL, aN, aM]) only [aW, aX, aV, aB, aN, aL, aP, aH, aM, aF, Int.natCast_add, Int.natCast_mul, Int.add_sub_cancel, List.length_nil, Int.cast_ofNat_Int, and_true, true_and])
    rintro j hj
    by_cases hjl : j < (p.ms.getD k []).length
    · simp (disch := ((try simp only [List.length_set, List.length_replicate, List.length_append, List.length_cons, List.length_nil]); omega)) only [aW, aX, aV, aB, aN, aL, aP, aH, aM]
      refine ib_intro (fun h3 => ?_) (fun h3 => ?_)
      · simp (disch := ((try simp only [List.length_set, List.length_replicate, List.length_append, List.length_cons, List.length_nil]); omega)) only [aW, aX, aV, aB, aN, aL, aP, aH, aM, r_ref36_Large]
        exact post_v ⟨rfl, _, rfl⟩
      · simp (disch := ((try simp only [List.length_set, List.length_replicate, List.length_append, List.length_cons, List.length_nil]); omega)) only [aW, aX, aV, aB, aN, aL, aP, aH, aM]
        refine ⟨j + 1, by omega, by omega, ?_⟩
        exact Cut.of' 2 rfl (by omega) (by simp (disch := first | omega | simp (disch := omega) only [aF, aL, aN, aM]) only [aW, aX, aV, aB, aN, aL, aP, aH, aM, aF, Int.natCast_add, Int.natCast_mul, Int.add_sub_cancel, List.length_nil, Int.cast_ofNat_Int, and_true, true_and]) (by simp (disch := first | omega | simp (disch := omega) only [aF, aL, aN, aM]) only [aW, aX, aV, aB, aN, aL, aP, aH, aM, aF, Int.natCast_add, Int.natCast_mul, Int.add_sub_cancel, List.length_nil, Int.cast_ofNat_Int, and_true, true_and])
    · simp (disch := ((try simp only [List.length_set, List.length_replicate, List.length_append, List.length_cons, List.length_nil]); omega)) only [aW, aX, aV, aB, aN, aL, aP, aH, aM]
      refine ⟨k + 1, by omega, by omega, ?_⟩
      exact Cut.of' 1 rfl (by omega) (by simp (disch := first | omega | simp (disch := omega) only [aF, aL, aN, aM]) only [aW, aX, aV, aB, aN, aL, aP, aH, aM, aF, Int.natCast_add, Int.natCast_mul, Int.add_sub_cancel, List.length_nil, Int.cast_ofNat_Int, and_true, true_and]) (by simp (disch := first | omega | simp (disch := omega) only [aF, aL, aN, aM]) only [aW, aX, aV, aB, aN, aL, aP, aH, aM, aF, Int.natCast_add, Int.natCast_mul, Int.add_sub_cancel, List.length_nil, Int.cast_ofNat_Int, and_true, true_and])
  · simp (disch := ((try simp only [List.length_set, List.length_replicate, List.length_append, List.length_cons, List.length_nil]); omega)) only [aW, aX, aV, aB, aN, aL, aP, aH, aM, r_ref36_Large]
    exact post_v ⟨rfl, _, rfl⟩
theorem large36_c (r : A) (G : List Blk) (h : G = [] ∧ ∃ b : Bool, r = .v (.bool b)) : G = [] ∧ (r.cl && r.bd 0) = true := by
  obtain ⟨h1, b, rfl⟩ := h; exact ⟨h1, rfl⟩

def exC : Pl := ⟨1, [[[600, 400]], [[600, 400]], [[]], [[]]], [⟨0, 0, 1, 1⟩, ⟨0, 1, 2, 1⟩, ⟨1, 0, 0, 1⟩, ⟨1, 1, 3, 1⟩], 0⟩
theorem example36_vr : VR P false n_law36_example [] [] (isR (plA true true exC)) := by
  refine vr_law36_example (by simp) (.inr rfl) fun _ _ => ?_
  simp (disch := ((try simp only [List.length_set, List.length_replicate, List.length_append, List.length_cons, List.length_nil]); omega)) only [aW, aX, aV, aB, aN, aL, aP, aH, aM, s_law36_example, v_law36_example, r_law36_example]
  refine post0 (fz_all ?_) ⟨rfl, rfl⟩
  simp [frzL_nil, frzL_cons, fzp_any, fzp_nil, fzp_v, fzp_agg, fzp_tup, fzp_fn, fzp_fs, fzp_fp, fzp_sl, fzp_vs, fzp_lp, ldp_any, ldp_nil, ldp_v, ldp_agg, ldp_fn, ldp_fs, ldp_fp, ldp_sl, ldp_vs, ldp_lp, blkAt, flatA, A.cells, A.one, Lft.one, retA, A.bdL, A.bd, exC, plA, plC, mcs, mcA, mcC, bts, btA, btC, rows, ints]
theorem panC_bd {n : Nat} {c : Cn} {j : Nat} (h : j < n) : A.bdL n (panC c j) = true := by
  simp [panC, A.bdL, A.bd, p_bd, r_bd, ii_bd, h]
theorem refC_bd {n : Nat} {c : Cn} {j : Nat} (h : j < n) : A.bdL n (refC c j) = true := by
  simp [refC, A.bdL, A.bd, p_bd, r_bd, h]
theorem fz_pan (m : Nat) (H : List Blk) (c : Cn) (j : Nat) (h : j < m) : FzL m H (panC c j) (panC c j) = True := eq_true (FzL.refl (panC_bd h))
theorem fz_ref (m : Nat) (H : List Blk) (c : Cn) (j : Nat) (h : j < m) : FzL m H (refC c j) (refC c j) = True := eq_true (FzL.refl (refC_bd h))
theorem new_sh (n : Nat) (e : Value) : (A.tup [.lp 3 0 0, .v e]).sh n = .tup [.lp (n + 3) 0 0, .v e] := rfl

theorem awake36_vr : VR P false n_law36_awake [] [] (isR (.v (.bool true))) := by
  refine vr_law36_awake (by simp) (.inr rfl) fun _ _ => ?_
  have h0 : pcheck exC = 0 := by decide +kernel
  have ok := cn_ok h0
  have a1 : ordL (cnP exC) (cnP exC).G.length = [[2], [3], [0, 1]] := by decide +kernel
  have b1 := controlOrder_ok (w := true) (v := true) h0
  rw [a1] at b1
  have b2 := controlNew_ok (w := true) (v := true) h0
  have b3 := refLists_vr (w := true) (v := false) (w' := true) (v' := false) [[2], [3], [0, 1]] [[2], [3], [0, 1]] (by decide) (by decide)
  rw [decide_eq_true rfl] at b3
  have hn : (cnP exC).n = 4 := rfl
  have e0 : List.replicate (cnP exC).n (0 : Int) = [0, 0, 0, 0] := rfl
  have c1 : startR (cnP exC) [0, 0, 0, 0] 0 = (13, [0, 0, 0, 0]) := by decide +kernel
  have c2 : startR (cnP exC) [0, 0, 0, 0] 2 = (0, [0, 0, 1, 0]) := by decide +kernel
  have c3 : startR (cnP exC) [0, 0, 1, 0] 3 = (0, [0, 0, 1, 1]) := by decide +kernel
  have c4 : startR (cnP exC) [0, 0, 1, 1] 1 = (0, [1, 1, 1, 1]) := by decide +kernel
  have c5 : jamR (cnP exC) [1, 1, 1, 1] 2 = (0, [0, 0, 2, 1]) := by decide +kernel
  have c6 : startR (cnP exC) [0, 0, 2, 1] 2 = (24, [0, 0, 2, 1]) := by decide +kernel
  have c7 : stateR (cnP exC) [0, 0, 2, 1] 2 = (2, 0) := by decide +kernel
  have c8 : stateR (cnP exC) [0, 0, 2, 1] 0 = (0, 0) := by decide +kernel
  have c9 : stateR (cnP exC) [0, 0, 2, 1] 3 = (1, 0) := by decide +kernel
  have c10 : clearR (cnP exC) [0, 0, 2, 1] 2 = (0, [0, 0, 0, 1]) := by decide +kernel
  have c11 : safeP (cnP exC) [0, 0, 0, 1] := by decide +kernel
  rw [e0] at b2
  unfold ordT at b1
  generalize hcc : cnP exC = c at *
  have hex := example36_vr
  generalize exC = p at *
  unfold plA plC at b1 b2 hex
  have ps : ∀ (st : List Int) (T : List Blk), st.length = 4 → PS ([⟨0, [.any, .any, .any, .any]⟩, ⟨0, [.any, .any]⟩, ⟨0, ints st⟩, ⟨0, panC c 2⟩] ++ T) 3 2 c st := fun st T h => ⟨by simp [blkAt], by simp [blkAt], by decide, by omega⟩
  have ps0 : ∀ (st : List Int), st.length = 4 → PS [⟨0, [.any, .any, .any, .any]⟩, ⟨0, [.any, .any]⟩, ⟨0, ints st⟩, ⟨0, panC c 2⟩] 3 2 c st := fun st h => ps st [] h
  simp (disch := ((try simp only [List.length_set, List.length_replicate, List.length_append, List.length_cons, List.length_nil]); omega)) only [aW, aX, aV, aB, aN, aL, aP, aH, aM, s_law36_awake, v_law36_awake]
  refine hex.same (by simp (disch := first | omega | simp (disch := omega) only [aF, aL, aN, aM]) only [aW, aX, aV, aB, aN, aL, aP, aH, aM, aF, Int.natCast_add, Int.natCast_mul, Int.add_sub_cancel, List.length_nil, Int.cast_ofNat_Int, and_true, true_and]) (by simp (disch := first | omega | simp (disch := omega) only [aF, aL, aN, aM]) only [aW, aX, aV, aB, aN, aL, aP, aH, aM, aF, Int.natCast_add, Int.natCast_mul, Int.add_sub_cancel, List.length_nil, Int.cast_ofNat_Int, and_true, true_and]) (aret_of ?_)
  simp (disch := ((try simp only [List.length_set, List.length_replicate, List.length_append, List.length_cons, List.length_nil]); omega)) only [aW, aX, aV, aB, aN, aL, aP, aH, aM]
  refine b1.same (by simp (disch := first | omega | simp (disch := omega) only [aF, aL, aN, aM]) only [aW, aX, aV, aB, aN, aL, aP, aH, aM, aF, Int.natCast_add, Int.natCast_mul, Int.add_sub_cancel, List.length_nil, Int.cast_ofNat_Int, and_true, true_and]) (by simp (disch := first | omega | simp (disch := omega) only [aF, aL, aN, aM]) only [aW, aX, aV, aB, aN, aL, aP, aH, aM, aF, Int.natCast_add, Int.natCast_mul, Int.add_sub_cancel, List.length_nil, Int.cast_ofNat_Int, and_true, true_and]) (aret_of ?_)
  simp (disch := ((try simp only [List.length_set, List.length_replicate, List.length_append, List.length_cons, List.length_nil]); omega)) only [aW, aX, aV, aB, aN, aL, aP, aH, aM]
  refine hex.same (by simp (disch := first | omega | simp (disch := omega) only [aF, aL, aN, aM]) only [aW, aX, aV, aB, aN, aL, aP, aH, aM, aF, Int.natCast_add, Int.natCast_mul, Int.add_sub_cancel, List.length_nil, Int.cast_ofNat_Int, and_true, true_and]) (by simp (disch := first | omega | simp (disch := omega) only [aF, aL, aN, aM]) only [aW, aX, aV, aB, aN, aL, aP, aH, aM, aF, Int.natCast_add, Int.natCast_mul, Int.add_sub_cancel, List.length_nil, Int.cast_ofNat_Int, and_true, true_and]) (aret_of ?_)
  simp (disch := ((try simp only [List.length_set, List.length_replicate, List.length_append, List.length_cons, List.length_nil]); omega)) only [aW, aX, aV, aB, aN, aL, aP, aH, aM]
  refine b2.useO (LdL.refl (by simp (disch := first | omega | simp (disch := omega) only [aF, aL, aN, aM]) only [aW, aX, aV, aB, aN, aL, aP, aH, aM, aF, Int.natCast_add, Int.natCast_mul, Int.add_sub_cancel, List.length_nil, Int.cast_ofNat_Int, and_true, true_and])) (by rw [panG_cl]; rfl) (aret_of ?_)
  rw [panG_sh, new_sh]
  simp (disch := ((try simp only [List.length_set, List.length_replicate, List.length_append, List.length_cons, List.length_nil]); omega)) only [aW, aX, aV, aB, aN, aL, aP, aH, aM]
  refine (start_ps ok (ps0 [0, 0, 0, 0] rfl) 0).mono ?_
  rintro r H' ⟨rfl, hH⟩
  rw [hH, c1]
  refine aret_of ?_
  simp (disch := ((try simp only [List.length_set, List.length_replicate, List.length_append, List.length_cons, List.length_nil]); omega)) only [aW, aX, aV, aB, aN, aL, aP, aH, aM]
  refine (start_ps ok (ps0 [0, 0, 0, 0] rfl) 2).mono ?_
  rintro r H' ⟨rfl, hH⟩
  rw [hH, c2]
  refine aret_of ?_
  simp (disch := ((try simp only [List.length_set, List.length_replicate, List.length_append, List.length_cons, List.length_nil]); omega)) only [aW, aX, aV, aB, aN, aL, aP, aH, aM]
  refine (start_ps ok (ps0 [0, 0, 1, 0] rfl) 3).mono ?_
  rintro r H' ⟨rfl, hH⟩
  rw [hH, c3]
  refine aret_of ?_
  simp (disch := ((try simp only [List.length_set, List.length_replicate, List.length_append, List.length_cons, List.length_nil]); omega)) only [aW, aX, aV, aB, aN, aL, aP, aH, aM]
  refine (start_ps ok (ps0 [0, 0, 1, 1] rfl) 1).mono ?_
  rintro r H' ⟨rfl, hH⟩
  rw [hH, c4]
  refine aret_of ?_
  simp (disch := ((try simp only [List.length_set, List.length_replicate, List.length_append, List.length_cons, List.length_nil]); omega)) only [aW, aX, aV, aB, aN, aL, aP, aH, aM]
  refine (jam_ps ok (ps0 [1, 1, 1, 1] rfl) 2).mono ?_
  rintro r H' ⟨rfl, hH⟩
  rw [hH, c5]
  refine aret_of ?_
  simp (disch := ((try simp only [List.length_set, List.length_replicate, List.length_append, List.length_cons, List.length_nil]); omega)) only [aW, aX, aV, aB, aN, aL, aP, aH, aM]
  refine (start_ps ok (ps0 [0, 0, 2, 1] rfl) 2).mono ?_
  rintro r H' ⟨rfl, hH⟩
  rw [hH, c6]
  refine aret_of ?_
  simp (disch := ((try simp only [List.length_set, List.length_replicate, List.length_append, List.length_cons, List.length_nil]); omega)) only [aW, aX, aV, aB, aN, aL, aP, aH, aM]
  refine (state_ps (ps0 [0, 0, 2, 1] rfl) 2).mono ?_
  rintro r H' ⟨rfl, hH⟩
  rw [hH, c7]
  refine aret_of ?_
  simp (disch := ((try simp only [List.length_set, List.length_replicate, List.length_append, List.length_cons, List.length_nil]); omega)) only [aW, aX, aV, aB, aN, aL, aP, aH, aM]
  refine (state_ps (ps0 [0, 0, 2, 1] rfl) 0).mono ?_
  rintro r H' ⟨rfl, hH⟩
  rw [hH, c8]
  refine aret_of ?_
  simp (disch := ((try simp only [List.length_set, List.length_replicate, List.length_append, List.length_cons, List.length_nil]); omega)) only [aW, aX, aV, aB, aN, aL, aP, aH, aM]
  refine (state_ps (ps0 [0, 0, 2, 1] rfl) 3).mono ?_
  rintro r H' ⟨rfl, hH⟩
  rw [hH, c9]
  refine aret_of ?_
  simp (disch := ((try simp only [List.length_set, List.length_replicate, List.length_append, List.length_cons, List.length_nil]); omega)) only [aW, aX, aV, aB, aN, aL, aP, aH, aM]
  refine b3.use ⟨Ld.refl (by simp (disch := first | omega | simp (disch := omega) only [aF, aL, aN, aM]) only [aW, aX, aV, aB, aN, aL, aP, aH, aM, aF, Int.natCast_add, Int.natCast_mul, Int.add_sub_cancel, List.length_nil, Int.cast_ofNat_Int, and_true, true_and]), (ld_all (l := [_]) (r := [_]) (by simp [frzL_nil, frzL_cons, fzp_any, fzp_nil, fzp_v, fzp_agg, fzp_tup, fzp_fn, fzp_fs, fzp_fp, fzp_sl, fzp_vs, fzp_lp, ldp_any, ldp_nil, ldp_v, ldp_agg, ldp_fn, ldp_fs, ldp_fp, ldp_sl, ldp_vs, ldp_lp, blkAt, flatA, A.cells, A.one, Lft.one, retA, A.bdL, A.bd, rows, ints])).1, trivial⟩ rfl (aret_of ?_)
  simp (disch := ((try simp only [List.length_set, List.length_replicate, List.length_append, List.length_cons, List.length_nil]); omega)) only [aW, aX, aV, aB, aN, aL, aP, aH, aM]
  refine (clear_ps (ps [0, 0, 2, 1] _ rfl) 2).mono ?_
  rintro r H' ⟨rfl, hH⟩
  rw [hH, c10]
  refine aret_of ?_
  simp (disch := ((try simp only [List.length_set, List.length_replicate, List.length_append, List.length_cons, List.length_nil]); omega)) only [aW, aX, aV, aB, aN, aL, aP, aH, aM]
  refine (safe_ps ok (ps [0, 0, 0, 1] _ rfl)).mono ?_
  rintro r H' ⟨rfl, hH⟩
  rw [hH, decide_eq_true c11]
  refine aret_of ?_
  simp (disch := ((try simp only [List.length_set, List.length_replicate, List.length_append, List.length_cons, List.length_nil]); omega)) only [aW, aX, aV, aB, aN, aL, aP, aH, aM, r_law36_awake]
  exact post_v ⟨rfl, rfl⟩

end Go.Proofs.Ytfnghkmchlfooaa
namespace Go.Proofs.Ytfnghkmchlfooaa
open Go Go.Lft
set_option linter.unusedSimpArgs false
set_option linter.unusedVariables false
attribute [local congr] ob_congr bw_congr ib_congr ck_congr iwA_congr itA_congr aw_congr awp_congr sqA_congr bkA_congr vr_congr gd_congr

theorem ps4 (b b1 b2 : List A) (c : Cn) (st : List Int) (T : List Blk) (h : st.length = c.n) : PS (⟨0, b⟩ :: ⟨0, b1⟩ :: ⟨0, b2⟩ :: ⟨0, ints st⟩ :: ⟨0, panC c 3⟩ :: T) 4 3 c st := ⟨by simp [blkAt], by simp [blkAt], by decide, h⟩
theorem off_len (c : Cn) (l : List (Int × Int)) : (runR c (List.replicate c.n 0) l).length = c.n := by rw [runR_len]; simp

end Go.Proofs.Ytfnghkmchlfooaa
namespace Go.Proofs.Ytfnghkmchlfooaa
open Go Go.Lft
set_option linter.unusedSimpArgs false
set_option linter.unusedVariables false
attribute [local congr] ob_congr bw_congr ib_congr ck_congr iwA_congr itA_congr aw_congr awp_congr sqA_congr bkA_congr vr_congr gd_congr

theorem rs8 (a0 a1 a2 a3 a4 a5 a6 : List A) (c : Cn) (st : List Int) (T : List Blk) (h : st.length = c.n) : RS (⟨0, a0⟩ :: ⟨0, a1⟩ :: ⟨0, a2⟩ :: ⟨0, a3⟩ :: ⟨0, a4⟩ :: ⟨0, a5⟩ :: ⟨0, a6⟩ :: ⟨0, ints st⟩ :: ⟨0, refC c 7⟩ :: T) 8 7 c st := ⟨by simp [blkAt], by simp [blkAt], by decide, h⟩
theorem controlRuns_vr (p : Pl) (l : List (Int × Int)) (x : Int) : VR P false n_law36_ControlRuns [plA true true p, .fs true (pairs l), .v (.int .i64 x)] [] (isR (.v (.bool true))) := by
  refine vr_law36_ControlRuns (by simp) (.inr rfl) fun _ _ => ?_
  have hlg := large36_vr (w := true) (v := true) p
  unfold plA plC at hlg ⊢
  simp (disch := ((try simp only [List.length_set, List.length_replicate, List.length_append, List.length_cons, List.length_nil]); omega)) only [aW, aX, aV, aB, aN, aL, aP, aH, aM, s_law36_ControlRuns, v_law36_ControlRuns]
  refine hlg.useE (LdL.refl (by simp (disch := first | omega | simp (disch := omega) only [aF, aL, aN, aM]) only [aW, aX, aV, aB, aN, aL, aP, aH, aM, aF, Int.natCast_add, Int.natCast_mul, Int.add_sub_cancel, List.length_nil, Int.cast_ofNat_Int, and_true, true_and])) large36_c ?_
  rintro r ⟨_, b, rfl⟩
  refine aret_of ?_
  by_cases hb : b = true ∨ 60 < (l.length : Int)
  · have hb' : (b || decide (60 < (l.length : Int))) = true := by rcases hb with h | h <;> simp [h]
    simp (disch := ((try simp only [List.length_set, List.length_replicate, List.length_append, List.length_cons, List.length_nil]); omega)) only [aW, aX, aV, aB, aN, aL, aP, aH, aM, hb']
    refine awake36_vr.same (by simp (disch := first | omega | simp (disch := omega) only [aF, aL, aN, aM]) only [aW, aX, aV, aB, aN, aL, aP, aH, aM, aF, Int.natCast_add, Int.natCast_mul, Int.add_sub_cancel, List.length_nil, Int.cast_ofNat_Int, and_true, true_and]) rfl (aret_of ?_)
    simp (disch := ((try simp only [List.length_set, List.length_replicate, List.length_append, List.length_cons, List.length_nil]); omega)) only [aW, aX, aV, aB, aN, aL, aP, aH, aM, r_law36_ControlRuns]
    exact post_v ⟨rfl, rfl⟩
  have hb' : (b || decide (60 < (l.length : Int))) = false := by
    cases b with
    | true => exact absurd (.inl rfl) hb
    | false => simp; omega
  have hl60 : l.length ≤ 60 := by
    apply Classical.byContradiction; intro h; exact hb (.inr (by omega))
  by_cases h0 : pcheck p = 0
  case neg =>
    have hv := controlNew_err (w := true) (v := true) h0
    have hv2 := refNew_err (w := true) (v := true) h0
    unfold plA plC at hv hv2
    simp (disch := ((try simp only [List.length_set, List.length_replicate, List.length_append, List.length_cons, List.length_nil]); omega)) only [aW, aX, aV, aB, aN, aL, aP, aH, aM, hb']
    refine hv.same (by simp (disch := first | omega | simp (disch := omega) only [aF, aL, aN, aM]) only [aW, aX, aV, aB, aN, aL, aP, aH, aM, aF, Int.natCast_add, Int.natCast_mul, Int.add_sub_cancel, List.length_nil, Int.cast_ofNat_Int, and_true, true_and]) (by simp (disch := first | omega | simp (disch := omega) only [aF, aL, aN, aM]) only [aW, aX, aV, aB, aN, aL, aP, aH, aM, aF, Int.natCast_add, Int.natCast_mul, Int.add_sub_cancel, List.length_nil, Int.cast_ofNat_Int, and_true, true_and]) (aret_of ?_)
    simp (disch := ((try simp only [List.length_set, List.length_replicate, List.length_append, List.length_cons, List.length_nil]); omega)) only [aW, aX, aV, aB, aN, aL, aP, aH, aM]
    refine hv2.same (by simp (disch := first | omega | simp (disch := omega) only [aF, aL, aN, aM]) only [aW, aX, aV, aB, aN, aL, aP, aH, aM, aF, Int.natCast_add, Int.natCast_mul, Int.add_sub_cancel, List.length_nil, Int.cast_ofNat_Int, and_true, true_and]) (by simp (disch := first | omega | simp (disch := omega) only [aF, aL, aN, aM]) only [aW, aX, aV, aB, aN, aL, aP, aH, aM, aF, Int.natCast_add, Int.natCast_mul, Int.add_sub_cancel, List.length_nil, Int.cast_ofNat_Int, and_true, true_and]) (aret_of ?_)
    simp (disch := ((try simp only [List.length_set, List.length_replicate, List.length_append, List.length_cons, List.length_nil]); omega)) only [aW, aX, aV, aB, aN, aL, aP, aH, aM]
    refine awake36_vr.same (by simp (disch := first | omega | simp (disch := omega) only [aF, aL, aN, aM]) only [aW, aX, aV, aB, aN, aL, aP, aH, aM, aF, Int.natCast_add, Int.natCast_mul, Int.add_sub_cancel, List.length_nil, Int.cast_ofNat_Int, and_true, true_and]) rfl (aret_of ?_)
    simp (disch := ((try simp only [List.length_set, List.length_replicate, List.length_append, List.length_cons, List.length_nil]); omega)) only [aW, aX, aV, aB, aN, aL, aP, aH, aM, r_law36_ControlRuns]
    exact post_v ⟨rfl, rfl⟩
  have ok := cn_ok h0
  have hv := controlNew_ok (w := true) (v := true) h0
  have hv2 := refNew_ok (w := true) (v := true) h0
  unfold plA plC at hv hv2
  have hn : p.ms.length = (cnP p).n := rfl
  have n1 := ok.n1
  have harc := fun k (hk : k < p.bs.length) => arcsR_get p k hk
  have hal := arcsR_len p
  have hcl : arcsR p = (cnP p).l := rfl
  rw [hcl] at harc hal
  have l1 := ok.l1
  generalize cnP p = c at *
  simp (disch := ((try simp only [List.length_set, List.length_replicate, List.length_append, List.length_cons, List.length_nil]); omega)) only [aW, aX, aV, aB, aN, aL, aP, aH, aM, hb']
  refine hv.useO (LdL.refl (by simp (disch := first | omega | simp (disch := omega) only [aF, aL, aN, aM]) only [aW, aX, aV, aB, aN, aL, aP, aH, aM, aF, Int.natCast_add, Int.natCast_mul, Int.add_sub_cancel, List.length_nil, Int.cast_ofNat_Int, and_true, true_and])) (by rw [panG_cl]; rfl) (aret_of ?_)
  rw [panG_sh, new_sh]
  simp (disch := ((try simp only [List.length_set, List.length_replicate, List.length_append, List.length_cons, List.length_nil]); omega)) only [aW, aX, aV, aB, aN, aL, aP, aH, aM]
  refine hv2.useO (LdL.refl (by simp (disch := first | omega | simp (disch := omega) only [aF, aL, aN, aM]) only [aW, aX, aV, aB, aN, aL, aP, aH, aM, aF, Int.natCast_add, Int.natCast_mul, Int.add_sub_cancel, List.length_nil, Int.cast_ofNat_Int, and_true, true_and])) (by rw [refG_cl]; rfl) (aret_of ?_)
  rw [refG_sh, new_sh]
  simp (disch := ((try simp only [List.length_set, List.length_replicate, List.length_append, List.length_cons, List.length_nil]); omega)) only [aW, aX, aV, aB, aN, aL, aP, aH, aM, hn]
  refine AWP.loopP g_law36_ControlRuns_0 (fun k : Nat => k ≤ l.length) (fun k => [(3, .v (.bool false)), (9, .v (.int .i64 k))]) (fun k => [(3, ⟨0, ints (runR c (List.replicate c.n 0) (l.take k))⟩), (7, ⟨0, ints (runR c (List.replicate c.n 0) (l.take k))⟩)]) (fun k => l.length - k) 0 (by omega) ?_ ?_
  · have e0 : runR c (List.replicate c.n 0) (l.take 0) = List.replicate c.n 0 := by rw [List.take_zero]; rfl
    rw [e0]
    try simp (disch := ((try simp only [List.length_set, List.length_replicate, List.length_append, List.length_cons, List.length_nil]); omega)) only [aW, aX, aV, aB, aN, aL, aP, aH, aM]
    exact Cut.of' 9 rfl (by omega) (by simp (disch := first | omega | simp (disch := omega) only [aF, aL, aN, aM]) only [aW, aX, aV, aB, aN, aL, aP, aH, aM, aF, Int.natCast_add, Int.natCast_mul, Int.add_sub_cancel, List.length_nil, Int.cast_ofNat_Int, and_true, true_and, fz_pan, fz_ref]) (by simp (disch := first | omega | simp (disch := omega) only [aF, aL, aN, aM]) only [aW, aX, aV, aB, aN, aL, aP, aH, aM, aF, Int.natCast_add, Int.natCast_mul, Int.add_sub_cancel, List.length_nil, Int.cast_ofNat_Int, and_true, true_and])
  rintro k hk
  by_cases hlt : k < l.length
  · have hrt := runR_take c (List.replicate c.n 0) l k hlt
    have hol := off_len c (l.take k)
    have hol1 := off_len c (l.take (k + 1))
    simp (disch := ((try simp only [List.length_set, List.length_replicate, List.length_append, List.length_cons, List.length_nil]); omega)) only [aW, aX, aV, aB, aN, aL, aP, aH, aM]
    refine ⟨?_, ?_⟩
    · try simp (disch := ((try simp only [List.length_set, List.length_replicate, List.length_append, List.length_cons, List.length_nil]); omega)) only [aW, aX, aV, aB, aN, aL, aP, aH, aM]
      refine (do_ps ok (ps4 _ _ _ c _ [_, _, _, _, _] hol) (l.getD k (0, 0))).mono ?_
      rintro r H' ⟨rfl, hH⟩
      rw [hH, ← hrt]
      refine aret_of ?_
      simp (disch := ((try simp only [List.length_set, List.length_replicate, List.length_append, List.length_cons, List.length_nil]); omega)) only [aW, aX, aV, aB, aN, aL, aP, aH, aM]
      refine (model_ps ok (rs8 _ _ _ _ _ _ _ c _ [_] hol) (l.getD k (0, 0))).mono ?_
      rintro r H' ⟨rfl, hH⟩
      rw [hH, ← hrt]
      refine aret_of ?_
      simp (disch := ((try simp only [List.length_set, List.length_replicate, List.length_append, List.length_cons, List.length_nil]); omega)) only [aW, aX, aV, aB, aN, aL, aP, aH, aM]
      refine (safe_ps ok (ps4 _ _ _ c _ [_, _, _, _, _] hol1)).mono ?_
      rintro r H' ⟨rfl, hH⟩
      rw [hH]
      refine aret_of ?_
      simp (disch := ((try simp only [List.length_set, List.length_replicate, List.length_append, List.length_cons, List.length_nil]); omega)) only [aW, aX, aV, aB, aN, aL, aP, aH, aM]
      refine (rsafe_ps ok (rs8 _ _ _ _ _ _ _ c _ [_] hol1)).mono ?_
      rintro r H' ⟨rfl, hH⟩
      rw [hH]
      refine aret_of ?_
      have hbb : ∀ s : Bool, (s == s) = true := fun s => by cases s <;> rfl
      simp (disch := ((try simp only [List.length_set, List.length_replicate, List.length_append, List.length_cons, List.length_nil]); omega)) only [aW, aX, aV, aB, aN, aL, aP, aH, aM, hbb]
      refine ⟨k + 1, by omega, by omega, ?_⟩
      exact Cut.of' 9 rfl (by omega) (by simp (disch := first | omega | simp (disch := omega) only [aF, aL, aN, aM]) only [aW, aX, aV, aB, aN, aL, aP, aH, aM, aF, Int.natCast_add, Int.natCast_mul, Int.add_sub_cancel, List.length_nil, Int.cast_ofNat_Int, and_true, true_and, fz_pan, fz_ref]) (by simp (disch := first | omega | simp (disch := omega) only [aF, aL, aN, aM]) only [aW, aX, aV, aB, aN, aL, aP, aH, aM, aF, Int.natCast_add, Int.natCast_mul, Int.add_sub_cancel, List.length_nil, Int.cast_ofNat_Int, and_true, true_and])
    · try simp (disch := ((try simp only [List.length_set, List.length_replicate, List.length_append, List.length_cons, List.length_nil]); omega)) only [aW, aX, aV, aB, aN, aL, aP, aH, aM]
      refine (do_ps ok (ps4 _ _ _ c _ [_, _, _, _, _] hol) (l.getD k (0, 0))).mono ?_
      rintro r H' ⟨rfl, hH⟩
      rw [hH, ← hrt]
      refine aret_of ?_
      simp (disch := ((try simp only [List.length_set, List.length_replicate, List.length_append, List.length_cons, List.length_nil]); omega)) only [aW, aX, aV, aB, aN, aL, aP, aH, aM]
      refine (model_ps ok (rs8 _ _ _ _ _ _ _ c _ [_] hol) (l.getD k (0, 0))).mono ?_
      rintro r H' ⟨rfl, hH⟩
      rw [hH, ← hrt]
      refine aret_of ?_
      simp (disch := ((try simp only [List.length_set, List.length_replicate, List.length_append, List.length_cons, List.length_nil]); omega)) only [aW, aX, aV, aB, aN, aL, aP, aH, aM]
      refine (safe_ps ok (ps4 _ _ _ c _ [_, _, _, _, _] hol1)).mono ?_
      rintro r H' ⟨rfl, hH⟩
      rw [hH]
      refine aret_of ?_
      simp (disch := ((try simp only [List.length_set, List.length_replicate, List.length_append, List.length_cons, List.length_nil]); omega)) only [aW, aX, aV, aB, aN, aL, aP, aH, aM]
      refine (rsafe_ps ok (rs8 _ _ _ _ _ _ _ c _ [_] hol1)).mono ?_
      rintro r H' ⟨rfl, hH⟩
      rw [hH]
      refine aret_of ?_
      have hbb : ∀ s : Bool, (s == s) = true := fun s => by cases s <;> rfl
      simp (disch := ((try simp only [List.length_set, List.length_replicate, List.length_append, List.length_cons, List.length_nil]); omega)) only [aW, aX, aV, aB, aN, aL, aP, aH, aM, hbb]
      refine ⟨k + 1, by omega, by omega, ?_⟩
      exact Cut.of' 9 rfl (by omega) (by simp (disch := first | omega | simp (disch := omega) only [aF, aL, aN, aM]) only [aW, aX, aV, aB, aN, aL, aP, aH, aM, aF, Int.natCast_add, Int.natCast_mul, Int.add_sub_cancel, List.length_nil, Int.cast_ofNat_Int, and_true, true_and, fz_pan, fz_ref]) (by simp (disch := first | omega | simp (disch := omega) only [aF, aL, aN, aM]) only [aW, aX, aV, aB, aN, aL, aP, aH, aM, aF, Int.natCast_add, Int.natCast_mul, Int.add_sub_cancel, List.length_nil, Int.cast_ofNat_Int, and_true, true_and])
  have hke : k = l.length := by omega
  subst hke
  rw [List.take_length]
  have sl := off_len c l
  generalize runR c (List.replicate c.n 0) l = st at *
  have h6 := refInts_vr (w := true) (v := false) st st (by omega)
  rw [decide_eq_true rfl] at h6
  have hrefc : ∀ j, refC c j = [.v (.int .i64 c.n), .fs true (pairs c.l), .fs true (rows true c.G), .sl j 0 1 0 c.n] := fun j => rfl
  simp (disch := ((try simp only [List.length_set, List.length_replicate, List.length_append, List.length_cons, List.length_nil]); omega)) only [aW, aX, aV, aB, aN, aL, aP, aH, aM, hn]
  refine (states_ps ok (ps4 _ _ _ c _ [_, _, _, _] sl)).mono ?_
  rintro r H' ⟨rfl, hH⟩
  rw [hH]
  refine aret_of ?_
  simp (disch := ((try simp only [List.length_set, List.length_replicate, List.length_append, List.length_cons, List.length_nil]); omega)) only [aW, aX, aV, aB, aN, aL, aP, aH, aM]
  refine (state_ps (ps4 _ _ _ c _ [_, _, _, _] sl) x).mono ?_
  rintro r H' ⟨rfl, hH⟩
  rw [hH]
  refine aret_of ?_
  simp (disch := ((try simp only [List.length_set, List.length_replicate, List.length_append, List.length_cons, List.length_nil]); omega)) only [aW, aX, aV, aB, aN, aL, aP, aH, aM]
  refine (rstate_ps (rs8 _ _ _ _ _ _ _ c _ [] sl) x).mono ?_
  rintro r H' ⟨rfl, hH⟩
  rw [hH]
  refine aret_of ?_
  generalize stateR c st x = sx at *
  simp (disch := ((try simp only [List.length_set, List.length_replicate, List.length_append, List.length_cons, List.length_nil]); omega)) only [aW, aX, aV, aB, aN, aL, aP, aH, aM, hrefc]
  refine h6.use ⟨Ld.refl (by simp (disch := first | omega | simp (disch := omega) only [aF, aL, aN, aM]) only [aW, aX, aV, aB, aN, aL, aP, aH, aM, aF, Int.natCast_add, Int.natCast_mul, Int.add_sub_cancel, List.length_nil, Int.cast_ofNat_Int, and_true, true_and]), ld_slI _ 7 0 _ st sl.symm (by simp [blkAt]), trivial⟩ rfl (aret_of ?_)
  simp (disch := ((try simp only [List.length_set, List.length_replicate, List.length_append, List.length_cons, List.length_nil]); omega)) only [aW, aX, aV, aB, aN, aL, aP, aH, aM]
  refine awake36_vr.same (by simp (disch := first | omega | simp (disch := omega) only [aF, aL, aN, aM]) only [aW, aX, aV, aB, aN, aL, aP, aH, aM, aF, Int.natCast_add, Int.natCast_mul, Int.add_sub_cancel, List.length_nil, Int.cast_ofNat_Int, and_true, true_and]) rfl (aret_of ?_)
  simp (disch := ((try simp only [List.length_set, List.length_replicate, List.length_append, List.length_cons, List.length_nil]); omega)) only [aW, aX, aV, aB, aN, aL, aP, aH, aM, r_law36_ControlRuns]
  exact post_v ⟨rfl, rfl⟩
end Go.Proofs.Ytfnghkmchlfooaa
