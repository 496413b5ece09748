/- Shortest cycles: what they are. No statement is claimed here. -/
import Derived.Test.YtaiidcelopfjlaaGi
namespace Go.Proofs.Ytaiidcelopfjlaa
open Go Go.Lft
set_option linter.unusedSimpArgs false
set_option linter.unusedVariables false

theorem low_eq {p : Nat → Bool} {b m k : Nat} : low p b m = (k : Int) ↔ b ≤ k ∧ k < b + m ∧ p k = true ∧ ∀ i, b ≤ i → i < k → p i = false := by
  rcases low_cases p m b with ⟨h1, h2⟩ | ⟨i, h1, h2, h3, h4, h5⟩
  · rw [h1]
    constructor
    · intro h; omega
    · rintro ⟨g1, g2, g3, _⟩
      rw [h2 k g1 g2] at g3; cases g3
  · rw [h1]
    constructor
    · intro h
      have : i = k := by omega
      subst this; exact ⟨h2, h3, h4, h5⟩
    · rintro ⟨g1, g2, g3, g4⟩
      have : i = k := by
        rcases Nat.lt_trichotomy i k with h | h | h
        · rw [g4 i h2 h] at h4; cases h4
        · exact h
        · rw [h5 k g1 h] at g3; cases g3
      rw [this]
theorem low_neg {p : Nat → Bool} {b m : Nat} : low p b m < 0 ↔ ∀ i, b ≤ i → i < b + m → p i = false := by
  rcases low_cases p m b with ⟨h1, h2⟩ | ⟨i, h1, h2, h3, h4, h5⟩
  · rw [h1]; exact ⟨fun _ => h2, fun _ => by omega⟩
  · rw [h1]
    exact ⟨fun h => by omega, fun h => by rw [h i h2 h3] at h4; cases h4⟩
theorem low_m1 {p : Nat → Bool} {b m : Nat} (h : low p b m < 0) : low p b m = -1 := by
  rcases low_cases p m b with ⟨h1, h2⟩ | ⟨i, h1, _⟩
  · exact h1
  · omega
theorem low_nat {p : Nat → Bool} {b m : Nat} (h : ¬ low p b m < 0) : ∃ k : Nat, low p b m = k := by
  rcases low_cases p m b with ⟨h1, h2⟩ | ⟨i, h1, _⟩
  · omega
  · exact ⟨i, h1⟩
theorem low_up {p : Nat → Bool} {b m : Nat} (m' : Nat) (hm : m ≤ m') (h : ¬ low p b m < 0) : low p b m' = low p b m := by
  obtain ⟨k, hk⟩ := low_nat h
  rw [hk]
  obtain ⟨h1, h2, h3, h4⟩ := low_eq.1 hk
  exact low_eq.2 ⟨h1, by omega, h3, h4⟩
theorem low_next {p : Nat → Bool} {b m : Nat} : low p b (m + 1) = if low p b m < 0 then if p (b + m) = true then ((b + m : Nat) : Int) else -1 else low p b m := by
  split
  · rename_i h
    have h' := low_neg.1 h
    split
    · rename_i hp
      exact low_eq.2 ⟨by omega, by omega, hp, fun i h1 h2 => h' i h1 h2⟩
    · rename_i hp
      refine low_m1 (low_neg.2 fun i h1 h2 => ?_)
      by_cases hi : i = b + m
      · subst hi; simpa using hp
      · exact h' i h1 (by omega)
  · rename_i h
    exact low_up _ (by omega) h

/-- A way of so many arcs to t; one over nodes from s on, to s. -/
def wk (l : Arcs) (t : Int) : Nat → Int → Bool
  | 0, v => v == t
  | d + 1, v => l.any fun a => a.1 == v && wk l t d a.2
def wg (l : Arcs) (s : Int) : Nat → Int → Bool
  | 0, v => v == s
  | d + 1, v => decide (s ≤ v) && l.any fun a => a.1 == v && wg l s d a.2
theorem wk_succ {l : Arcs} {t v : Int} {d : Nat} : wk l t (d + 1) v = true ↔ ∃ a ∈ l, a.1 = v ∧ wk l t d a.2 = true := by
  simp only [wk, List.any_eq_true, Bool.and_eq_true, beq_iff_eq]
theorem wg_succ {l : Arcs} {s v : Int} {d : Nat} : wg l s (d + 1) v = true ↔ s ≤ v ∧ ∃ a ∈ l, a.1 = v ∧ wg l s d a.2 = true := by
  simp only [wg, List.any_eq_true, Bool.and_eq_true, beq_iff_eq, decide_eq_true_eq]
theorem wk_app {l : Arcs} {t u : Int} : ∀ {j k : Nat} {v : Int}, wk l t j v = true → wk l u k t = true → wk l u (j + k) v = true
  | 0, k, v, h1, h2 => by
    have : v = t := by simpa [wk] using h1
    rw [this, Nat.zero_add]; exact h2
  | j + 1, k, v, h1, h2 => by
    obtain ⟨a, h3, h4, h5⟩ := wk_succ.1 h1
    rw [show j + 1 + k = (j + k) + 1 by omega]
    exact wk_succ.2 ⟨a, h3, h4, wk_app h5 h2⟩
theorem wg_wk {l : Arcs} {s : Int} : ∀ {d : Nat} {v : Int}, wg l s d v = true → wk l s d v = true
  | 0, v, h => h
  | d + 1, v, h => by
    obtain ⟨_, a, h3, h4, h5⟩ := wg_succ.1 h
    exact wk_succ.2 ⟨a, h3, h4, wg_wk h5⟩
theorem wk_in {n : Int} {l : Arcs} (hr : inR n l) {t : Int} (ht : 0 ≤ t ∧ t < n) : ∀ {d : Nat} {v : Int}, wk l t d v = true → 0 ≤ v ∧ v < n
  | 0, v, h => by
    have : v = t := by simpa [wk] using h
    rw [this]; exact ht
  | d + 1, v, h => by
    obtain ⟨a, h3, h4, h5⟩ := wk_succ.1 h
    rw [← h4]; exact (hr a h3).1

/-- The distances of the code, after k waves. -/
def gT (l : Arcs) (s : Int) (k : Nat) (v : Int) : Int := low (fun d => wg l s d v) 0 (k + 1)
def gHit (l : Arcs) (s : Int) (k : Nat) (v : Int) (a : Int × Int) : Bool := a.1 == v && (decide (s ≤ v) && gT l s k a.2 == (k : Int))
def gMid (l : Arcs) (s : Int) (k i : Nat) (v : Int) : Int := if gT l s k v < 0 then if (l.take i).any (gHit l s k v) = true then ((k + 1 : Nat) : Int) else -1 else gT l s k v
theorem gT_zero (l : Arcs) (s v : Int) : gT l s 0 v = if v = s then 0 else -1 := by
  unfold gT low low wg
  by_cases h : v = s
  · simp [h]
  · simp [h]
theorem gT_le (l : Arcs) (s : Int) (k : Nat) (v : Int) : -1 ≤ gT l s k v ∧ gT l s k v ≤ k := by
  unfold gT
  rcases low_cases (fun d => wg l s d v) (k + 1) 0 with ⟨h1, _⟩ | ⟨i, h1, h2, h3, _⟩ <;> omega
theorem gHit_iff {l : Arcs} {s : Int} {k : Nat} {v : Int} (hv : gT l s k v < 0) : l.any (gHit l s k v) = true ↔ wg l s (k + 1) v = true := by
  rw [wg_succ, List.any_eq_true]
  simp only [gHit, Bool.and_eq_true, beq_iff_eq, decide_eq_true_eq]
  constructor
  · rintro ⟨a, h1, h2, h3, h4⟩
    exact ⟨h3, a, h1, h2, (low_eq.1 h4).2.2.1⟩
  · rintro ⟨h3, a, h1, h2, h4⟩
    refine ⟨a, h1, h2, h3, low_eq.2 ⟨by omega, by omega, h4, fun i _ hi => ?_⟩⟩
    rw [← Bool.not_eq_true]; intro hc
    have := low_neg.1 hv (i + 1) (by omega) (by omega)
    have h5 : wg l s (i + 1) v = true := wg_succ.2 ⟨h3, a, h1, h2, hc⟩
    rw [h5] at this; cases this
theorem gMid_all (l : Arcs) (s : Int) (k : Nat) (v : Int) : gMid l s k l.length v = gT l s (k + 1) v := by
  unfold gMid
  rw [List.take_length]
  show _ = low (fun d => wg l s d v) 0 (k + 1 + 1)
  rw [low_next]
  show _ = if gT l s k v < 0 then _ else gT l s k v
  by_cases h : gT l s k v < 0
  · rw [if_pos h, if_pos h]
    have := gHit_iff h
    simp only [Nat.zero_add]
    by_cases h2 : wg l s (k + 1) v = true
    · rw [if_pos (this.2 h2), if_pos h2]
    · rw [if_neg (fun hc => h2 (this.1 hc)), if_neg h2]
  · rw [if_neg h, if_neg h]
theorem gMid_zero (l : Arcs) (s : Int) (k : Nat) (v : Int) : gMid l s k 0 v = gT l s k v := by
  unfold gMid
  by_cases h : gT l s k v < 0
  · rw [if_pos h, List.take_zero, if_neg (by simp)]
    exact (low_m1 (p := fun d => wg l s d v) (b := 0) (m := k + 1) h).symm
  · rw [if_neg h]
theorem gMid_neg {l : Arcs} {s : Int} {k i : Nat} {v : Int} : gMid l s k i v < 0 ↔ gT l s k v < 0 ∧ (l.take i).any (gHit l s k v) = false := by
  unfold gMid
  by_cases h : gT l s k v < 0
  · rw [if_pos h]
    by_cases h2 : (l.take i).any (gHit l s k v) = true
    · rw [if_pos h2, h2]; constructor
      · intro hc; omega
      · rintro ⟨_, hc⟩; cases hc
    · rw [if_neg h2]
      exact ⟨fun _ => ⟨h, by simpa using h2⟩, fun _ => by omega⟩
  · rw [if_neg h]
    exact ⟨fun hc => absurd hc h, fun hc => absurd hc.1 h⟩
theorem gMid_le (l : Arcs) (s : Int) (k i : Nat) (v : Int) : -1 ≤ gMid l s k i v ∧ gMid l s k i v ≤ k + 1 := by
  have := gT_le l s k v
  unfold gMid
  split
  · split <;> omega
  · omega
theorem gMid_hit {l : Arcs} {s : Int} {k i : Nat} (hi : i < l.length) (h1 : s ≤ (l.getD i (0, 0)).1) (h2 : gMid l s k i (l.getD i (0, 0)).1 < 0) (h3 : gT l s k (l.getD i (0, 0)).2 = k) (v : Int) :
    gMid l s k (i + 1) v = if v = (l.getD i (0, 0)).1 then ((k + 1 : Nat) : Int) else gMid l s k i v := by
  obtain ⟨h4, h5⟩ := gMid_neg.1 h2
  by_cases hv : v = (l.getD i (0, 0)).1
  · rw [if_pos hv]
    unfold gMid
    rw [hv, if_pos h4, if_pos]
    rw [take_succ_get l i (0, 0) hi, List.any_append]
    simp only [List.any_cons, List.any_nil, Bool.or_false, Bool.or_eq_true]
    right
    simp only [gHit, beq_self_eq_true, Bool.true_and, Bool.and_eq_true, decide_eq_true_eq, beq_iff_eq]
    exact ⟨h1, h3⟩
  · rw [if_neg hv]
    unfold gMid
    rw [take_succ_get l i (0, 0) hi, List.any_append]
    have : gHit l s k v (l.getD i (0, 0)) = false := by
      unfold gHit
      have : ((l.getD i (0, 0)).1 == v) = false := by simpa using fun hc => hv (Eq.symm hc)
      rw [this, Bool.false_and]
    simp only [List.any_cons, List.any_nil, Bool.or_false, this]
theorem gMid_miss {l : Arcs} {s : Int} {k i : Nat} (hi : i < l.length) (h : ¬ (s ≤ (l.getD i (0, 0)).1 ∧ gMid l s k i (l.getD i (0, 0)).1 < 0 ∧ gT l s k (l.getD i (0, 0)).2 = k)) (v : Int) :
    gMid l s k (i + 1) v = gMid l s k i v := by
  unfold gMid
  by_cases h4 : gT l s k v < 0
  · rw [if_pos h4, if_pos h4, take_succ_get l i (0, 0) hi, List.any_append]
    simp only [List.any_cons, List.any_nil, Bool.or_false]
    by_cases h5 : (l.take i).any (gHit l s k v) = true
    · rw [h5, Bool.true_or]
    · have h6 : gHit l s k v (l.getD i (0, 0)) = false := by
        rw [← Bool.not_eq_true]; intro hc
        simp only [gHit, Bool.and_eq_true, decide_eq_true_eq, beq_iff_eq] at hc
        obtain ⟨c1, c2, c3⟩ := hc
        subst c1
        exact h ⟨c2, gMid_neg.2 ⟨h4, by simpa using h5⟩, c3⟩
      rw [h6, Bool.or_false]
  · rw [if_neg h4, if_neg h4]
theorem gT_stop {l : Arcs} {s : Int} {k : Nat} (h : ∀ v, gT l s k v ≠ k) : ∀ (m : Nat) (v : Int), gT l s (k + m) v = gT l s k v := by
  have key : ∀ (m : Nat) (v : Int), wg l s (k + m) v = true → ∃ i, i < k ∧ wg l s i v = true := by
    intro m
    induction m with
    | zero =>
      intro v hv
      apply Classical.byContradiction; intro hc
      refine h v (low_eq.2 ⟨by omega, by omega, hv, fun i _ hi => ?_⟩)
      rw [← Bool.not_eq_true]; exact fun hw => hc ⟨i, hi, hw⟩
    | succ m ih =>
      intro v hv
      obtain ⟨h1, a, h2, h3, h4⟩ := wg_succ.1 (show wg l s ((k + m) + 1) v = true from hv)
      obtain ⟨i, h5, h6⟩ := ih _ h4
      have h7 : wg l s (i + 1) v = true := wg_succ.2 ⟨h1, a, h2, h3, h6⟩
      by_cases hik : i + 1 < k
      · exact ⟨_, hik, h7⟩
      · have : i + 1 = k := by omega
        subst this
        apply Classical.byContradiction; intro hc
        refine h v (low_eq.2 ⟨by omega, by omega, h7, fun i' _ hi => ?_⟩)
        rw [← Bool.not_eq_true]; exact fun hw => hc ⟨i', hi, hw⟩
  intro m v
  by_cases hn : gT l s k v < 0
  · rw [show gT l s k v = -1 from low_m1 hn]
    refine low_m1 (low_neg.2 fun i _ hi => ?_)
    rw [← Bool.not_eq_true]; intro hc
    have hneg := low_neg.1 hn
    by_cases hik : i < k + 1
    · rw [hneg i (by omega) (by omega)] at hc; cases hc
    · obtain ⟨j, h1, h2⟩ := key (i - k) v (by rw [show k + (i - k) = i by omega]; exact hc)
      rw [hneg j (by omega) (by omega)] at h2; cases h2
  · exact low_up _ (by omega) hn
/-- The distances of the code. -/
def gDist (l : Arcs) (s v : Int) : Int := gT l s 1000 v
theorem gDist_of {l : Arcs} {s : Int} {k : Nat} (hk : k ≤ 1000) (h : ∀ v, gT l s k v ≠ k) (v : Int) : gDist l s v = gT l s k v := by
  have := gT_stop h (1000 - k) v
  rwa [show k + (1000 - k) = 1000 by omega] at this
theorem gT_in {n : Int} {l : Arcs} (hr : inR n l) {s : Int} (hs : 0 ≤ s ∧ s < n) {k : Nat} {v : Int} (h : ¬ gT l s k v < 0) : 0 ≤ v ∧ v < n := by
  obtain ⟨j, hj⟩ := low_nat (p := fun d => wg l s d v) h
  exact wk_in hr hs (wg_wk (low_eq.1 hj).2.2.1)

/-- The distances of the reference, after k rounds. -/
def rT (l : Arcs) (t : Int) (k : Nat) (v : Int) : Int := low (fun d => wk l t d v) 1 k
def rHit (l : Arcs) (t : Int) (k : Nat) (a : Int × Int) : Bool := decide (rT l t k a.1 < 0) && (if k = 0 then a.2 == t else rT l t k a.2 == (k : Int))
def rFnd (l : Arcs) (t : Int) (k i : Nat) : List Int := ((l.take i).filter (rHit l t k)).map Prod.fst
theorem rT_zero (l : Arcs) (t v : Int) : rT l t 0 v = -1 := rfl
theorem rT_le (l : Arcs) (t : Int) (k : Nat) (v : Int) : -1 ≤ rT l t k v ∧ rT l t k v ≤ k := by
  unfold rT
  rcases low_cases (fun d => wk l t d v) k 1 with ⟨h1, _⟩ | ⟨i, h1, h2, h3, _⟩ <;> omega
theorem rT_next (l : Arcs) (t : Int) (k : Nat) (v : Int) : rT l t (k + 1) v = if v ∈ rFnd l t k l.length then ((k + 1 : Nat) : Int) else rT l t k v := by
  show low (fun d => wk l t d v) 1 (k + 1) = _
  rw [low_next]
  show (if rT l t k v < 0 then _ else rT l t k v) = _
  have hmem : v ∈ rFnd l t k l.length ↔ rT l t k v < 0 ∧ wk l t (k + 1) v = true := by
    unfold rFnd
    rw [List.take_length, wk_succ]
    simp only [List.mem_map, List.mem_filter, rHit, Bool.and_eq_true, decide_eq_true_eq]
    constructor
    · rintro ⟨a, ⟨h1, h2, h3⟩, rfl⟩
      refine ⟨h2, a, h1, rfl, ?_⟩
      by_cases hk : k = 0
      · subst hk; simpa [wk] using h3
      · rw [if_neg hk, beq_iff_eq] at h3
        exact (low_eq.1 h3).2.2.1
    · rintro ⟨h2, a, h1, rfl, h4⟩
      refine ⟨a, ⟨h1, h2, ?_⟩, rfl⟩
      by_cases hk : k = 0
      · subst hk; simpa [wk] using h4
      · rw [if_neg hk, beq_iff_eq]
        refine low_eq.2 ⟨by omega, by omega, h4, fun i hi1 hi => ?_⟩
        rw [← Bool.not_eq_true]; intro hc
        have h5 : wk l t (i + 1) a.1 = true := wk_succ.2 ⟨a, h1, rfl, hc⟩
        have := low_neg.1 h2 (i + 1) (by omega) (by omega)
        rw [h5] at this; cases this
  by_cases h : rT l t k v < 0
  · rw [if_pos h]
    by_cases h2 : wk l t (1 + k) v = true
    · rw [if_pos h2, if_pos (hmem.2 ⟨h, by rw [Nat.add_comm]; exact h2⟩), Nat.add_comm]
    · rw [if_neg h2, if_neg (fun hc => h2 (by rw [Nat.add_comm]; exact (hmem.1 hc).2))]
      exact (low_m1 (p := fun d => wk l t d v) h).symm
  · rw [if_neg h, if_neg (fun hc => h (hmem.1 hc).1)]
end Go.Proofs.Ytaiidcelopfjlaa
