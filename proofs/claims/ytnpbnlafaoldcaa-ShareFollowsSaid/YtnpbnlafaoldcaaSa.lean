/- What the functions of share and of its reference compute: plain definitions and their laws. No statement is claimed here. -/
import Derived.Test.YtnpbnlafaoldcaaLn
namespace Go.Proofs.Ytnpbnlafaoldcaa
open Go Go.Lft
set_option linter.unusedSimpArgs false

theorem sum_take_succ (xs : List Int) (k : Nat) (hk : k < xs.length) : (xs.take (k + 1)).sum = (xs.take k).sum + xs.getD k 0 := by
  rw [List.take_succ_eq_append_getElem hk, List.sum_append]; simp [hk]

/-- The error that New and Check return. -/
def chk (xs : List Int) : Int :=
  if xs.length < 1 ∨ 4 < xs.length then 1 else if ∃ i, i < xs.length ∧ (xs.getD i 0 < 0 ∨ 1000 < xs.getD i 0) then 1 else if xs.sum ≠ 1000 then 17 else 0

/-- The numbers from 0 to k - 1 are rates. -/
def ratesTo (xs : List Int) (k : Nat) : Prop := ∀ i, i < k → 0 ≤ xs.getD i 0 ∧ xs.getD i 0 ≤ 1000

theorem chk_len {xs : List Int} (h : xs.length < 1 ∨ 4 < xs.length) : chk xs = 1 := by unfold chk; rw [if_pos h]
theorem chk_bad {xs : List Int} {i : Nat} (h : i < xs.length) (hb : xs.getD i 0 < 0 ∨ 1000 < xs.getD i 0) : chk xs = 1 := by
  unfold chk; split
  · rfl
  · rw [if_pos ⟨i, h, hb⟩]
theorem chk_sum {xs : List Int} (h1 : 1 ≤ xs.length) (h2 : xs.length ≤ 4) (hr : ratesTo xs xs.length) : chk xs = if xs.sum ≠ 1000 then 17 else 0 := by
  unfold chk; rw [if_neg (by omega), if_neg]
  rintro ⟨i, hi, hb⟩; have := hr i hi; omega
theorem chk_ok {xs : List Int} (h : chk xs = 0) : 1 ≤ xs.length ∧ xs.length ≤ 4 ∧ ratesTo xs xs.length ∧ xs.sum = 1000 := by
  unfold chk at h
  split at h
  · cases h
  · split at h
    · cases h
    · rename_i h1 h2
      split at h
      · cases h
      · rename_i h3
        refine ⟨by omega, by omega, fun i hi => ?_, by omega⟩
        refine ⟨?_, ?_⟩
        · apply Int.not_lt.1; intro hb; exact h2 ⟨i, hi, .inl hb⟩
        · apply Int.not_lt.1; intro hb; exact h2 ⟨i, hi, .inr hb⟩
theorem ratesTo_sum {xs : List Int} : ∀ {k : Nat}, ratesTo xs k → k ≤ xs.length → 0 ≤ (xs.take k).sum ∧ (xs.take k).sum ≤ 1000 * k
  | 0, _, _ => by simp
  | k + 1, h, hk => by
    have := ratesTo_sum (k := k) (fun i hi => h i (by omega)) (by omega)
    have h2 := h k (by omega)
    rw [sum_take_succ xs k (by omega)]; omega
theorem ratesTo_succ {xs : List Int} {k : Nat} (h : ratesTo xs k) (h1 : 0 ≤ xs.getD k 0) (h2 : xs.getD k 0 ≤ 1000) : ratesTo xs (k + 1) := fun i hi => by
  rcases Nat.lt_succ_iff_lt_or_eq.1 hi with h3 | rfl
  · exact h i h3
  · exact ⟨h1, h2⟩

/-! ### One unit -/
/-- The rates of the first k outputs are owed to them too; and the first of these that is owed most. -/
def inner (R : List Int) : Nat → List Int → List Int × Nat
  | 0, O => (O, 0)
  | k + 1, O =>
    let (O', m) := inner R k O
    let O'' := O'.set k (O'.getD k 0 + R.getD k 0)
    (O'', if O''.getD m 0 < O''.getD k 0 then k else m)

theorem inner_len (R : List Int) : ∀ (k : Nat) (O : List Int), (inner R k O).1.length = O.length
  | 0, _ => rfl
  | k + 1, O => by simp [inner, inner_len R k O]
theorem inner_lt (R : List Int) : ∀ (k : Nat) (O : List Int), k ≤ O.length → 0 < O.length → (inner R k O).2 < O.length
  | 0, _, _, h => h
  | k + 1, O, hk, h => by
    have := inner_lt R k O (by omega) h
    simp only [inner]; split <;> omega
theorem getD_set (xs : List Int) (i j : Nat) (y : Int) (hi : i < xs.length) : (xs.set i y).getD j 0 = if i = j then y else xs.getD j 0 := by
  simp only [List.getD_eq_getElem?_getD, List.getElem?_set]
  split
  · simp [hi]
  · rfl
theorem inner_get (R : List Int) : ∀ (k : Nat) (O : List Int), k ≤ O.length → ∀ i, (inner R k O).1.getD i 0 = if i < k then O.getD i 0 + R.getD i 0 else O.getD i 0
  | 0, _, _, i => by simp [inner]
  | k + 1, O, hk, i => by
    have ih := inner_get R k O (by omega)
    simp only [inner]
    rw [getD_set _ _ _ _ (by rw [inner_len]; omega), ih, ih]
    by_cases h1 : k = i
    · subst h1; simp
    · by_cases h2 : i < k
      · simp [h1, h2, show i < k + 1 by omega]
      · simp [h1, h2, show ¬ i < k + 1 by omega]
/-- The one that is found is owed most. -/
theorem inner_most (R : List Int) : ∀ (k : Nat) (O : List Int), k ≤ O.length → (k ≠ 0 → (inner R k O).2 < k) ∧ ∀ i, i < k → (inner R k O).1.getD i 0 ≤ (inner R k O).1.getD (inner R k O).2 0
  | 0, _, _ => by simp
  | k + 1, O, hk => by
    obtain ⟨h1, h2⟩ := inner_most R k O (by omega)
    have hg := inner_get R (k + 1) O hk
    have hg' := inner_get R k O (by omega)
    have e1 : ∀ i, i < k → (inner R (k + 1) O).1.getD i 0 = (inner R k O).1.getD i 0 := fun i hi => by rw [hg, hg']; simp [hi, show i < k + 1 by omega]
    have e2 : (inner R (k + 1) O).2 = if (inner R (k + 1) O).1.getD (inner R k O).2 0 < (inner R (k + 1) O).1.getD k 0 then k else (inner R k O).2 := rfl
    by_cases hk0 : k = 0
    · subst hk0
      have : (inner R (0 + 1) O).2 = 0 := by rw [e2]; simp [inner]
      rw [this]
      exact ⟨fun _ => by omega, fun i hi => by rw [show i = 0 by omega]; exact Int.le_refl _⟩
    · have hm := h1 hk0
      rw [e2]
      split
      · rename_i hlt
        refine ⟨fun _ => by omega, fun i hi => ?_⟩
        rcases Nat.lt_succ_iff_lt_or_eq.1 hi with h3 | rfl
        · have := h2 i h3; rw [e1 i h3]; rw [e1 _ hm] at hlt; omega
        · exact Int.le_refl _
      · rename_i hlt
        refine ⟨fun _ => by omega, fun i hi => ?_⟩
        rcases Nat.lt_succ_iff_lt_or_eq.1 hi with h3 | rfl
        · have := h2 i h3; rw [e1 i h3, e1 _ hm]; exact this
        · omega

/-- One more unit goes to the output that is owed most. -/
def unit (R : List Int) (st : List Int × List Int) : List Int × List Int :=
  let r := inner R R.length st.2
  (st.1.set r.2 (st.1.getD r.2 0 + 1), r.1.set r.2 (r.1.getD r.2 0 - 1000))
def units (R : List Int) : Nat → List Int × List Int → List Int × List Int
  | 0, st => st
  | k + 1, st => unit R (units R k st)
/-- The parts of n units, and what is owed then. -/
def nextF (R O : List Int) (n : Int) : List Int × List Int := units R (n % 1000).toNat (R.map (n / 1000 * ·), O)

/-- What holds between calls. -/
structure Inv (R O : List Int) : Prop where
  ok : chk R = 0
  len : O.length = R.length
  sum : O.sum = 0
  low : ∀ i, i < O.length → -1000 < O.getD i 0

theorem sum_set (xs : List Int) : ∀ (i : Nat) (y : Int), i < xs.length → (xs.set i y).sum = xs.sum - xs.getD i 0 + y := by
  induction xs with
  | nil => intro i y h; simp at h
  | cons x xs ih =>
    intro i y h
    cases i with
    | zero => simp; omega
    | succ i => simp [List.set_cons_succ] ; rw [ih i y (by simpa using h)]; simp only [List.getD_eq_getElem?_getD]; omega
theorem sum_le {xs : List Int} {m : Int} (h : ∀ i, i < xs.length → xs.getD i 0 ≤ m) : xs.sum ≤ m * xs.length := by
  induction xs with
  | nil => simp
  | cons x xs ih =>
    have h0 := h 0 (by simp)
    have := ih fun i hi => by have := h (i + 1) (by simpa using hi); simpa using this
    simp only [List.sum_cons, List.length_cons]
    simp at h0
    rw [show ((xs.length + 1 : Nat) : Int) = xs.length + 1 by omega, Int.mul_add]; omega
theorem sum_ge {xs : List Int} {m : Int} (h : ∀ i, i < xs.length → m ≤ xs.getD i 0) : m * xs.length ≤ xs.sum := by
  induction xs with
  | nil => simp
  | cons x xs ih =>
    have h0 := h 0 (by simp)
    have := ih fun i hi => by have := h (i + 1) (by simpa using hi); simpa using this
    simp only [List.sum_cons, List.length_cons]
    simp at h0
    rw [show ((xs.length + 1 : Nat) : Int) = xs.length + 1 by omega, Int.mul_add]; omega
theorem inner_sum (R : List Int) : ∀ (k : Nat) (O : List Int), k ≤ O.length → k ≤ R.length → (inner R k O).1.sum = O.sum + (R.take k).sum
  | 0, _, _, _ => by simp [inner]
  | k + 1, O, h1, h2 => by
    simp only [inner]
    rw [sum_set _ _ _ (by rw [inner_len]; omega), inner_sum R k O (by omega) (by omega), sum_take_succ R k (by omega)]; omega

/-- An entry is not larger than the sum, as each other one is more than -1000. -/
theorem high_of {O : List Int} (hl : ∀ i, i < O.length → -1000 < O.getD i 0) {i : Nat} (hi : i < O.length) : O.getD i 0 ≤ O.sum + 1000 * (O.length - 1) := by
  have h1 : ((O.set i (-1000)).sum) ≥ -1000 * (O.set i (-1000)).length := sum_ge fun j hj => by
    rw [getD_set _ _ _ _ hi]; split
    · omega
    · have := hl j (by simpa using hj); omega
  rw [sum_set _ _ _ hi, List.length_set] at h1
  omega

theorem Inv.start {R : List Int} (h : chk R = 0) : Inv R (List.replicate R.length 0) :=
  ⟨h, by simp, by generalize R.length = n; induction n with | zero => rfl | succ n ih => simp [List.replicate_succ, ih], fun i hi => by
    have : (List.replicate R.length (0 : Int)).getD i 0 = 0 := by simp [List.getElem?_replicate]; split <;> rfl
    rw [this]; omega⟩

/-- After a unit that holds too; what each got and is owed follows its rate. -/
theorem Inv.unit {R O p : List Int} (hi : Inv R O) (hp : p.length = R.length) :
    Inv R (Go.Proofs.Ytnpbnlafaoldcaa.unit R (p, O)).2 ∧ (Go.Proofs.Ytnpbnlafaoldcaa.unit R (p, O)).1.length = R.length ∧ (Go.Proofs.Ytnpbnlafaoldcaa.unit R (p, O)).1.sum = p.sum + 1 ∧
      (∀ i, i < R.length → p.getD i 0 ≤ (Go.Proofs.Ytnpbnlafaoldcaa.unit R (p, O)).1.getD i 0 ∧ (Go.Proofs.Ytnpbnlafaoldcaa.unit R (p, O)).1.getD i 0 ≤ p.getD i 0 + 1 ∧ 1000 * (Go.Proofs.Ytnpbnlafaoldcaa.unit R (p, O)).1.getD i 0 + (Go.Proofs.Ytnpbnlafaoldcaa.unit R (p, O)).2.getD i 0 = 1000 * p.getD i 0 + O.getD i 0 + R.getD i 0) := by
  obtain ⟨hok, hlen, hsum, hlow⟩ := hi
  obtain ⟨r1, r2, r3, r4⟩ := chk_ok hok
  have hil := inner_len R R.length O
  obtain ⟨hm1, hm2⟩ := inner_most R R.length O (by omega)
  have hm := hm1 (by omega)
  have hg := inner_get R R.length O (by omega)
  have hs := inner_sum R R.length O (by omega) (by omega)
  rw [List.take_length, hsum, r4] at hs
  simp only [Go.Proofs.Ytnpbnlafaoldcaa.unit]
  generalize hr : inner R R.length O = r at hil hm1 hm2 hm hg hs
  obtain ⟨O', m⟩ := r
  simp only at hil hm1 hm2 hm hg hs ⊢
  have hmax : 0 < O'.getD m 0 := by
    apply Int.not_le.1; intro hle
    have := sum_le (xs := O') (m := 0) fun i hi => by have := hm2 i (by omega); omega
    omega
  refine ⟨⟨hok, by simp; omega, ?_, fun i hi => ?_⟩, by simpa using hp, ?_, fun i hi => ?_⟩
  · rw [sum_set _ _ _ (by omega), hs]; omega
  · simp at hi
    rw [getD_set _ _ _ _ (by omega)]
    split
    · omega
    · have h1 := hlow i (by omega); have h2 := r3 i (by omega); rw [hg i, if_pos (by omega)]; omega
  · rw [sum_set _ _ _ (by omega)]; omega
  · have h2 := r3 i hi
    rw [getD_set _ _ _ _ (by omega), getD_set _ _ _ _ (by omega), hg, hg, if_pos hm, if_pos hi]
    split
    · rename_i h; subst h; omega
    · omega

/-- After k units. -/
theorem Inv.units {R O p : List Int} (hi : Inv R O) (hp : p.length = R.length) : ∀ k : Nat,
    Inv R (Go.Proofs.Ytnpbnlafaoldcaa.units R k (p, O)).2 ∧ (Go.Proofs.Ytnpbnlafaoldcaa.units R k (p, O)).1.length = R.length ∧ (Go.Proofs.Ytnpbnlafaoldcaa.units R k (p, O)).1.sum = p.sum + k ∧
      (∀ i, i < R.length → p.getD i 0 ≤ (Go.Proofs.Ytnpbnlafaoldcaa.units R k (p, O)).1.getD i 0 ∧ (Go.Proofs.Ytnpbnlafaoldcaa.units R k (p, O)).1.getD i 0 ≤ p.getD i 0 + k ∧ 1000 * (Go.Proofs.Ytnpbnlafaoldcaa.units R k (p, O)).1.getD i 0 + (Go.Proofs.Ytnpbnlafaoldcaa.units R k (p, O)).2.getD i 0 = 1000 * p.getD i 0 + O.getD i 0 + k * R.getD i 0)
  | 0 => ⟨hi, hp, by simp [Go.Proofs.Ytnpbnlafaoldcaa.units], fun i hi => by simp [Go.Proofs.Ytnpbnlafaoldcaa.units]⟩
  | k + 1 => by
    obtain ⟨h1, h2, h3, h4⟩ := Inv.units hi hp k
    simp only [Go.Proofs.Ytnpbnlafaoldcaa.units]
    generalize Go.Proofs.Ytnpbnlafaoldcaa.units R k (p, O) = st at h1 h2 h3 h4 ⊢
    obtain ⟨p1, O1⟩ := st
    obtain ⟨g1, g2, g3, g4⟩ := Inv.unit h1 h2
    refine ⟨g1, g2, by rw [g3, h3]; simp; omega, fun i hi => ?_⟩
    have := g4 i hi; have := h4 i hi
    simp only at *
    have : ((k + 1 : Nat) : Int) * R.getD i 0 = k * R.getD i 0 + R.getD i 0 := by rw [show ((k + 1 : Nat) : Int) = k + 1 by omega, Int.add_mul]; omega
    omega

theorem map_sum (R : List Int) (c : Int) : (R.map (c * ·)).sum = c * R.sum := by
  induction R with
  | nil => simp
  | cons x xs ih => simp [ih, Int.mul_add]
theorem map_get (R : List Int) (c : Int) (i : Nat) : (R.map (c * ·)).getD i 0 = c * R.getD i 0 := by
  simp only [List.getD_eq_getElem?_getD, List.getElem?_map]
  cases R[i]? <;> simp

/-- What a call of Next returns, in full. -/
theorem next_law {R O : List Int} (hi : Inv R O) {n : Int} (h0 : 0 ≤ n) : Inv R (nextF R O n).2 ∧ (nextF R O n).1.length = R.length ∧ (nextF R O n).1.sum = n ∧
    (∀ i, i < R.length → 0 ≤ (nextF R O n).1.getD i 0 ∧ (nextF R O n).1.getD i 0 ≤ n ∧ 1000 * (nextF R O n).1.getD i 0 + (nextF R O n).2.getD i 0 = O.getD i 0 + n * R.getD i 0) := by
  obtain ⟨r1, r2, r3, r4⟩ := chk_ok hi.ok
  obtain ⟨h1, h2, h3, h4⟩ := Inv.units hi (p := R.map (n / 1000 * ·)) (by simp) (n % 1000).toNat
  refine ⟨h1, h2, ?_, fun i hi => ?_⟩
  · simp only [nextF]; rw [h3, map_sum, r4]; omega
  · have := h4 i hi
    have hr := r3 i hi
    rw [map_get] at this
    simp only [nextF]
    have hd : 0 ≤ n / 1000 := by omega
    have e1 : 0 ≤ n / 1000 * R.getD i 0 := Int.mul_nonneg hd hr.1
    have e2 : n / 1000 * R.getD i 0 ≤ n / 1000 * 1000 := Int.mul_le_mul_of_nonneg_left hr.2 hd
    have e3 : n * R.getD i 0 = 1000 * (n / 1000 * R.getD i 0) + (n % 1000).toNat * R.getD i 0 := by
      rw [← Int.mul_assoc, ← Int.add_mul]; congr 1; omega
    omega
end Go.Proofs.Ytnpbnlafaoldcaa
