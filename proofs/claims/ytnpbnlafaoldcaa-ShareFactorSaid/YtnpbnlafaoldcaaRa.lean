/- The method of the largest remainder: plain definitions and lemmas; no statement is claimed here. -/
import Derived.Test.YtnpbnlafaoldcaaFns
namespace Go.Proofs.Ytnpbnlafaoldcaa
open Go Go.Lft
set_option linter.unusedSimpArgs false
set_option linter.unusedVariables false

theorem sum_seti : ∀ (l : List Int) (i : Nat) (y : Int), i < l.length → (l.set i y).sum = l.sum - l.getD i 0 + y
  | [], i, y, h => by simp at h
  | a :: l, 0, y, h => by simp only [List.set_cons_zero, List.sum_cons, List.getD_cons_zero]; omega
  | a :: l, i + 1, y, h => by
    simp only [List.set_cons_succ, List.sum_cons, List.getD_cons_succ]
    rw [sum_seti l i y (by simpa using h)]; omega
theorem getD_seti (l : List Int) (i j : Nat) (y : Int) : (l.set i y).getD j 0 = if i = j ∧ j < l.length then y else l.getD j 0 := by
  simp only [List.getD_eq_getElem?_getD, List.getElem?_set]
  by_cases h : i = j
  · subst h
    by_cases h2 : i < l.length
    · simp [h2]
    · simp [h2]
  · simp [h]
theorem sum_mulc (t : Int) : ∀ (l : List Int), (l.map fun w => t * w).sum = t * l.sum
  | [] => by simp
  | a :: l => by simp only [List.map_cons, List.sum_cons, sum_mulc t l, Int.mul_add]
theorem sum_divmod (t W : Int) : ∀ (l : List Int), W * (l.map fun w => t * w / W).sum + (l.map fun w => t * w % W).sum = t * l.sum
  | [] => by simp
  | a :: l => by
    have ih := sum_divmod t W l
    have h := Int.mul_ediv_add_emod (t * a) W
    simp only [List.map_cons, List.sum_cons, Int.mul_add]
    omega
theorem sum_point (c : Int) : ∀ (r p f : List Int), r.length = p.length → p.length = f.length → (∀ i, i < r.length → r.getD i 0 ≤ c * (p.getD i 0 - f.getD i 0)) → r.sum ≤ c * (p.sum - f.sum)
  | [], [], [], _, _, _ => by simp
  | a :: r, b :: p, d :: f, h1, h2, h => by
    have ih := sum_point c r p f (by simpa using h1) (by simpa using h2) fun i hi => by have := h (i + 1) (by simpa using hi); simpa using this
    have h0 := h 0 (by simp)
    simp only [List.getD_cons_zero] at h0
    simp only [List.sum_cons]
    have e : c * (b + p.sum - (d + f.sum)) = c * (b - d) + c * (p.sum - f.sum) := by rw [← Int.mul_add]; congr 1; omega
    omega
  | [], b :: p, _, h1, _, _ => by simp at h1
  | a :: r, [], _, h1, _, _ => by simp at h1
  | _, [], d :: f, _, h2, _ => by simp at h2
  | _, b :: p, [], _, h2, _ => by simp at h2
theorem sum_le_p : ∀ (f p : List Int), f.length = p.length → (∀ l, l < f.length → f.getD l 0 ≤ p.getD l 0) → f.sum ≤ p.sum
  | [], [], _, _ => by simp
  | a :: f, b :: p, hl, h => by
    have ih := sum_le_p f p (by simpa using hl) fun l hl => by have := h (l + 1) (by simpa using hl); simpa using this
    have h0 := h 0 (by simp)
    simp only [List.getD_cons_zero] at h0
    simp only [List.sum_cons]; omega
  | [], b :: p, hl, _ => by simp at hl
  | a :: f, [], hl, _ => by simp at hl
theorem sum_lt_p : ∀ (f p : List Int) (i : Nat), f.length = p.length → (∀ l, l < f.length → f.getD l 0 ≤ p.getD l 0) → i < f.length → f.getD i 0 < p.getD i 0 → f.sum < p.sum
  | [], _, i, _, _, hi, _ => by simp at hi
  | a :: f, b :: p, 0, hl, h, _, h2 => by
    have ih := sum_le_p f p (by simpa using hl) fun l hl => by have := h (l + 1) (by simpa using hl); simpa using this
    simp only [List.getD_cons_zero] at h2
    simp only [List.sum_cons]; omega
  | a :: f, b :: p, i + 1, hl, h, hi, h2 => by
    have ih := sum_lt_p f p i (by simpa using hl) (fun l hl => by have := h (l + 1) (by simpa using hl); simpa using this) (by simpa using hi) (by simpa using h2)
    have h0 := h 0 (by simp)
    simp only [List.getD_cons_zero] at h0
    simp only [List.sum_cons]; omega
  | a :: f, [], _, hl, _, _, _ => by simp at hl
theorem sum_le_c (c : Int) : ∀ (l : List Int), (∀ x ∈ l, x ≤ c) → l.sum ≤ c * l.length
  | [], _ => by simp
  | a :: l, h => by
    have := sum_le_c c l fun x hx => h x (by simp [hx])
    have h0 := h a (by simp)
    simp only [List.sum_cons, List.length_cons]
    rw [show ((l.length + 1 : Nat) : Int) = (l.length : Int) + 1 by omega, Int.mul_add]; omega
theorem sum_ge0 : ∀ (l : List Int), (∀ x ∈ l, 0 ≤ x) → 0 ≤ l.sum
  | [], _ => by simp
  | a :: l, h => by
    have := sum_ge0 l fun x hx => h x (by simp [hx])
    have h0 := h a (by simp)
    simp only [List.sum_cons]; omega
theorem eq_getD {a b : List Int} (hl : a.length = b.length) (h : ∀ i, i < a.length → a.getD i 0 = b.getD i 0) : a = b := by
  apply List.ext_getElem hl
  intro i h1 h2
  have := h i h1
  simpa [List.getD_eq_getElem?_getD, h1, h2] using this
theorem getD_map (f : Int → Int) (l : List Int) (i : Nat) (h : i < l.length) : (l.map f).getD i 0 = f (l.getD i 0) := by
  simp [List.getD_eq_getElem?_getD, h]
theorem mem_getD {l : List Int} {i : Nat} (h : i < l.length) : l.getD i 0 ∈ l := by simp [List.getD_eq_getElem?_getD, h]
theorem getD_mem {l : List Int} {x : Int} (h : x ∈ l) : ∃ i, i < l.length ∧ l.getD i 0 = x := by
  obtain ⟨k, hk, rfl⟩ := List.mem_iff_getElem.1 h
  exact ⟨k, hk, by simp [List.getD_eq_getElem?_getD, hk]⟩

/-! ### The first greatest -/
def bestN (q : List Int) : Nat → Nat
  | 0 => 0
  | k + 1 => if q.getD (bestN q k) 0 < q.getD k 0 then k else bestN q k
theorem bestN_lt (q : List Int) : ∀ k, 0 < k → bestN q k < k
  | 1, _ => by simp [bestN]
  | k + 2, _ => by
    have := bestN_lt q (k + 1) (by omega)
    rw [bestN]; split <;> omega
theorem bestN_one (q : List Int) : bestN q 1 = 0 := by simp [bestN]
theorem bestN_max (q : List Int) : ∀ k, (∀ i, i < k → q.getD i 0 ≤ q.getD (bestN q k) 0) ∧ ∀ i, i < bestN q k → q.getD i 0 < q.getD (bestN q k) 0
  | 0 => ⟨fun i hi => by omega, fun i hi => by simp [bestN] at hi⟩
  | k + 1 => by
    obtain ⟨h1, h2⟩ := bestN_max q k
    rw [bestN]
    split
    · rename_i h
      refine ⟨fun i hi => ?_, fun i hi => ?_⟩
      · rcases Nat.lt_succ_iff_lt_or_eq.1 hi with h3 | rfl
        · have := h1 i h3; omega
        · exact Int.le_refl _
      · have := h1 i hi; omega
    · rename_i h
      refine ⟨fun i hi => ?_, h2⟩
      rcases Nat.lt_succ_iff_lt_or_eq.1 hi with h3 | rfl
      · exact h1 i h3
      · omega
def bestI (q : List Int) : Nat := bestN q q.length
theorem bestI_uniq {q : List Int} {b : Nat} (hb : b < q.length) (h1 : ∀ i, i < q.length → q.getD i 0 ≤ q.getD b 0) (h2 : ∀ i, i < b → q.getD i 0 < q.getD b 0) : bestI q = b := by
  obtain ⟨g1, g2⟩ := bestN_max q q.length
  have g3 := bestN_lt q q.length (by omega)
  unfold bestI
  rcases Nat.lt_trichotomy (bestN q q.length) b with h | h | h
  · have := h2 _ h; have := g1 b hb; omega
  · exact h
  · have := g2 b h; have := h1 _ g3; omega

/-! ### Rounds -/
def inc (p : List Int) (i : Nat) : List Int := p.set i (p.getD i 0 + 1)
theorem inc_len (p : List Int) (i : Nat) : (inc p i).length = p.length := List.length_set
def rd (p0 q0 : List Int) : Nat → List Int × List Int
  | 0 => (p0, q0)
  | k + 1 => (inc (rd p0 q0 k).1 (bestI (rd p0 q0 k).2), (rd p0 q0 k).2.set (bestI (rd p0 q0 k).2) (-1))
theorem rd_len (p0 q0 : List Int) : ∀ k, (rd p0 q0 k).1.length = p0.length ∧ (rd p0 q0 k).2.length = q0.length
  | 0 => ⟨rfl, rfl⟩
  | k + 1 => by
    have := rd_len p0 q0 k
    simp only [rd, inc_len, List.length_set]; exact this

/-- i comes before j. -/
def ltR (q : List Int) (i j : Nat) : Prop := q.getD j 0 < q.getD i 0 ∨ (q.getD i 0 = q.getD j 0 ∧ i < j)
/-- What k rounds leave. -/
structure RdI (p0 q0 : List Int) (k : Nat) (p q : List Int) : Prop where
  l1 : p.length = p0.length
  l2 : q.length = q0.length
  two : ∀ i, i < p0.length → (q.getD i 0 = -1 ∧ p.getD i 0 = p0.getD i 0 + 1) ∨ (q.getD i 0 = q0.getD i 0 ∧ p.getD i 0 = p0.getD i 0)
  sum : p.sum = p0.sum + k
  low : ∀ i j, i < p0.length → j < p0.length → q.getD i 0 = -1 → q.getD j 0 ≠ -1 → ltR q0 i j
theorem rd_inv {p0 q0 : List Int} (hl : p0.length = q0.length) (hq : ∀ i, i < q0.length → 0 ≤ q0.getD i 0) : ∀ k, k ≤ p0.length → RdI p0 q0 k (rd p0 q0 k).1 (rd p0 q0 k).2
  | 0, _ => ⟨rfl, rfl, fun i _ => .inr ⟨rfl, rfl⟩, by simp [rd], fun i j hi _ h => by have := hq i (by omega); simp only [rd] at h; omega⟩
  | k + 1, hk => by
    have ih := rd_inv hl hq k (by omega)
    obtain ⟨i1, i2, i3, i4, i5⟩ := ih
    simp only [rd]
    generalize (rd p0 q0 k).1 = p at *
    generalize (rd p0 q0 k).2 = q at *
    obtain ⟨g1, g2⟩ := bestN_max q q.length
    have g3 := bestN_lt q q.length (by omega)
    change ∀ i, i < q.length → q.getD i 0 ≤ q.getD (bestI q) 0 at g1
    change ∀ i, i < bestI q → q.getD i 0 < q.getD (bestI q) 0 at g2
    change bestI q < q.length at g3
    generalize bestI q = b at *
    have hbu : q.getD b 0 ≠ -1 := by
      intro hc
      have hall : ∀ i, i < p0.length → p.getD i 0 = p0.getD i 0 + 1 := fun i hi => by
        rcases i3 i hi with ⟨_, h⟩ | ⟨h, _⟩
        · exact h
        · have := g1 i (by omega); have := hq i (by omega); omega
      have e : p = p0.map fun x => x + 1 := eq_getD (by simp [i1]) fun i hi => by rw [getD_map _ _ _ (by omega), hall i (by omega)]
      have e2 : ∀ l : List Int, (l.map fun x => x + 1).sum = l.sum + l.length := fun l => by
        induction l with
        | nil => rfl
        | cons a l ih => simp only [List.map_cons, List.sum_cons, List.length_cons, ih]; omega
      rw [e, e2] at i4; omega
    have hbq : q.getD b 0 = q0.getD b 0 ∧ p.getD b 0 = p0.getD b 0 := (i3 b (by omega)).resolve_left fun h => hbu h.1
    refine ⟨by rw [inc_len, i1], by rw [List.length_set, i2], fun i hi => ?_, ?_, fun i j hi hj h1 h2 => ?_⟩
    · unfold inc
      rw [getD_seti, getD_seti]
      by_cases hib : b = i
      · subst hib
        rw [if_pos ⟨rfl, by omega⟩, if_pos ⟨rfl, by omega⟩]
        exact .inl ⟨rfl, by rw [hbq.2]⟩
      · rw [if_neg (fun h => hib h.1), if_neg (fun h => hib h.1)]
        exact i3 i hi
    · unfold inc
      rw [sum_seti _ _ _ (by omega), i4]; omega
    · rw [getD_seti] at h1 h2
      have hjb : ¬ b = j := by
        intro hc; rw [if_pos ⟨hc, by omega⟩] at h2; exact h2 rfl
      rw [if_neg (fun h => hjb h.1)] at h2
      have hjq : q.getD j 0 = q0.getD j 0 := ((i3 j hj).resolve_left fun h => h2 h.1).1
      by_cases hib : b = i
      · subst hib
        have h3 := g1 j (by omega)
        by_cases h4 : q.getD j 0 = q.getD b 0
        · refine .inr ⟨by omega, ?_⟩
          apply Nat.lt_of_not_le; intro hc
          have := g2 j (by omega); omega
        · exact .inl (by omega)
      · rw [if_neg (fun h => hib h.1)] at h1
        exact i5 i j hi hj h1 h2

/-! ### Parts -/
def quos (t : Int) (ws : List Int) : List Int := ws.map fun w => t * w / ws.sum
def rems (t : Int) (ws : List Int) : List Int := ws.map fun w => t * w % ws.sum
def leftN (t : Int) (ws : List Int) : Nat := (t - (quos t ws).sum).toNat
def partsR (t : Int) (ws : List Int) : List Int := (rd (quos t ws) (rems t ws) (leftN t ws)).1
theorem quos_len (t : Int) (ws : List Int) : (quos t ws).length = ws.length := by simp [quos]
theorem rems_len (t : Int) (ws : List Int) : (rems t ws).length = ws.length := by simp [rems]

/-- What Split takes. -/
structure SpOk (t : Int) (ws : List Int) : Prop where
  t0 : 0 ≤ t
  w0 : ∀ w ∈ ws, 0 ≤ w
  ne : ws ≠ []
  pos : ws.sum = 0 → t = 0
theorem SpOk.sum0 {t : Int} {ws : List Int} (h : SpOk t ws) : 0 ≤ ws.sum := sum_ge0 ws h.w0
theorem rems_bd {t : Int} {ws : List Int} (h : SpOk t ws) : ∀ i, i < ws.length → 0 ≤ (rems t ws).getD i 0 ∧ (0 < ws.sum → (rems t ws).getD i 0 < ws.sum) := fun i hi => by
  unfold rems
  rw [getD_map _ _ _ hi]
  have h0 := h.sum0
  by_cases hz : ws.sum = 0
  · rw [hz, h.pos hz]; simp
  · exact ⟨Int.emod_nonneg _ hz, fun hp => Int.emod_lt_of_pos _ hp⟩
theorem quos_nn {t : Int} {ws : List Int} (h : SpOk t ws) : ∀ i, i < ws.length → 0 ≤ (quos t ws).getD i 0 := fun i hi => by
  unfold quos
  rw [getD_map _ _ _ hi]
  exact Int.ediv_nonneg (Int.mul_nonneg h.t0 (h.w0 _ (mem_getD hi))) h.sum0
theorem left_eq {t : Int} {ws : List Int} (h : SpOk t ws) : ws.sum * (t - (quos t ws).sum) = (rems t ws).sum := by
  have := sum_divmod t ws.sum ws
  unfold quos rems
  rw [Int.mul_sub, Int.mul_comm ws.sum t]; omega
theorem left_bd {t : Int} {ws : List Int} (h : SpOk t ws) : 0 ≤ t - (quos t ws).sum ∧ t - (quos t ws).sum < ws.length := by
  have h0 := h.sum0
  have hl : 0 < ws.length := List.length_pos_iff.2 h.ne
  by_cases hz : ws.sum = 0
  · have : (quos t ws).sum = 0 := by
      unfold quos
      rw [h.pos hz]
      have : ∀ (l : List Int) (W : Int), (l.map fun w => (0 : Int) * w / W).sum = 0 := fun l W => by
        induction l with
        | nil => rfl
        | cons a l ih => simp only [List.map_cons, List.sum_cons, ih]; simp
      exact this ws _
    rw [this, h.pos hz]; omega
  · have e := left_eq h
    have r0 : 0 ≤ (rems t ws).sum := sum_ge0 _ fun x hx => by
      obtain ⟨i, h1, rfl⟩ := getD_mem hx
      exact (rems_bd h i (by rwa [rems_len] at h1)).1
    have r1 : (rems t ws).sum ≤ (ws.sum - 1) * ws.length := by
      have := sum_le_c (ws.sum - 1) (rems t ws) fun x hx => by
        obtain ⟨i, h1, rfl⟩ := getD_mem hx
        have := (rems_bd h i (by rwa [rems_len] at h1)).2 (by omega); omega
      rwa [rems_len] at this
    generalize t - (quos t ws).sum = d at *
    constructor
    · apply Int.not_lt.1; intro hc
      have : ws.sum * d ≤ ws.sum * (-1) := Int.mul_le_mul_of_nonneg_left (by omega) h0
      omega
    · apply Int.lt_of_not_ge; intro hc
      have : ws.sum * ws.length ≤ ws.sum * d := Int.mul_le_mul_of_nonneg_left hc h0
      rw [Int.sub_mul] at r1; omega
/-- What Split returns. -/
structure SpR (t : Int) (ws p : List Int) : Prop where
  len : p.length = ws.length
  sum : p.sum = t
  two : ∀ i, i < ws.length → p.getD i 0 = t * ws.getD i 0 / ws.sum ∨ (p.getD i 0 = t * ws.getD i 0 / ws.sum + 1 ∧ 0 < t * ws.getD i 0 % ws.sum)
  low : ∀ i j, i < ws.length → j < ws.length → p.getD i 0 = t * ws.getD i 0 / ws.sum + 1 → p.getD j 0 = t * ws.getD j 0 / ws.sum → t * ws.getD j 0 % ws.sum < t * ws.getD i 0 % ws.sum ∨ (t * ws.getD i 0 % ws.sum = t * ws.getD j 0 % ws.sum ∧ i < j)
theorem partsR_ok {t : Int} {ws : List Int} (h : SpOk t ws) : SpR t ws (partsR t ws) := by
  obtain ⟨d0, d1⟩ := left_bd h
  have hk : leftN t ws ≤ (quos t ws).length := by rw [quos_len]; unfold leftN; omega
  have hq : ∀ i, i < (rems t ws).length → 0 ≤ (rems t ws).getD i 0 := fun i hi => (rems_bd h i (by rwa [rems_len] at hi)).1
  obtain ⟨i1, i2, i3, i4, i5⟩ := rd_inv (p0 := quos t ws) (q0 := rems t ws) (by rw [quos_len, rems_len]) hq _ hk
  rw [quos_len] at i1 i3 i5
  rw [rems_len] at i2
  have e1 : ∀ i, i < ws.length → (quos t ws).getD i 0 = t * ws.getD i 0 / ws.sum := fun i hi => getD_map _ _ _ hi
  have e2 : ∀ i, i < ws.length → (rems t ws).getD i 0 = t * ws.getD i 0 % ws.sum := fun i hi => getD_map _ _ _ hi
  unfold partsR
  generalize (rd (quos t ws) (rems t ws) (leftN t ws)).1 = p at *
  generalize (rd (quos t ws) (rems t ws) (leftN t ws)).2 = q at *
  have hps : p.sum = t := by rw [i4]; unfold leftN; omega
  refine ⟨i1, hps, fun i hi => ?_, fun i j hi hj h1 h2 => ?_⟩
  · rcases i3 i hi with ⟨g1, g2⟩ | ⟨g1, g2⟩
    · refine .inr ⟨by rw [g2, e1 i hi], ?_⟩
      rw [← e2 i hi]
      have hp := (rems_bd h i hi).1
      apply Int.lt_of_not_ge; intro hc
      have hd : 0 < t - (quos t ws).sum := by
        have := sum_lt_p (quos t ws) p i (by rw [quos_len, i1]) (fun l hl => by
          rcases i3 l (by rwa [quos_len] at hl) with ⟨_, g⟩ | ⟨_, g⟩ <;> omega) (by rw [quos_len]; exact hi) (by omega)
        omega
      have hW : 0 < ws.sum := by
        apply Int.lt_of_not_ge; intro hc2
        have h0 := h.sum0
        have ht := h.pos (by omega)
        have : 0 ≤ (quos t ws).sum := sum_ge0 _ fun x hx => by
          obtain ⟨i, h1, rfl⟩ := getD_mem hx
          exact quos_nn h i (by rwa [quos_len] at h1)
        omega
      have hsum := sum_point (ws.sum - 1) (rems t ws) p (quos t ws) (by rw [rems_len, i1]) (by rw [i1, quos_len]) fun l hl => by
        have hl : l < ws.length := by rwa [rems_len] at hl
        have hb := rems_bd h l hl
        rcases i3 l hl with ⟨f1, f2⟩ | ⟨f1, f2⟩
        · rw [f2, show (quos t ws).getD l 0 + 1 - (quos t ws).getD l 0 = 1 by omega, Int.mul_one]; have := hb.2 hW; omega
        · rw [f2, Int.sub_self, Int.mul_zero]
          have := i5 i l hi hl g1 (by omega)
          unfold ltR at this; omega
      rw [← left_eq h, hps] at hsum
      rw [Int.sub_mul] at hsum; omega
    · exact .inl (by rw [g2, e1 i hi])
  · rw [← e1 i hi] at h1
    rw [← e1 j hj] at h2
    have a1 : q.getD i 0 = -1 := by
      rcases i3 i hi with ⟨g1, g2⟩ | ⟨g1, g2⟩
      · exact g1
      · omega
    have a2 : q.getD j 0 ≠ -1 := by
      rcases i3 j hj with ⟨g1, g2⟩ | ⟨g1, g2⟩
      · omega
      · have := (rems_bd h j hj).1; omega
    have := i5 i j hi hj a1 a2
    unfold ltR at this
    rw [e2 i hi, e2 j hj] at this; exact this
end Go.Proofs.Ytnpbnlafaoldcaa
