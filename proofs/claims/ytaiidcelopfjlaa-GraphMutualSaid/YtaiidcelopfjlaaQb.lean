/- The priority queue: heaps as lists. Plain lemmas; no statement is claimed here. -/
import Derived.Test.YtaiidcelopfjlaaQa
namespace Go.Proofs.Ytaiidcelopfjlaa
open Go Go.Lft
set_option linter.unusedSimpArgs false
set_option linter.unusedVariables false

abbrev ipd : IP := (0, 0)
def swapL (l : List IP) (a b : Nat) : List IP := (l.set a (l.getD b ipd)).set b (l.getD a ipd)
theorem swapL_len (l : List IP) (a b : Nat) : (swapL l a b).length = l.length := by simp [swapL]
theorem getD_setP (l : List IP) (i j : Nat) (y : IP) (hi : i < l.length) : (l.set i y).getD j ipd = if i = j then y else l.getD j ipd := by
  simp only [List.getD_eq_getElem?_getD, List.getElem?_set]
  split
  · simp [hi]
  · rfl
theorem swapL_get (l : List IP) (a b k : Nat) (ha : a < l.length) (hb : b < l.length) : (swapL l a b).getD k ipd = if b = k then l.getD a ipd else if a = k then l.getD b ipd else l.getD k ipd := by
  unfold swapL
  rw [getD_setP _ _ _ _ (by simpa using hb), getD_setP _ _ _ _ ha]
theorem swapL_perm (l : List IP) (a b : Nat) (ha : a < l.length) (hb : b < l.length) : (swapL l a b).Perm l := by
  have h := Array.perm_iff_toList_perm.1 (Array.swap_perm (xs := l.toArray) (i := a) (j := b) (by simpa using ha) (by simpa using hb))
  rw [Array.toList_swap] at h
  simpa [swapL, ha, hb] using h
theorem swapL_take (l : List IP) (n a b : Nat) (ha : a < n) (hb : b < n) (hn : n ≤ l.length) : (swapL l a b).take n = swapL (l.take n) a b := by
  unfold swapL
  have h1 : (l.take n).getD b ipd = l.getD b ipd := by simp [List.getD_eq_getElem?_getD, List.getElem?_take, hb]
  have h2 : (l.take n).getD a ipd = l.getD a ipd := by simp [List.getD_eq_getElem?_getD, List.getElem?_take, ha]
  rw [h1, h2, List.take_set, List.take_set]

theorem qlt_trans {a b c : IP} (h : qlt a b) (k : qlt b c) : qlt a c := by unfold qlt at *; omega
theorem qlt_tri {a b c : IP} (h : ¬ qlt a b) (k : ¬ qlt b c) : ¬ qlt a c := by unfold qlt at *; omega
theorem qlt_irr (a : IP) : ¬ qlt a a := by unfold qlt; omega
theorem qlt_asymm {a b : IP} (h : qlt a b) : ¬ qlt b a := by unfold qlt at *; omega

def par (k : Nat) : Nat := (k - 1) / 2
def Heap2 (l : List IP) : Prop := ∀ k, 0 < k → k < l.length → ¬ qlt (l.getD k ipd) (l.getD (par k) ipd)
/-- A heap but for what lies above m. -/
def HeapUp (l : List IP) (m : Nat) : Prop := (∀ k, 0 < k → k < l.length → k ≠ m → ¬ qlt (l.getD k ipd) (l.getD (par k) ipd)) ∧ ∀ k, 0 < k → k < l.length → par k = m → 0 < m → ¬ qlt (l.getD k ipd) (l.getD (par m) ipd)
theorem up_done {l : List IP} {m : Nat} (h : HeapUp l m) (hm : m = 0 ∨ ¬ qlt (l.getD m ipd) (l.getD (par m) ipd)) : Heap2 l := fun k h1 h2 => by
  by_cases hk : k = m
  · subst hk; rcases hm with hm | hm
    · omega
    · exact hm
  · exact h.1 k h1 h2 hk
theorem up_step {l : List IP} {m : Nat} (h : HeapUp l m) (h0 : 0 < m) (hm : m < l.length) (hlt : qlt (l.getD m ipd) (l.getD (par m) ipd)) : HeapUp (swapL l m (par m)) (par m) := by
  have hp : par m < m := by unfold par; omega
  have g := fun k => swapL_get l m (par m) k hm (by omega)
  refine ⟨fun k h1 h2 h3 => ?_, fun k h1 h2 h3 h4 => ?_⟩
  · rw [swapL_len] at h2
    rw [g k, g (par k)]
    have hpk : par k < k := by unfold par; omega
    by_cases hk : m = k
    · subst hk
      rw [if_neg (by omega), if_pos rfl, if_pos rfl]
      exact qlt_asymm hlt
    · rw [if_neg (Ne.symm h3), if_neg hk]
      by_cases h5 : par m = par k
      · rw [if_pos h5]
        intro hc
        have h6 := h.1 k h1 h2 (Ne.symm hk)
        rw [← h5] at h6
        exact h6 (qlt_trans hc hlt)
      · rw [if_neg h5]
        by_cases h6 : m = par k
        · rw [if_pos h6]; exact h.2 k h1 h2 h6.symm h0
        · rw [if_neg h6]; exact h.1 k h1 h2 (Ne.symm hk)
  · rw [swapL_len] at h2
    have hpp : par (par m) < par m := by unfold par at *; omega
    have h7 := h.1 (par m) h4 (by omega) (by omega)
    rw [g k, g (par (par m)), if_neg (by omega : par m ≠ par (par m)), if_neg (by omega : m ≠ par (par m))]
    by_cases hk : m = k
    · subst hk
      rw [if_neg (by omega), if_pos rfl]; exact h7
    · have hpk : par k < k := by unfold par; omega
      rw [if_neg (by omega), if_neg hk]
      have h8 := h.1 k h1 h2 (Ne.symm hk)
      rw [h3] at h8
      exact qlt_tri h8 h7
theorem up_start {l : List IP} (x : IP) (h : Heap2 l) : HeapUp (l ++ [x]) l.length := by
  have g : ∀ k, k < l.length → (l ++ [x]).getD k ipd = l.getD k ipd := fun k hk => by simp [List.getD_eq_getElem?_getD, List.getElem?_append_left hk]
  refine ⟨fun k h1 h2 h3 => ?_, fun k h1 h2 h3 h4 => ?_⟩
  · simp at h2
    have hk : k < l.length := by omega
    rw [g k hk, g (par k) (by unfold par; omega)]
    exact h k h1 hk
  · simp at h2; unfold par at h3; omega

/-- A heap but for what lies below m. -/
def HeapDn (l : List IP) (m : Nat) : Prop := (∀ k, 0 < k → k < l.length → par k ≠ m → ¬ qlt (l.getD k ipd) (l.getD (par k) ipd)) ∧ ∀ k, 0 < k → k < l.length → par k = m → 0 < m → ¬ qlt (l.getD k ipd) (l.getD (par m) ipd)
theorem dn_done {l : List IP} {m : Nat} (h : HeapDn l m) (hm : ∀ k, 0 < k → k < l.length → par k = m → ¬ qlt (l.getD k ipd) (l.getD m ipd)) : Heap2 l := fun k h1 h2 => by
  by_cases hk : par k = m
  · rw [hk]; exact hm k h1 h2 hk
  · exact h.1 k h1 h2 hk
theorem dn_step {l : List IP} {m q : Nat} (h : HeapDn l m) (hq : par q = m) (h0 : 0 < q) (hl : q < l.length) (hlt : qlt (l.getD q ipd) (l.getD m ipd))
    (hm : ∀ k, 0 < k → k < l.length → par k = m → ¬ qlt (l.getD k ipd) (l.getD q ipd)) : HeapDn (swapL l m q) q := by
  have hp : m < q := by unfold par at hq; omega
  have g := fun k => swapL_get l m q k (by omega) hl
  refine ⟨fun k h1 h2 h3 => ?_, fun k h1 h2 h3 h4 => ?_⟩
  · rw [swapL_len] at h2
    rw [g k, g (par k), if_neg (Ne.symm h3)]
    have hpk : par k < k := by unfold par; omega
    by_cases hk : q = k
    · subst hk
      rw [if_pos rfl, if_pos hq.symm]; exact qlt_asymm hlt
    · rw [if_neg hk]
      by_cases hkm : m = k
      · subst hkm
        rw [if_pos rfl, if_neg (by omega)]
        exact h.2 q h0 hl hq h1
      · rw [if_neg hkm]
        by_cases h5 : m = par k
        · rw [if_pos h5]; exact hm k h1 h2 h5.symm
        · rw [if_neg h5]; exact h.1 k h1 h2 (Ne.symm h5)
  · rw [swapL_len] at h2
    have hpk : par k < k := by unfold par; omega
    rw [g k, g (par q), if_neg (by omega), if_neg (by omega), hq, if_neg (by omega), if_pos rfl]
    have := h.1 k h1 h2 (by omega)
    rw [h3] at this; exact this
/-- The first and the last are exchanged, and the last is taken off. -/
theorem dn_start {l : List IP} (h : Heap2 l) (h0 : 0 < l.length) : HeapDn ((swapL l 0 (l.length - 1)).take (l.length - 1)) 0 := by
  have g := fun k => swapL_get l 0 (l.length - 1) k h0 (by omega)
  have gt : ∀ k, k < l.length - 1 → ((swapL l 0 (l.length - 1)).take (l.length - 1)).getD k ipd = (swapL l 0 (l.length - 1)).getD k ipd := fun k hk => by simp [List.getD_eq_getElem?_getD, List.getElem?_take, hk]
  refine ⟨fun k h1 h2 h3 => ?_, fun k h1 h2 h3 h4 => by omega⟩
  simp [swapL_len] at h2
  have hpk : par k < k := by unfold par; omega
  rw [gt k (by omega), gt (par k) (by omega), g k, g (par k), if_neg (by omega), if_neg (by omega), if_neg (by omega), if_neg (Ne.symm h3)]
  exact h k h1 (by omega)
theorem heap_min {l : List IP} (h : Heap2 l) : ∀ k, k < l.length → ¬ qlt (l.getD k ipd) (l.getD 0 ipd) := by
  intro k
  induction k using Nat.strongRecOn with
  | _ k ih =>
    intro hk
    by_cases h0 : k = 0
    · subst h0; exact qlt_irr _
    · have hpk : par k < k := by unfold par; omega
      exact qlt_tri (h k (by omega) hk) (ih (par k) hpk (by omega))
theorem pop_perm {l : List IP} (h0 : 0 < l.length) : (l.getD 0 ipd :: (swapL l 0 (l.length - 1)).take (l.length - 1)).Perm l := by
  have h1 := swapL_perm l 0 (l.length - 1) h0 (by omega)
  have h2 : (swapL l 0 (l.length - 1)) = (swapL l 0 (l.length - 1)).take (l.length - 1) ++ [l.getD 0 ipd] := by
    have hl := swapL_len l 0 (l.length - 1)
    have hg := swapL_get l 0 (l.length - 1) (l.length - 1) h0 (by omega)
    rw [if_pos rfl] at hg
    have hlast := List.take_append_getElem (l := swapL l 0 (l.length - 1)) (i := l.length - 1) (by omega)
    rw [← hg]
    have : (swapL l 0 (l.length - 1)).getD (l.length - 1) ipd = (swapL l 0 (l.length - 1))[l.length - 1]'(by omega) := by rw [List.getD_eq_getElem?_getD, List.getElem?_eq_getElem (by omega)]; rfl
    rw [this, hlast, List.take_of_length_le (by omega)]
  have h3 : (l.getD 0 ipd :: (swapL l 0 (l.length - 1)).take (l.length - 1)).Perm ((swapL l 0 (l.length - 1)).take (l.length - 1) ++ [l.getD 0 ipd]) := (List.perm_append_singleton _ _).symm
  rw [← h2] at h3
  exact h3.trans h1
end Go.Proofs.Ytaiidcelopfjlaa
