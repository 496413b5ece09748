/- What one material's division is. Plain lemmas; no statement is claimed here. -/
import Derived.Test.YtggnafgbjnemoaaMe
namespace Go.Proofs.Ytggnafgbjnemoaa
open Go Go.Lft
set_option linter.unusedSimpArgs false
set_option linter.unusedVariables false

structure DvR (t : Int) (r : List Int) (f : Nat) (D : List Int) : Prop where
  len : D.length = r.length
  sum : D.sum = t
  nn : ∀ i, i < r.length → 0 ≤ D.getD i 0
  zero : ∀ i, i < r.length → r.getD i 0 = 0 → D.getD i 0 = 0
  first : 0 < t → 1 ≤ D.getD f 0
  near : ∀ i, i < r.length → let most := if 1000 ≤ t * r.getD f 0 then 1000 else 2000; -most < D.getD i 0 * 1000 - t * r.getD i 0 ∧ D.getD i 0 * 1000 - t * r.getD i 0 < most
  thou : t % 1000 = 0 → ∀ i, i < r.length → D.getD i 0 = t / 1000 * r.getD i 0

theorem divR_ok {t : Int} {r p : List Int} {f : Nat} (ht : 0 ≤ t) (hr : ∀ i, i < r.length → 0 ≤ r.getD i 0 ∧ r.getD i 0 ≤ 1000) (hs : r.sum = 1000) (hne : r ≠ []) (hf : f < r.length) (hf0 : 0 < r.getD f 0) (h : SpR t r p) : DvR t r f (divR p f t) := by
  have hl := h.len
  have htwo := h.two
  rw [hs] at htwo
  have hn : ∀ i, i < r.length → 0 ≤ t * r.getD i 0 := fun i hi => Int.mul_nonneg ht (hr i hi).1
  have hp0 : ∀ i, i < r.length → 0 ≤ p.getD i 0 := fun i hi => by
    have := hn i hi
    rcases htwo i hi with h1 | ⟨h1, _⟩ <;> omega
  have hz : ∀ i, i < r.length → r.getD i 0 = 0 → p.getD i 0 = 0 := fun i hi h0 => by
    rcases htwo i hi with h1 | ⟨h1, h2⟩
    · rw [h1, h0]; simp
    · rw [h0] at h2; simp at h2
  have hnear : ∀ i, i < r.length → -1000 < p.getD i 0 * 1000 - t * r.getD i 0 ∧ p.getD i 0 * 1000 - t * r.getD i 0 < 1000 := fun i hi => by
    rcases htwo i hi with h1 | ⟨h1, h2⟩ <;> omega
  by_cases hc : t = 0 ∨ 0 < p.getD f 0
  · have hd : divR p f t = p := by unfold divR; rw [if_pos hc]
    rw [hd]
    refine ⟨hl, h.sum, hp0, hz, fun h0 => by omega, fun i hi => ?_, fun hm i hi => ?_⟩
    · have := hnear i hi
      simp only
      split <;> omega
    · have e : t * r.getD i 0 = 1000 * (t / 1000 * r.getD i 0) := by
        rw [← Int.mul_assoc]; congr 1; omega
      rcases htwo i hi with h1 | ⟨h1, h2⟩
      · rw [h1, e]; omega
      · rw [e] at h2; omega
  · have ht1 : 0 < t := by omega
    have hpf : p.getD f 0 = 0 := by have := hp0 f hf; omega
    have hb := parts_pos h ht1 hne
    have hbl : bestI p < p.length := bestN_lt p p.length (by rw [hl]; omega)
    have hbf : bestI p ≠ f := by intro hh; rw [hh] at hb; omega
    have hd : divR p f t = (p.set (bestI p) (p.getD (bestI p) 0 - 1)).set f 1 := by unfold divR; rw [if_neg hc]
    have hg : ∀ i, i < r.length → (divR p f t).getD i 0 = if i = f then 1 else if i = bestI p then p.getD (bestI p) 0 - 1 else p.getD i 0 := fun i hi => by
      rw [hd, getD_seti, getD_seti]
      by_cases h1 : i = f
      · rw [if_pos h1, if_pos ⟨h1.symm, by simp only [List.length_set]; omega⟩]
      · rw [if_neg h1, if_neg (fun h => h1 h.1.symm)]
        by_cases h2 : i = bestI p
        · rw [if_pos h2, if_pos ⟨h2.symm, by omega⟩]
        · rw [if_neg h2, if_neg (fun h => h2 h.1.symm)]
    have hq : t * r.getD f 0 < 1000 := by
      have := hn f hf
      rcases htwo f hf with h1 | ⟨h1, _⟩ <;> omega
    have hbz : r.getD (bestI p) 0 ≠ 0 := fun h0 => by have := hz (bestI p) (by omega) h0; omega
    refine ⟨by rw [divR_len, hl], ?_, fun i hi => ?_, fun i hi h0 => ?_, fun _ => ?_, fun i hi => ?_, fun hm i hi => ?_⟩
    · rw [hd, sum_seti _ _ _ (by simp only [List.length_set]; omega), sum_seti _ _ _ hbl, getD_seti, if_neg (fun h => hbf h.1), hpf, h.sum]; omega
    · rw [hg i hi]
      have := hp0 i hi
      split
      · omega
      · split <;> omega
    · rw [hg i hi]
      have := hz i hi h0
      split
      · rename_i h1; subst h1; omega
      · split
        · rename_i h1; subst h1; exact (hbz h0).elim
        · exact this
    · rw [hg f hf, if_pos rfl]; omega
    · have h1 := hnear i hi
      have h2 := hn i hi
      simp only
      rw [if_neg (by omega), hg i hi]
      split
      · rename_i h3; subst h3; omega
      · split
        · rename_i h3; subst h3; omega
        · omega
    · exfalso
      have : 1000 ≤ t := by omega
      have : 1000 * 1 ≤ t * r.getD f 0 := Int.mul_le_mul this (by omega) (by omega) (by omega)
      omega

/-- One material of a machine in order. -/
theorem divM_ok {m : Mc} {mat : Int} (h : MOk m mat) (ho : outsN m ≠ 0) {k : Nat} (hk : k < m.length) {t : Int} (ht : 0 ≤ t ∧ t ≤ 1073741824) : DvR t (m.getD k []) (mainN m k).toNat (divM m k t) := by
  obtain ⟨h1, h2, h3, h4, h5⟩ := row_split h ho hk ht
  have hlen := h.len
  obtain ⟨g1, g2, g3⟩ := mainN_ok h ho (k := k) (by omega) (by omega)
  have ok := splitE_ok h1
  rw [Int.toNat_natCast] at g3
  exact divR_ok ht.1 h5 h2 ok.sp.ne (by omega) g3 (partsR_ok ok.sp)
theorem divM_le {m : Mc} {mat : Int} (h : MOk m mat) (ho : outsN m ≠ 0) {k : Nat} (hk : k < m.length) {t : Int} (ht : 0 ≤ t ∧ t ≤ 1073741824) : ∀ i, i < outsN m → 0 ≤ (divM m k t).getD i 0 ∧ (divM m k t).getD i 0 ≤ t := fun i hi => by
  have d := divM_ok h ho hk ht
  have hl := (row_split h ho hk ht).2.2.1
  have h0 := d.nn i (by omega)
  refine ⟨h0, ?_⟩
  have := sum_le_p ((List.replicate (divM m k t).length 0).set i ((divM m k t).getD i 0)) (divM m k t) (by simp) fun l hl2 => by
    simp only [List.length_set, List.length_replicate] at hl2
    rw [getD_seti]
    split
    · rename_i hc; rw [hc.1]; exact Int.le_refl _
    · have := d.nn l (by rw [← d.len]; exact hl2)
      simpa [List.getD_eq_getElem?_getD, hl2] using this
  have z1 : (List.replicate (divM m k t).length (0 : Int)).sum = 0 := by simp
  have z2 : (List.replicate (divM m k t).length (0 : Int)).getD i 0 = 0 := by
    rw [List.getD_eq_getElem?_getD, List.getElem?_replicate]; split <;> rfl
  rw [sum_seti _ _ _ (by simp only [List.length_replicate]; rw [d.len]; omega), d.sum, z1, z2] at this
  omega
/-- What is left of a mass after the first outputs. -/
def restN (D : List Int) (t : Int) (o : Nat) : Int := t - (D.take o).sum
theorem restN_zero (D : List Int) (t : Int) : restN D t 0 = t := by simp [restN]
theorem restN_succ {D : List Int} {t : Int} {o : Nat} (h : o < D.length) : restN D t (o + 1) = restN D t o - D.getD o 0 := by
  unfold restN
  rw [List.take_succ_eq_append_getElem h, List.sum_append]
  simp only [List.sum_cons, List.sum_nil, List.getD_eq_getElem?_getD, List.getElem?_eq_getElem h, Option.getD_some]; omega
theorem restN_ge {D : List Int} {t : Int} (hn : ∀ i, i < D.length → 0 ≤ D.getD i 0) (hs : D.sum = t) (o : Nat) : 0 ≤ restN D t o := by
  have h1 : (D.take o).sum + (D.drop o).sum = D.sum := by rw [← List.sum_append, List.take_append_drop]
  have h2 := sum_ge0 (D.drop o) fun x hx => by
    obtain ⟨i, h3, rfl⟩ := getD_mem (List.mem_of_mem_drop hx)
    exact hn i h3
  unfold restN; omega
theorem restN_le {D : List Int} {t : Int} (hn : ∀ i, i < D.length → 0 ≤ D.getD i 0) (o : Nat) : restN D t o ≤ t := by
  have h2 := sum_ge0 (D.take o) fun x hx => by
    obtain ⟨i, h3, rfl⟩ := getD_mem (List.mem_of_mem_take hx)
    exact hn i h3
  unfold restN; omega
theorem restN_end {D : List Int} {t : Int} (hs : D.sum = t) : restN D t D.length = 0 := by unfold restN; rw [List.take_length, hs]; omega
end Go.Proofs.Ytggnafgbjnemoaa
