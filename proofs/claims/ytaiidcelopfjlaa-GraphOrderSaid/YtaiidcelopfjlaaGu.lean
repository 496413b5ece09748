/- Orders and cycles: one exists exactly if the other does not. No statement is claimed here. -/
import Derived.Test.YtaiidcelopfjlaaGs
namespace Go.Proofs.Ytaiidcelopfjlaa
open Go Go.Lft
set_option linter.unusedSimpArgs false
set_option linter.unusedVariables false

theorem pig : ∀ (N : Nat) (f : Nat → Nat), (∀ i, i ≤ N → f i < N) → ∃ i j, i < j ∧ j ≤ N ∧ f i = f j
  | 0, f, h => by have := h 0 (Nat.le_refl _); omega
  | N + 1, f, h => by
    by_cases hy : ∃ i, i ≤ N ∧ f i = f (N + 1)
    · obtain ⟨i, h1, h2⟩ := hy
      exact ⟨i, N + 1, by omega, Nat.le_refl _, h2⟩
    · have hy' : ∀ i, i ≤ N → f i ≠ f (N + 1) := fun i hi he => hy ⟨i, hi, he⟩
      obtain ⟨i, j, h1, h2, h3⟩ := pig N (fun i => if f i = N then f (N + 1) else f i) fun i hi => by
        have g1 := h i (by omega)
        have g2 := h (N + 1) (Nat.le_refl _)
        have g3 := hy' i hi
        split <;> omega
      refine ⟨i, j, h1, by omega, ?_⟩
      have g1 := hy' i (by omega)
      have g2 := hy' j (by omega)
      split at h3 <;> split at h3 <;> omega

theorem ost_succ (n : Int) (l : Arcs) (k : Nat) : ost n l (k + 1) = if nextO n l (ost n l k).1 < 0 then ost n l k else (fun j => (ost n l k).1 j || j == (nextO n l (ost n l k).1).toNat, (ost n l k).2 ++ [nextO n l (ost n l k).1]) := rfl
theorem ost_inc (n : Int) (l : Arcs) (j : Nat) : ∀ m, (ost n l (j + m)).2.length ≤ (ost n l j).2.length + m
  | 0 => Nat.le_refl _
  | m + 1 => by
    have ih := ost_inc n l j m
    rw [show j + (m + 1) = (j + m) + 1 by omega, ost_succ]
    split
    · omega
    · simp only [List.length_append, List.length_cons, List.length_nil]; omega
theorem ost_mem (n : Int) (l : Arcs) : ∀ (k j : Nat), (ost n l k).1 j = true ↔ (j : Int) ∈ (ost n l k).2
  | 0, j => by simp [ost]
  | k + 1, j => by
    have ih := ost_mem n l k j
    rw [ost_succ]
    split
    · exact ih
    · rename_i hc
      obtain ⟨n1, n2, _⟩ := next_in hc
      simp only [Bool.or_eq_true, beq_iff_eq, List.mem_append, List.mem_singleton, ih]
      exact or_congr_right (by omega)
theorem ost_rng (n : Int) (l : Arcs) : ∀ k, ∀ x ∈ (ost n l k).2, 0 ≤ x ∧ x < n
  | 0, x, h => by simp [ost] at h
  | k + 1, x, h => by
    rw [ost_succ] at h
    split at h
    · exact ost_rng n l k x h
    · rename_i hc
      obtain ⟨n1, n2, _⟩ := next_in hc
      simp only [List.mem_append, List.mem_singleton] at h
      rcases h with h | rfl
      · exact ost_rng n l k x h
      · omega
def Full (n : Int) (l : Arcs) : Prop := (ost n l n.toNat).2.length = n.toNat
theorem full_len {n : Int} {l : Arcs} (h : Full n l) {j : Nat} (hj : j ≤ n.toNat) : (ost n l j).2.length = j := by
  have h1 := ost_len n l j
  have h2 := ost_inc n l j (n.toNat - j)
  rw [show j + (n.toNat - j) = n.toNat by omega] at h2
  unfold Full at h
  omega
theorem full_next {n : Int} {l : Arcs} (h : Full n l) {j : Nat} (hj : j < n.toNat) : ¬ nextO n l (ost n l j).1 < 0 := by
  intro hc
  have h1 := full_len h (j := j + 1) (by omega)
  rw [ost_succ, if_pos hc] at h1
  have h2 := ost_len n l j
  omega
theorem full_take {n : Int} {l : Arcs} (h : Full n l) {j : Nat} : ∀ {m}, j + m ≤ n.toNat → (ost n l (j + m)).2.take j = (ost n l j).2
  | 0, hj => List.take_of_length_le (by have := ost_len n l j; simpa using this)
  | m + 1, hj => by
    have ih := full_take h (j := j) (m := m) (by omega)
    rw [show j + (m + 1) = (j + m) + 1 by omega, ost_succ, if_neg (full_next h (by omega))]
    have := full_len h (j := j + m) (by omega)
    simp only
    rw [List.take_append_of_le_length (by omega), ih]
abbrev oL (n : Int) (l : Arcs) : List Int := (ost n l n.toNat).2
theorem full_take' {n : Int} {l : Arcs} (h : Full n l) {j : Nat} (hj : j ≤ n.toNat) : (oL n l).take j = (ost n l j).2 := by
  have := full_take h (j := j) (m := n.toNat - j) (by omega)
  rwa [show j + (n.toNat - j) = n.toNat by omega] at this
theorem full_at {n : Int} {l : Arcs} (h : Full n l) {j : Nat} (hj : j < n.toNat) : (oL n l).getD j 0 = nextO n l (ost n l j).1 := by
  have h1 := full_take' h (j := j + 1) (by omega)
  rw [ost_succ, if_neg (full_next h hj)] at h1
  have h2 := full_len h (j := j) (by omega)
  have h3 : (oL n l).getD j 0 = ((oL n l).take (j + 1)).getD j 0 := by
    simp [List.getD_eq_getElem?_getD, List.getElem?_take]
  rw [h3, h1, List.getD_eq_getElem?_getD, List.getElem?_append_right (by omega), h2, Nat.sub_self]; rfl
theorem full_new {n : Int} {l : Arcs} (h : Full n l) {j : Nat} (hj : j < n.toNat) : (oL n l).getD j 0 ∉ (oL n l).take j := by
  rw [full_at h hj, full_take' h (by omega)]
  obtain ⟨n1, n2, n3, _⟩ := next_in (full_next h hj)
  have := ((avail_iff _ _ _).1 n3).1
  intro hc
  have h4 := (ost_mem n l j (nextO n l (ost n l j).1).toNat).2 (by rw [Int.toNat_of_nonneg n1]; exact hc)
  rw [this] at h4; cases h4
theorem count_zero_all {S : List Bool} (h : S.count false = 0) {i : Nat} (hi : i < S.length) : S.getD i false = true := by
  have := List.count_eq_zero.1 h
  rw [List.getD_eq_getElem?_getD, List.getElem?_eq_getElem hi]
  simp only [Option.getD_some]
  cases hb : S[i] with
  | true => rfl
  | false => exact absurd (hb ▸ List.getElem_mem hi) this
theorem full_all {n : Int} {l : Arcs} (h : Full n l) {v : Int} (h0 : 0 ≤ v) (h1 : v < n) : v ∈ oL n l := by
  have hc := ost_count n l n.toNat h
  have := count_zero_all (S := tab n.toNat (ost n l n.toNat).1) (by omega) (i := v.toNat) (by rw [tab_len]; omega)
  rw [tab_get _ _ _ (by omega)] at this
  have := (ost_mem n l n.toNat v.toNat).1 this
  rwa [Int.toNat_of_nonneg h0] at this
theorem idx_of {xs : List Int} {x : Int} (h : x ∈ xs) : ∃ j : Nat, idxL xs x = j ∧ j < xs.length ∧ xs.getD j 0 = x := by
  have h1 := (idxL_iff xs x).2 h
  obtain ⟨k, hk⟩ := low_nat (p := fun i => xs.getD i 0 == x) (b := 0) (m := xs.length) (by unfold idxL at h1; omega)
  obtain ⟨_, h3, h4, _⟩ := low_eq.1 hk
  exact ⟨k, hk, by omega, by simpa using h4⟩
theorem idx_take {xs : List Int} {x : Int} {j : Nat} (h : x ∈ xs.take j) : idxL xs x < j := by
  obtain ⟨k, hk, rfl⟩ := List.mem_iff_getElem.1 h
  have hk' : k < j ∧ k < xs.length := by simp at hk; omega
  apply Int.not_le.1; intro hc
  obtain ⟨i, h1, h2, h3⟩ := idx_of (List.mem_of_mem_take h)
  obtain ⟨_, _, _, h5⟩ := low_eq.1 (show low _ 0 xs.length = (i : Int) from h1)
  have := h5 k (by omega) (by omega)
  rw [List.getElem_take] at this
  simp [List.getD_eq_getElem?_getD, hk'.2] at this
/-- Every arc leads forward. -/
theorem full_arc {n : Int} {l : Arcs} (hr : inR n l) (h : Full n l) {a : Int × Int} (ha : a ∈ l) : 0 ≤ idxL (oL n l) a.1 ∧ idxL (oL n l) a.1 < idxL (oL n l) a.2 := by
  obtain ⟨⟨r1, r2⟩, r3, r4⟩ := hr a ha
  refine ⟨(idxL_iff _ _).2 (full_all h r1 r2), ?_⟩
  obtain ⟨j, h1, h2, h3⟩ := idx_of (full_all h r3 r4)
  have hN : (oL n l).length = n.toNat := h
  have hj : j < n.toNat := by omega
  rw [h1]
  have h3' : nextO n l (ost n l j).1 = a.2 := (full_at h hj).symm.trans h3
  obtain ⟨n1, n2, n3, _⟩ := next_in (full_next h hj)
  have := cnt_zero.1 ((avail_iff _ _ _).1 n3).2 a ha (by omega)
  have := (ost_mem n l j a.1.toNat).1 this
  rw [Int.toNat_of_nonneg r1, ← full_take' h (by omega)] at this
  exact idx_take this
theorem full_wk {n : Int} {l : Arcs} (hr : inR n l) (h : Full n l) {t : Int} : ∀ {d : Nat} {v : Int}, wk l t d v = true → idxL (oL n l) v + d ≤ idxL (oL n l) t
  | 0, v, hw => by
    have : v = t := by simpa [wk] using hw
    subst this; simp
  | d + 1, v, hw => by
    obtain ⟨a, h1, h2, h3⟩ := wk_succ.1 hw
    have h4 := full_wk hr h h3
    have h5 := (full_arc hr h h1).2
    rw [h2] at h5
    omega
theorem full_none {n : Int} {l : Arcs} (hr : inR n l) (h : Full n l) : cf n l n.toNat = (-1, 0) := by
  rcases cf_spec n l n.toNat with ⟨g1, g2⟩ | ⟨f, m, g1, g2⟩
  · exact g1
  · obtain ⟨m1, m2, m3, m4⟩ := cN_eq g2.eq
    have := full_wk hr h m3
    omega

theorem stuck_at {n : Int} {l : Arcs} (h : ¬ Full n l) : ∃ j, j < n.toNat ∧ (ost n l j).2.length = j ∧ nextO n l (ost n l j).1 < 0 := by
  apply Classical.byContradiction; intro hc
  have : ∀ j, j ≤ n.toNat → (ost n l j).2.length = j := by
    intro j
    induction j with
    | zero => intro _; simp [ost]
    | succ j ih =>
      intro hj
      have h1 := ih (by omega)
      have h2 : ¬ nextO n l (ost n l j).1 < 0 := fun h2 => hc ⟨j, by omega, h1, h2⟩
      rw [ost_succ, if_neg h2]; simp [h1]
  exact h (this _ (Nat.le_refl _))
/-- Where no order is, a closed way is. -/
theorem stuck_cyc {n : Int} {l : Arcs} (hr : inR n l) (h : ¬ Full n l) : ∃ f m : Nat, cf n l n.toNat = ((f : Int), (m : Int)) ∧ Fst n l n.toNat f m := by
  obtain ⟨k, h1, h2, h3⟩ := stuck_at h
  have hD : ∀ v, v < n.toNat → (ost n l k).1 v = false → ∃ u, u < n.toNat ∧ (ost n l k).1 u = false ∧ wk l v 1 u = true := by
    intro v hv hd
    have hav : avail l (ost n l k).1 v = false := by
      rcases low_cases (avail l (ost n l k).1) n.toNat 0 with ⟨_, g2⟩ | ⟨i, g1, _⟩
      · exact g2 v (Nat.zero_le _) (by omega)
      · unfold nextO at h3; omega
    have hcz : ¬ cnt l (ost n l k).1 v = 0 := fun hc => by
      rw [(avail_iff _ _ _).2 ⟨hd, hc⟩] at hav; cases hav
    rw [cnt_zero] at hcz
    apply Classical.byContradiction; intro hno
    refine hcz fun a ha hav2 => ?_
    apply Classical.byContradiction; intro hda
    obtain ⟨⟨r1, r2⟩, r3, r4⟩ := hr a ha
    refine hno ⟨a.1.toNat, by omega, by simpa using hda, wk_succ.2 ⟨a, ha, by omega, by simp [wk, hav2]⟩⟩
  have hex : ∃ v, v < n.toNat ∧ (ost n l k).1 v = false := by
    apply Classical.byContradiction; intro hno
    have hc := ost_count n l k h2
    have : (tab n.toNat (ost n l k).1).count false = 0 := by
      rw [List.count_eq_zero]
      intro hm
      simp only [tab, List.mem_map, List.mem_range] at hm
      obtain ⟨v, hv, he⟩ := hm
      exact hno ⟨v, hv, he⟩
    omega
  obtain ⟨v0, hv0, hd0⟩ := hex
  let X := {v : Nat // v < n.toNat ∧ (ost n l k).1 v = false}
  have hs : ∀ x : X, ∃ y : X, wk l x.1 1 y.1 = true := fun x => by
    obtain ⟨u, g1, g2, g3⟩ := hD x.1 x.2.1 x.2.2
    exact ⟨⟨u, g1, g2⟩, g3⟩
  let st : X → X := fun x => Classical.choose (hs x)
  have hst : ∀ x, wk l x.1 1 (st x).1 = true := fun x => Classical.choose_spec (hs x)
  let q : Nat → X := fun i => Nat.rec ⟨v0, hv0, hd0⟩ (fun _ x => st x) i
  have hq : ∀ i d, wk l (q i).1 d (q (i + d)).1 = true := by
    intro i d
    induction d with
    | zero => simp [wk]
    | succ d ih =>
      have := wk_app (hst (q (i + d))) ih
      rw [Nat.add_comm 1 d] at this
      exact this
  obtain ⟨i, j, g1, g2, g3⟩ := pig n.toNat (fun i => (q i).1) fun i _ => (q i).2.1
  have hw := hq i (j - i)
  rw [show i + (j - i) = j by omega, ← g3] at hw
  obtain ⟨c1, c2⟩ := cN_of (n := n) hw (by omega) (by omega)
  rcases cf_spec n l n.toNat with ⟨p1, p2⟩ | p
  · have := p2 (q i).1 (q i).2.1; omega
  · exact p
end Go.Proofs.Ytaiidcelopfjlaa
