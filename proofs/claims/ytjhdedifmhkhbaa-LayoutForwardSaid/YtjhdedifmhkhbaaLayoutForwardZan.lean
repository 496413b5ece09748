/- Lemmas and walks that the proof of LayoutForward uses. No statement is claimed here. -/
import Derived.Test.YtjhdedifmhkhbaaLayoutForwardZam
namespace Go.Proofs.Ytjhdedifmhkhbaa
open Go Go.Lft
set_option linter.unusedSimpArgs false
set_option linter.unusedVariables false

theorem pig : ∀ (N : Nat) (f : Nat → Nat), (∀ i, i ≤ N → f i < N) → ∃ i j, i < j ∧ j ≤ N ∧ f i = f j
  | 0, f, h => by have := h 0 (Nat.le_refl _); omega
  | N + 1, f, h => by
    by_cases hy : ∃ i, i ≤ N ∧ f i = f (N + 1)
    · obtain ⟨i, h1, h2⟩ := hy
      exact ⟨i, N + 1, by omega, Nat.le_refl _, h2⟩
    · have hy' : ∀ i, i ≤ N → f i ≠ f (N + 1) := fun i hi he => hy ⟨i, hi, he⟩
      obtain ⟨i, j, h1, h2, h3⟩ := pig N (fun i => if f i = N then f (N + 1) else f i) fun i hi => by
        have g1 := h i (by omega)
        have g2 := h (N + 1) (Nat.le_refl _)
        have g3 := hy' i hi
        split <;> omega
      refine ⟨i, j, h1, by omega, ?_⟩
      have g1 := hy' i (by omega)
      have g2 := hy' j (by omega)
      split at h3 <;> split at h3 <;> omega

theorem ost_succ (n : Int) (l : Arcs) (k : Nat) : ost n l (k + 1) = if nextO n l (ost n l k).1 < 0 then ost n l k else (fun j => (ost n l k).1 j || j == (nextO n l (ost n l k).1).toNat, (ost n l k).2 ++ [nextO n l (ost n l k).1]) := rfl
theorem ost_inc (n : Int) (l : Arcs) (j : Nat) : ∀ m, (ost n l (j + m)).2.length ≤ (ost n l j).2.length + m
  | 0 => Nat.le_refl _
  | m + 1 => by
    have ih := ost_inc n l j m
    rw [show j + (m + 1) = (j + m) + 1 by omega, ost_succ]
    split
    · omega
    · simp only [List.length_append, List.length_cons, List.length_nil]; omega
theorem ost_mem (n : Int) (l : Arcs) : ∀ (k j : Nat), (ost n l k).1 j = true ↔ (j : Int) ∈ (ost n l k).2
  | 0, j => by simp [ost]
  | k + 1, j => by
    have ih := ost_mem n l k j
    rw [ost_succ]
    split
    · exact ih
    · rename_i hc
      obtain ⟨n1, n2, _⟩ := next_in hc
      simp only [Bool.or_eq_true, beq_iff_eq, List.mem_append, List.mem_singleton, ih]
      exact or_congr_right (by omega)
def Full (n : Int) (l : Arcs) : Prop := (ost n l n.toNat).2.length = n.toNat
theorem full_len {n : Int} {l : Arcs} (h : Full n l) {j : Nat} (hj : j ≤ n.toNat) : (ost n l j).2.length = j := by
  have h1 := ost_len n l j
  have h2 := ost_inc n l j (n.toNat - j)
  rw [show j + (n.toNat - j) = n.toNat by omega] at h2
  unfold Full at h
  omega
theorem full_next {n : Int} {l : Arcs} (h : Full n l) {j : Nat} (hj : j < n.toNat) : ¬ nextO n l (ost n l j).1 < 0 := by
  intro hc
  have h1 := full_len h (j := j + 1) (by omega)
  rw [ost_succ, if_pos hc] at h1
  have h2 := ost_len n l j
  omega
theorem full_take {n : Int} {l : Arcs} (h : Full n l) {j : Nat} : ∀ {m}, j + m ≤ n.toNat → (ost n l (j + m)).2.take j = (ost n l j).2
  | 0, hj => List.take_of_length_le (by have := ost_len n l j; simpa using this)
  | m + 1, hj => by
    have ih := full_take h (j := j) (m := m) (by omega)
    rw [show j + (m + 1) = (j + m) + 1 by omega, ost_succ, if_neg (full_next h (by omega))]
    have := full_len h (j := j + m) (by omega)
    simp only
    rw [List.take_append_of_le_length (by omega), ih]
abbrev oL (n : Int) (l : Arcs) : List Int := (ost n l n.toNat).2
theorem full_take' {n : Int} {l : Arcs} (h : Full n l) {j : Nat} (hj : j ≤ n.toNat) : (oL n l).take j = (ost n l j).2 := by
  have := full_take h (j := j) (m := n.toNat - j) (by omega)
  rwa [show j + (n.toNat - j) = n.toNat by omega] at this
theorem full_at {n : Int} {l : Arcs} (h : Full n l) {j : Nat} (hj : j < n.toNat) : (oL n l).getD j 0 = nextO n l (ost n l j).1 := by
  have h1 := full_take' h (j := j + 1) (by omega)
  rw [ost_succ, if_neg (full_next h hj)] at h1
  have h2 := full_len h (j := j) (by omega)
  have h3 : (oL n l).getD j 0 = ((oL n l).take (j + 1)).getD j 0 := by
    simp [List.getD_eq_getElem?_getD, List.getElem?_take]
  rw [h3, h1, List.getD_eq_getElem?_getD, List.getElem?_append_right (by omega), h2, Nat.sub_self]; rfl
theorem count_zero_all {S : List Bool} (h : S.count false = 0) {i : Nat} (hi : i < S.length) : S.getD i false = true := by
  have := List.count_eq_zero.1 h
  rw [List.getD_eq_getElem?_getD, List.getElem?_eq_getElem hi]
  simp only [Option.getD_some]
  cases hb : S[i] with
  | true => rfl
  | false => exact absurd (hb ▸ List.getElem_mem hi) this
theorem full_all {n : Int} {l : Arcs} (h : Full n l) {v : Int} (h0 : 0 ≤ v) (h1 : v < n) : v ∈ oL n l := by
  have hc := ost_count n l n.toNat h
  have := count_zero_all (S := tab n.toNat (ost n l n.toNat).1) (by omega) (i := v.toNat) (by rw [tab_len]; omega)
  rw [tab_get _ _ _ (by omega)] at this
  have := (ost_mem n l n.toNat v.toNat).1 this
  rwa [Int.toNat_of_nonneg h0] at this
theorem idx_of {xs : List Int} {x : Int} (h : x ∈ xs) : ∃ j : Nat, idxL xs x = j ∧ j < xs.length ∧ xs.getD j 0 = x := by
  have h1 := (idxL_iff xs x).2 h
  obtain ⟨k, hk⟩ := low_nat (p := fun i => xs.getD i 0 == x) (b := 0) (m := xs.length) (by unfold idxL at h1; omega)
  obtain ⟨_, h3, h4, _⟩ := low_eq.1 hk
  exact ⟨k, hk, by omega, by simpa using h4⟩
theorem idx_take {xs : List Int} {x : Int} {j : Nat} (h : x ∈ xs.take j) : idxL xs x < j := by
  obtain ⟨k, hk, rfl⟩ := List.mem_iff_getElem.1 h
  have hk' : k < j ∧ k < xs.length := by simp at hk; omega
  apply Int.not_le.1; intro hc
  obtain ⟨i, h1, h2, h3⟩ := idx_of (List.mem_of_mem_take h)
  obtain ⟨_, _, _, h5⟩ := low_eq.1 (show low _ 0 xs.length = (i : Int) from h1)
  have := h5 k (by omega) (by omega)
  rw [List.getElem_take] at this
  simp [List.getD_eq_getElem?_getD, hk'.2] at this
/-- Every arc leads forward. -/
theorem full_arc {n : Int} {l : Arcs} (hr : inR n l) (h : Full n l) {a : Int × Int} (ha : a ∈ l) : 0 ≤ idxL (oL n l) a.1 ∧ idxL (oL n l) a.1 < idxL (oL n l) a.2 := by
  obtain ⟨⟨r1, r2⟩, r3, r4⟩ := hr a ha
  refine ⟨(idxL_iff _ _).2 (full_all h r1 r2), ?_⟩
  obtain ⟨j, h1, h2, h3⟩ := idx_of (full_all h r3 r4)
  have hN : (oL n l).length = n.toNat := h
  have hj : j < n.toNat := by omega
  rw [h1]
  have h3' : nextO n l (ost n l j).1 = a.2 := (full_at h hj).symm.trans h3
  obtain ⟨n1, n2, n3, _⟩ := next_in (full_next h hj)
  have := cnt_zero.1 ((avail_iff _ _ _).1 n3).2 a ha (by omega)
  have := (ost_mem n l j a.1.toNat).1 this
  rw [Int.toNat_of_nonneg r1, ← full_take' h (by omega)] at this
  exact idx_take this
theorem full_wk {n : Int} {l : Arcs} (hr : inR n l) (h : Full n l) {t : Int} : ∀ {d : Nat} {v : Int}, wk l t d v = true → idxL (oL n l) v + d ≤ idxL (oL n l) t
  | 0, v, hw => by
    have : v = t := by simpa [wk] using hw
    subst this; simp
  | d + 1, v, hw => by
    obtain ⟨a, h1, h2, h3⟩ := wk_succ.1 hw
    have h4 := full_wk hr h h3
    have h5 := (full_arc hr h h1).2
    rw [h2] at h5
    omega
theorem stuck_at {n : Int} {l : Arcs} (h : ¬ Full n l) : ∃ j, j < n.toNat ∧ (ost n l j).2.length = j ∧ nextO n l (ost n l j).1 < 0 := by
  apply Classical.byContradiction; intro hc
  have : ∀ j, j ≤ n.toNat → (ost n l j).2.length = j := by
    intro j
    induction j with
    | zero => intro _; simp [ost]
    | succ j ih =>
      intro hj
      have h1 := ih (by omega)
      have h2 : ¬ nextO n l (ost n l j).1 < 0 := fun h2 => hc ⟨j, by omega, h1, h2⟩
      rw [ost_succ, if_neg h2]; simp [h1]
  exact h (this _ (Nat.le_refl _))
/-- Where no order is, a closed way is. -/
theorem stuck_cyc {n : Int} {l : Arcs} (hr : inR n l) (h : ¬ Full n l) : ∃ f m : Nat, cf n l n.toNat = ((f : Int), (m : Int)) ∧ Fst n l n.toNat f m := by
  obtain ⟨k, h1, h2, h3⟩ := stuck_at h
  have hD : ∀ v, v < n.toNat → (ost n l k).1 v = false → ∃ u, u < n.toNat ∧ (ost n l k).1 u = false ∧ wk l v 1 u = true := by
    intro v hv hd
    have hav : avail l (ost n l k).1 v = false := by
      rcases low_cases (avail l (ost n l k).1) n.toNat 0 with ⟨_, g2⟩ | ⟨i, g1, _⟩
      · exact g2 v (Nat.zero_le _) (by omega)
      · unfold nextO at h3; omega
    have hcz : ¬ cnt l (ost n l k).1 v = 0 := fun hc => by
      rw [(avail_iff _ _ _).2 ⟨hd, hc⟩] at hav; cases hav
    rw [cnt_zero] at hcz
    apply Classical.byContradiction; intro hno
    refine hcz fun a ha hav2 => ?_
    apply Classical.byContradiction; intro hda
    obtain ⟨⟨r1, r2⟩, r3, r4⟩ := hr a ha
    refine hno ⟨a.1.toNat, by omega, by simpa using hda, wk_succ.2 ⟨a, ha, by omega, by simp [wk, hav2]⟩⟩
  have hex : ∃ v, v < n.toNat ∧ (ost n l k).1 v = false := by
    apply Classical.byContradiction; intro hno
    have hc := ost_count n l k h2
    have : (tab n.toNat (ost n l k).1).count false = 0 := by
      rw [List.count_eq_zero]
      intro hm
      simp only [tab, List.mem_map, List.mem_range] at hm
      obtain ⟨v, hv, he⟩ := hm
      exact hno ⟨v, hv, he⟩
    omega
  obtain ⟨v0, hv0, hd0⟩ := hex
  let X := {v : Nat // v < n.toNat ∧ (ost n l k).1 v = false}
  have hs : ∀ x : X, ∃ y : X, wk l x.1 1 y.1 = true := fun x => by
    obtain ⟨u, g1, g2, g3⟩ := hD x.1 x.2.1 x.2.2
    exact ⟨⟨u, g1, g2⟩, g3⟩
  let st : X → X := fun x => Classical.choose (hs x)
  have hst : ∀ x, wk l x.1 1 (st x).1 = true := fun x => Classical.choose_spec (hs x)
  let q : Nat → X := fun i => Nat.rec ⟨v0, hv0, hd0⟩ (fun _ x => st x) i
  have hq : ∀ i d, wk l (q i).1 d (q (i + d)).1 = true := by
    intro i d
    induction d with
    | zero => simp [wk]
    | succ d ih =>
      have := wk_app (hst (q (i + d))) ih
      rw [Nat.add_comm 1 d] at this
      exact this
  obtain ⟨i, j, g1, g2, g3⟩ := pig n.toNat (fun i => (q i).1) fun i _ => (q i).2.1
  have hw := hq i (j - i)
  rw [show i + (j - i) = j by omega, ← g3] at hw
  obtain ⟨c1, c2⟩ := cN_of (n := n) hw (by omega) (by omega)
  rcases cf_spec n l n.toNat with ⟨p1, p2⟩ | p
  · have := p2 (q i).1 (q i).2.1; omega
  · exact p
end Go.Proofs.Ytjhdedifmhkhbaa
namespace Go.Proofs.Ytjhdedifmhkhbaa
open Go Go.Lft
set_option linter.unusedSimpArgs false
set_option linter.unusedVariables false

theorem wk_path {l : Arcs} {t : Int} : ∀ {d : Nat} {v : Int}, wk l t d v = true → Path l v t
  | 0, v, h => by
    have : v = t := by simpa [wk] using h
    rw [this]; exact .refl t
  | d + 1, v, h => by
    obtain ⟨⟨a, b⟩, h1, h2, h3⟩ := wk_succ.1 h
    simp only at h2 h3
    subst h2
    exact .step h1 (wk_path h3)
theorem path_wk {l : Arcs} {u v : Int} (h : Path l u v) : ∃ d, wk l v d u = true := by
  induction h with
  | refl u => exact ⟨0, by simp [wk]⟩
  | step h p ih => obtain ⟨d, hd⟩ := ih; exact ⟨d + 1, wk_succ.2 ⟨_, h, rfl, hd⟩⟩
theorem full_acyc {n : Int} {l : Arcs} (hr : inR n l) (h : Full n l) {v : Int} {d : Nat} (hw : wk l v d v = true) : d = 0 := by
  have := full_wk hr h hw; omega
/-- The groups that stay are none where an order is. -/
theorem full_keep {n : Int} {l : Arcs} (hr : inR n l) (h : Full n l) : keepG l (gst n l n.toNat).2 = [] := by
  unfold keepG
  rw [List.filter_eq_nil_iff]
  intro r hm
  rw [gst_reps] at hm
  obtain ⟨x, hx, rfl⟩ := List.mem_map.1 hm
  have hxn := reps_lt n l n.toNat x hx
  -- whatever goes with x is x
  have hone : ∀ y ∈ memb n l x 0 n.toNat, y = (x : Int) := fun y hy => by
    obtain ⟨y0, y1, y2⟩ := memb_mem.1 hy
    obtain ⟨p1, p2⟩ := (both_iff hr hxn (by omega)).1 y2
    rw [Int.toNat_of_nonneg y0] at p1 p2
    obtain ⟨d1, w1⟩ := path_wk p1
    obtain ⟨d2, w2⟩ := path_wk p2
    have h1 := full_wk hr h w1
    have h2 := full_wk hr h w2
    have : d1 = 0 := by omega
    subst this
    have : (x : Int) = y := by simpa [wk] using w1
    exact this.symm
  have hmem : (x : Int) ∈ memb n l x 0 n.toNat := memb_mem.2 ⟨by omega, by omega, by rw [Int.toNat_natCast]; exact b_refl hr hxn⟩
  have hlt := memb_lt n l x 0 n.toNat
  generalize memb n l x 0 n.toNat = M at *
  have hM : M = [(x : Int)] := by
    match M, hmem, hlt, hone with
    | [a], _, _, hone => rw [hone a (by simp)]
    | a :: b :: M, _, hlt, hone =>
      have h1 := hone a (by simp)
      have h2 := hone b (by simp)
      have := (List.pairwise_cons.1 hlt).1 b (by simp)
      omega
  rw [hM]
  simp only [decide_eq_true_eq, Classical.not_not]
  refine ⟨rfl, fun hs => ?_⟩
  have hs' : ((x : Int), (x : Int)) ∈ l := hs
  have := full_acyc hr h (v := x) (d := 1) (wk_succ.2 ⟨_, hs', rfl, by simp [wk]⟩)
  omega
theorem keep_full {n : Int} {l : Arcs} (hr : inR n l) (hk : keepG l (gst n l n.toNat).2 = []) : Full n l := by
  apply Classical.byContradiction; intro hc
  obtain ⟨f, m, h1, h2⟩ := stuck_cyc hr hc
  obtain ⟨m1, m2, m3, m4⟩ := cN_eq h2.eq
  have hfn : f < n.toNat := h2.fk
  unfold keepG at hk
  rw [List.filter_eq_nil_iff, gst_reps] at hk
  obtain ⟨r, hr1, hr2⟩ := reps_cover hr n.toNat (Nat.le_refl _) f hfn
  have hd := hk _ (List.mem_map.2 ⟨r, hr1, rfl⟩)
  simp only [decide_eq_true_eq, Classical.not_not] at hd
  obtain ⟨d1, d2⟩ := hd
  have hrn := reps_lt n l n.toNat r hr1
  have hm1 : (f : Int) ∈ memb n l r 0 n.toNat := memb_mem.2 ⟨by omega, by omega, by rw [Int.toNat_natCast]; exact hr2⟩
  -- the first arc of the closed way
  obtain ⟨k, rfl⟩ : ∃ k, m = k + 1 := ⟨m - 1, by omega⟩
  obtain ⟨⟨a, b⟩, a1, a2, a3⟩ := wk_succ.1 m3
  simp only at a2 a3
  subst a2
  obtain ⟨⟨q1, q2⟩, q3, q4⟩ := hr _ a1
  simp only at q1 q2 q3 q4
  have hb : both n l f b.toNat = true := (both_iff hr hfn (by omega)).2 (by
    rw [Int.toNat_of_nonneg q3]; exact ⟨.step a1 (.refl b), wk_path a3⟩)
  have hm2 : b ∈ memb n l r 0 n.toNat := memb_mem.2 ⟨q3, by omega, b_trans hr hrn hfn (by omega) hr2 hb⟩
  generalize memb n l r 0 n.toNat = M at *
  match M, d1, hm1, hm2, d2 with
  | [c], _, hm1, hm2, d2 =>
    have e1 : (f : Int) = c := by simpa using hm1
    have e2 : b = c := by simpa using hm2
    apply d2
    show (c, c) ∈ l
    rw [e1] at a1; rw [e2] at a1; exact a1
theorem order_keep {n : Int} {l : Arcs} (hr : inR n l) (hg : gcheck n l = 0) : (orderR n l).2 = 0 ↔ keepG l (gst n l n.toNat).2 = [] := by
  have hl := ost_len n l n.toNat
  unfold orderR
  rw [if_neg (by omega)]
  constructor
  · intro h
    split at h
    · cases h
    · exact full_keep hr (by unfold Full; omega)
  · intro h
    have := keep_full hr h
    unfold Full at this
    rw [if_neg (by omega)]
/-- No loops: everything drains. -/
theorem keep_drains {p : Pl} (h : POk p) (hr : inR p.ms.length (arcsR p)) (hk : keepG (arcsR p) (gst p.ms.length (arcsR p) (p.ms.length : Int).toNat).2 = []) : drB p = true := by
  have hf := keep_full hr hk
  rw [drB_iff h]
  intro m hm mt hmt
  rcases wayR_cases h (mt := mt) (by omega) hmt hm with ⟨k, _, _, _, k4⟩ | ⟨k1, _⟩
  · show (wayR p mt p.ms.length m 0).2 = true
    rw [k4]
  · exfalso
    have hlt := fun i => posR_lt h (mt := mt) (by omega) hmt hm i fun l _ => k1 l
    obtain ⟨i, j, h2, h3, h4⟩ := pigeon p.ms.length (posR p mt m) fun i _ => hlt i
    have harc : ∀ i, ((posR p mt m i : Int), (posR p mt m (i + 1) : Int)) ∈ arcsR p := fun i => by
      obtain ⟨o1, o2, o3, o4, o5, _⟩ := out_ok h (mt := mt) (by omega) hmt (hlt i) (k1 i)
      refine List.mem_map.2 ⟨_, mem_get b0 o2, ?_⟩
      rw [o3, o5]; rfl
    have hwalk : ∀ d, wk (arcsR p) (posR p mt m (i + d)) d (posR p mt m i) = true := by
      intro d
      induction d with
      | zero => simp [wk]
      | succ d ih =>
        refine wk_app (k := 1) ih (wk_succ.2 ⟨_, harc (i + d), rfl, ?_⟩)
        simp [wk, Nat.add_assoc]
    have hw := hwalk (j - i)
    rw [show i + (j - i) = j by omega, ← h4] at hw
    have := full_acyc hr hf hw
    omega
end Go.Proofs.Ytjhdedifmhkhbaa
namespace Go.Proofs.Ytjhdedifmhkhbaa
open Go Go.Lft
set_option linter.unusedSimpArgs false
set_option linter.unusedVariables false
attribute [local congr] ob_congr bw_congr ib_congr ck_congr iwA_congr itA_congr aw_congr awp_congr sqA_congr bkA_congr vr_congr gd_congr

theorem layoutForward_law (p : Pl) : VR P false n_law34_LayoutForward [plA true true p] [] (isR (.v (.bool true))) := by
  refine vr_law34_LayoutForward (by simp) (.inr rfl) fun _ _ => ?_
  unfold plA plC
  simp (disch := ((try simp only [List.length_set, List.length_replicate, List.length_append, List.length_cons, List.length_nil]); omega)) only [aW, aX, aV, aB, aN, aL, aP, aH, aM, s_law34_LayoutForward, v_law34_LayoutForward]
  refine (great_vr (w := true) (v := true) p).useE (LdL.refl (by simp (disch := first | omega | simp (disch := omega) only [aF, aL, aN, aM]) only [aW, aX, aV, aB, aN, aL, aP, aH, aM, aF, Int.natCast_add, Int.natCast_mul, Int.add_sub_cancel, List.length_nil, Int.cast_ofNat_Int, and_true, true_and])) great_c ?_
  rintro r ⟨_, b, rfl⟩
  refine aret_of ?_
  cases b with
  | true =>
    simp (disch := ((try simp only [List.length_set, List.length_replicate, List.length_append, List.length_cons, List.length_nil]); omega)) only [aW, aX, aV, aB, aN, aL, aP, aH, aM, Int.toNat_one]
    refine awake34_vr.same (by simp (disch := first | omega | simp (disch := omega) only [aF, aL, aN, aM]) only [aW, aX, aV, aB, aN, aL, aP, aH, aM, aF, Int.natCast_add, Int.natCast_mul, Int.add_sub_cancel, List.length_nil, Int.cast_ofNat_Int, and_true, true_and]) rfl (aret_of ?_)
    simp (disch := ((try simp only [List.length_set, List.length_replicate, List.length_append, List.length_cons, List.length_nil]); omega)) only [aW, aX, aV, aB, aN, aL, aP, aH, aM, r_law34_LayoutForward]
    exact post_v ⟨rfl, rfl⟩
  | false =>
  have hv := layoutLoops_vr (w := true) (v := true) p
  by_cases hc : pcheck p = 0
  case neg =>
    have e : loopsR p = ([], pcheck p) := by unfold loopsR; rw [if_pos hc]
    rw [e] at hv
    simp (disch := ((try simp only [List.length_set, List.length_replicate, List.length_append, List.length_cons, List.length_nil]); omega)) only [aW, aX, aV, aB, aN, aL, aP, aH, aM, Int.toNat_one]
    refine hv.same (by unfold plA plC; simp (disch := first | omega | simp (disch := omega) only [aF, aL, aN, aM]) only [aW, aX, aV, aB, aN, aL, aP, aH, aM, aF, Int.natCast_add, Int.natCast_mul, Int.add_sub_cancel, List.length_nil, Int.cast_ofNat_Int, and_true, true_and]) (by simp (disch := first | omega | simp (disch := omega) only [aF, aL, aN, aM]) only [aW, aX, aV, aB, aN, aL, aP, aH, aM, aF, Int.natCast_add, Int.natCast_mul, Int.add_sub_cancel, List.length_nil, Int.cast_ofNat_Int, and_true, true_and]) (aret_of ?_)
    simp (disch := ((try simp only [List.length_set, List.length_replicate, List.length_append, List.length_cons, List.length_nil]); omega)) only [aW, aX, aV, aB, aN, aL, aP, aH, aM, Int.toNat_one]
    refine awake34_vr.same (by simp (disch := first | omega | simp (disch := omega) only [aF, aL, aN, aM]) only [aW, aX, aV, aB, aN, aL, aP, aH, aM, aF, Int.natCast_add, Int.natCast_mul, Int.add_sub_cancel, List.length_nil, Int.cast_ofNat_Int, and_true, true_and]) rfl (aret_of ?_)
    simp (disch := ((try simp only [List.length_set, List.length_replicate, List.length_append, List.length_cons, List.length_nil]); omega)) only [aW, aX, aV, aB, aN, aL, aP, aH, aM, r_law34_LayoutForward]
    exact post_v ⟨rfl, rfl⟩
  have ok := pcheck_ok hc
  have hr := inR_plant ok
  have hg := gcheck_plant ok
  have e : loopsR p = (keepG (arcsR p) (gst p.ms.length (arcsR p) p.ms.length).2, 0) := by unfold loopsR; rw [if_neg (by omega)]
  have hll := (loops_len p).1
  have h1 := order_keep hr hg
  have h2 := fun hk => keep_drains ok hr hk
  rw [Int.toNat_natCast] at h1 h2
  rw [e] at hv hll
  have hv2 := layoutGraph_vr (w := true) (v := true) p
  have e2 : pgraph p = (((p.ms.length : Int), arcsR p), (0 : Int)) := by unfold pgraph; rw [if_neg (by omega)]
  rw [e2] at hv2
  have hv3 := order_vr (w := true) p.ms.length (arcsR p)
  have hv4 := layoutDrains_vr (w := true) (v := true) p
  have e4 : drainR p = (drB p, 0) := by unfold drainR; rw [if_neg (by omega)]
  rw [e4] at hv4
  unfold graphT graphA at hv2
  unfold graphA at hv3
  generalize keepG (arcsR p) (gst p.ms.length (arcsR p) p.ms.length).2 = K at *
  generalize orderR p.ms.length (arcsR p) = O at *
  generalize drB p = D at *
  simp (disch := ((try simp only [List.length_set, List.length_replicate, List.length_append, List.length_cons, List.length_nil]); omega)) only [aW, aX, aV, aB, aN, aL, aP, aH, aM, Int.toNat_one]
  refine hv.same (by unfold plA plC; simp (disch := first | omega | simp (disch := omega) only [aF, aL, aN, aM]) only [aW, aX, aV, aB, aN, aL, aP, aH, aM, aF, Int.natCast_add, Int.natCast_mul, Int.add_sub_cancel, List.length_nil, Int.cast_ofNat_Int, and_true, true_and]) (by simp (disch := first | omega | simp (disch := omega) only [aF, aL, aN, aM]) only [aW, aX, aV, aB, aN, aL, aP, aH, aM, aF, Int.natCast_add, Int.natCast_mul, Int.add_sub_cancel, List.length_nil, Int.cast_ofNat_Int, and_true, true_and]) (aret_of ?_)
  simp (disch := ((try simp only [List.length_set, List.length_replicate, List.length_append, List.length_cons, List.length_nil]); omega)) only [aW, aX, aV, aB, aN, aL, aP, aH, aM, Int.toNat_one]
  refine hv2.same (by unfold plA plC; simp (disch := first | omega | simp (disch := omega) only [aF, aL, aN, aM]) only [aW, aX, aV, aB, aN, aL, aP, aH, aM, aF, Int.natCast_add, Int.natCast_mul, Int.add_sub_cancel, List.length_nil, Int.cast_ofNat_Int, and_true, true_and]) (by simp (disch := first | omega | simp (disch := omega) only [aF, aL, aN, aM]) only [aW, aX, aV, aB, aN, aL, aP, aH, aM, aF, Int.natCast_add, Int.natCast_mul, Int.add_sub_cancel, List.length_nil, Int.cast_ofNat_Int, and_true, true_and]) (aret_of ?_)
  simp (disch := ((try simp only [List.length_set, List.length_replicate, List.length_append, List.length_cons, List.length_nil]); omega)) only [aW, aX, aV, aB, aN, aL, aP, aH, aM, Int.toNat_one]
  refine hv3.same (by simp (disch := first | omega | simp (disch := omega) only [aF, aL, aN, aM]) only [aW, aX, aV, aB, aN, aL, aP, aH, aM, aF, Int.natCast_add, Int.natCast_mul, Int.add_sub_cancel, List.length_nil, Int.cast_ofNat_Int, and_true, true_and]) (by simp (disch := first | omega | simp (disch := omega) only [aF, aL, aN, aM]) only [aW, aX, aV, aB, aN, aL, aP, aH, aM, aF, Int.natCast_add, Int.natCast_mul, Int.add_sub_cancel, List.length_nil, Int.cast_ofNat_Int, and_true, true_and]) (aret_of ?_)
  simp (disch := ((try simp only [List.length_set, List.length_replicate, List.length_append, List.length_cons, List.length_nil]); omega)) only [aW, aX, aV, aB, aN, aL, aP, aH, aM, Int.toNat_one]
  refine hv4.same (by unfold plA plC; simp (disch := first | omega | simp (disch := omega) only [aF, aL, aN, aM]) only [aW, aX, aV, aB, aN, aL, aP, aH, aM, aF, Int.natCast_add, Int.natCast_mul, Int.add_sub_cancel, List.length_nil, Int.cast_ofNat_Int, and_true, true_and]) (by simp (disch := first | omega | simp (disch := omega) only [aF, aL, aN, aM]) only [aW, aX, aV, aB, aN, aL, aP, aH, aM, aF, Int.natCast_add, Int.natCast_mul, Int.add_sub_cancel, List.length_nil, Int.cast_ofNat_Int, and_true, true_and]) (aret_of ?_)
  by_cases hk : K = []
  · have hO := h1.2 hk
    have hD := h2 hk
    subst hk
    rw [hO, hD]
    simp (disch := ((try simp only [List.length_set, List.length_replicate, List.length_append, List.length_cons, List.length_nil]); omega)) only [aW, aX, aV, aB, aN, aL, aP, aH, aM, Int.toNat_one]
    refine awake34_vr.same (by simp (disch := first | omega | simp (disch := omega) only [aF, aL, aN, aM]) only [aW, aX, aV, aB, aN, aL, aP, aH, aM, aF, Int.natCast_add, Int.natCast_mul, Int.add_sub_cancel, List.length_nil, Int.cast_ofNat_Int, and_true, true_and]) rfl (aret_of ?_)
    simp (disch := ((try simp only [List.length_set, List.length_replicate, List.length_append, List.length_cons, List.length_nil]); omega)) only [aW, aX, aV, aB, aN, aL, aP, aH, aM, r_law34_LayoutForward]
    exact post_v ⟨rfl, rfl⟩
  · have hO : ¬ O.2 = 0 := fun h => hk (h1.1 h)
    have hKl : 0 < K.length := List.length_pos_iff.2 hk
    have z1 : decide (O.2 = 0) = false := decide_eq_false hO
    have z2 : decide ((K.length : Int) = 0) = false := decide_eq_false (by omega)
    have z3 : (false == false) = true := rfl
    cases D <;> simp (disch := ((try simp only [List.length_set, List.length_replicate, List.length_append, List.length_cons, List.length_nil]); omega)) only [aW, aX, aV, aB, aN, aL, aP, aH, aM, Int.toNat_one, z1, z2, z3]
    all_goals
      refine awake34_vr.same (by simp (disch := first | omega | simp (disch := omega) only [aF, aL, aN, aM]) only [aW, aX, aV, aB, aN, aL, aP, aH, aM, aF, Int.natCast_add, Int.natCast_mul, Int.add_sub_cancel, List.length_nil, Int.cast_ofNat_Int, and_true, true_and]) rfl (aret_of ?_)
      simp (disch := ((try simp only [List.length_set, List.length_replicate, List.length_append, List.length_cons, List.length_nil]); omega)) only [aW, aX, aV, aB, aN, aL, aP, aH, aM, r_law34_LayoutForward]
      exact post_v ⟨rfl, rfl⟩
end Go.Proofs.Ytjhdedifmhkhbaa
