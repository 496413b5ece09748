/- The least shortest cycle: one law for both ways to find it. No statement is claimed here. -/
import Derived.Test.YtaiidcelopfjlaaGj
namespace Go.Proofs.Ytaiidcelopfjlaa
open Go Go.Lft
set_option linter.unusedSimpArgs false
set_option linter.unusedVariables false

def folS (p : Int → Bool) (v m : Int) (a : Int × Int) : Int := if a.1 = v ∧ p a.2 = true ∧ (m < 0 ∨ a.2 < m) then a.2 else m
def folL (l : Arcs) (p : Int → Bool) (v : Int) : Int := l.foldl (folS p v) (-1)
theorem fol_acc (p : Int → Bool) (v : Int) : ∀ (l : Arcs) (m : Int), (∀ a ∈ l, 0 ≤ a.2) →
    (l.foldl (folS p v) m = m ∧ ∀ a ∈ l, a.1 = v → p a.2 = true → ¬ m < 0 ∧ m ≤ a.2) ∨
    ∃ a ∈ l, a.1 = v ∧ p a.2 = true ∧ l.foldl (folS p v) m = a.2 ∧ (m < 0 ∨ a.2 < m) ∧ ∀ b ∈ l, b.1 = v → p b.2 = true → a.2 ≤ b.2
  | [], m, _ => .inl ⟨rfl, by simp⟩
  | a :: l, m, h => by
    have h0 := h a (by simp)
    have ht : ∀ b ∈ l, 0 ≤ b.2 := fun b hb => h b (by simp [hb])
    rw [List.foldl_cons]
    by_cases hc : a.1 = v ∧ p a.2 = true ∧ (m < 0 ∨ a.2 < m)
    · have hs : folS p v m a = a.2 := if_pos hc
      rw [hs]
      right
      rcases fol_acc p v l a.2 ht with ⟨h1, h2⟩ | ⟨b, h1, h2, h3, h4, h5, h6⟩
      · refine ⟨a, by simp, hc.1, hc.2.1, h1, hc.2.2, fun b hb hb1 hb2 => ?_⟩
        rcases List.mem_cons.1 hb with rfl | hb
        · omega
        · exact (h2 b hb hb1 hb2).2
      · refine ⟨b, by simp [h1], h2, h3, h4, by omega, fun c hcm hc1 hc2 => ?_⟩
        rcases List.mem_cons.1 hcm with rfl | hcm
        · omega
        · exact h6 c hcm hc1 hc2
    · have hs : folS p v m a = m := if_neg hc
      rw [hs]
      rcases fol_acc p v l m ht with ⟨h1, h2⟩ | ⟨b, h1, h2, h3, h4, h5, h6⟩
      · refine .inl ⟨h1, fun b hb hb1 hb2 => ?_⟩
        rcases List.mem_cons.1 hb with rfl | hb
        · exact ⟨fun hm => hc ⟨hb1, hb2, .inl hm⟩, Int.not_lt.1 fun hm => hc ⟨hb1, hb2, .inr hm⟩⟩
        · exact h2 b hb hb1 hb2
      · refine .inr ⟨b, by simp [h1], h2, h3, h4, h5, fun c hcm hc1 hc2 => ?_⟩
        rcases List.mem_cons.1 hcm with rfl | hcm
        · rcases h5 with h5 | h5
          · exact absurd ⟨hc1, hc2, .inl h5⟩ hc
          · apply Int.not_lt.1; intro hlt
            exact hc ⟨hc1, hc2, .inr (by omega)⟩
        · exact h6 c hcm hc1 hc2
theorem fol_cases {n : Int} {l : Arcs} (hr : inR n l) (p : Int → Bool) (v : Int) : (folL l p v = -1 ∧ ∀ a ∈ l, a.1 = v → p a.2 = false) ∨
    ∃ a ∈ l, a.1 = v ∧ p a.2 = true ∧ folL l p v = a.2 ∧ ∀ b ∈ l, b.1 = v → p b.2 = true → a.2 ≤ b.2 := by
  rcases fol_acc p v l (-1) (fun a ha => (hr a ha).2.1) with ⟨h1, h2⟩ | ⟨b, h1, h2, h3, h4, h5, h6⟩
  · refine .inl ⟨h1, fun a ha ha1 => ?_⟩
    rw [← Bool.not_eq_true]; intro hc
    exact (h2 a ha ha1 hc).1 (by omega)
  · exact .inr ⟨b, h1, h2, h3, h4, h6⟩
theorem fol_congr {n : Int} {l : Arcs} (hr : inR n l) {p q : Int → Bool} {v : Int} (h : ∀ a ∈ l, a.1 = v → p a.2 = q a.2) : folL l p v = folL l q v := by
  rcases fol_cases hr p v with ⟨h1, h2⟩ | ⟨a, h1, h2, h3, h4, h5⟩
  · rcases fol_cases hr q v with ⟨g1, g2⟩ | ⟨b, g1, g2, g3, g4, g5⟩
    · rw [h1, g1]
    · have := h2 b g1 g2; rw [h b g1 g2, g3] at this; cases this
  · rcases fol_cases hr q v with ⟨g1, g2⟩ | ⟨b, g1, g2, g3, g4, g5⟩
    · have := g2 a h1 h2; rw [← h a h1 h2, h3] at this; cases this
    · have e1 := h5 b g1 g2 (by rw [h b g1 g2]; exact g3)
      have e2 := g5 a h1 h2 (by rw [← h a h1 h2]; exact h3)
      omega

/-- The nodes of a cycle from s on, j after the first; and the last of them. -/
def cst (l : Arcs) (q : Nat → Int → Bool) (s : Int) : Nat → List Int × Int
  | 0 => ([s], s)
  | j + 1 => let x := folL l (q j) (cst l q s j).2; ((cst l q s j).1 ++ [x], x)
theorem cst_len (l : Arcs) (q : Nat → Int → Bool) (s : Int) (j : Nat) : (cst l q s j).1.length = j + 1 := by
  induction j with
  | zero => rfl
  | succ j ih => simp [cst, ih]
theorem cst_last (l : Arcs) (q : Nat → Int → Bool) (s : Int) (j : Nat) : (cst l q s j).1.getD j 0 = (cst l q s j).2 := by
  cases j with
  | zero => rfl
  | succ j =>
    have := cst_len l q s j
    simp only [cst]
    rw [List.getD_eq_getElem?_getD, List.getElem?_append_right (by omega), this, Nat.sub_self]; rfl

/-- The length of the shortest closed way from v, at most n. -/
def cN (n : Int) (l : Arcs) (v : Int) : Int := rT l v n.toNat v
def cf (n : Int) (l : Arcs) : Nat → Int × Int
  | 0 => (-1, 0)
  | v + 1 => if 0 < cN n l v ∧ ((cf n l v).1 < 0 ∨ cN n l v < (cf n l v).2) then ((v : Int), cN n l v) else cf n l v
theorem cN_pos {n : Int} {l : Arcs} {v : Int} : 0 < cN n l v ∨ cN n l v < 0 := by
  unfold cN rT
  rcases low_cases (fun d => wk l v d v) n.toNat 1 with ⟨h1, _⟩ | ⟨i, h1, h2, h3, _⟩ <;> omega
structure Fst (n : Int) (l : Arcs) (k f m : Nat) : Prop where
  fk : f < k
  eq : cN n l f = m
  m1 : 1 ≤ m
  least : ∀ v : Nat, v < k → cN n l v < 0 ∨ (m : Int) ≤ cN n l v
  first : ∀ v : Nat, v < f → cN n l v < 0 ∨ (m : Int) < cN n l v
theorem cf_spec (n : Int) (l : Arcs) : ∀ k, (cf n l k = (-1, 0) ∧ ∀ v : Nat, v < k → cN n l v < 0) ∨ ∃ f m : Nat, cf n l k = ((f : Int), (m : Int)) ∧ Fst n l k f m
  | 0 => .inl ⟨rfl, fun v hv => by omega⟩
  | k + 1 => by
    have hp := @cN_pos n l k
    rcases cf_spec n l k with ⟨h1, h2⟩ | ⟨f, m, h1, h2⟩
    · by_cases hc : 0 < cN n l k
      · right
        refine ⟨k, (cN n l k).toNat, ?_, by omega, by omega, by omega, fun v hv => ?_, fun v hv => .inl (h2 v hv)⟩
        · unfold cf; rw [h1, if_pos ⟨hc, .inl (by decide)⟩]; congr 1; omega
        · by_cases hvk : v = k
          · subst hvk; right; omega
          · exact .inl (h2 v (by omega))
      · left
        refine ⟨by unfold cf; rw [if_neg (fun h => hc h.1)]; exact h1, fun v hv => ?_⟩
        by_cases hvk : v = k
        · subst hvk; omega
        · exact h2 v (by omega)
    · right
      by_cases hc : 0 < cN n l k ∧ cN n l k < m
      · refine ⟨k, (cN n l k).toNat, ?_, by omega, by omega, by omega, fun v hv => ?_, fun v hv => ?_⟩
        · unfold cf; rw [h1, if_pos ⟨hc.1, .inr hc.2⟩]; congr 1; omega
        · by_cases hvk : v = k
          · subst hvk; right; omega
          · rcases h2.least v (by omega) with h | h
            · exact .inl h
            · right; omega
        · rcases h2.least v hv with h | h
          · exact .inl h
          · right; omega
      · refine ⟨f, m, ?_, by have := h2.fk; omega, h2.eq, h2.m1, fun v hv => ?_, h2.first⟩
        · unfold cf; rw [h1, if_neg]
          rintro ⟨g1, g2⟩
          exact hc ⟨g1, by omega⟩
        · by_cases hvk : v = k
          · subst hvk; omega
          · exact h2.least v (by omega)
/-- What the code looks for: an arc from s from whose end the way to s has j arcs. -/
def gAt (l : Arcs) (s : Int) (j : Nat) : Bool := decide (0 ≤ folL l (fun u => gDist l s u == (j : Int)) s)
theorem gAt_iff {n : Int} {l : Arcs} (hr : inR n l) {s : Int} {j : Nat} : gAt l s j = true ↔ ∃ a ∈ l, a.1 = s ∧ gDist l s a.2 = j := by
  unfold gAt
  rw [decide_eq_true_eq]
  rcases fol_cases hr (fun u => gDist l s u == (j : Int)) s with ⟨h1, h2⟩ | ⟨a, h1, h2, h3, h4, h5⟩
  · rw [h1]
    constructor
    · intro h; omega
    · rintro ⟨a, g1, g2, g3⟩
      have := h2 a g1 g2
      simp [g3] at this
  · rw [h4]
    exact ⟨fun _ => ⟨a, h1, h2, by simpa using h3⟩, fun _ => (hr a h1).2.1⟩
theorem gAt_wk {n : Int} {l : Arcs} (hr : inR n l) {s : Int} {j : Nat} (h : gAt l s j = true) : wk l s (j + 1) s = true := by
  obtain ⟨a, h1, h2, h3⟩ := (gAt_iff hr).1 h
  exact wk_succ.2 ⟨a, h1, h2, wg_wk (low_eq.1 h3).2.2.1⟩
theorem cN_of {n : Int} {l : Arcs} {v : Int} {m : Nat} (h : wk l v m v = true) (h1 : 1 ≤ m) (h2 : m ≤ n.toNat) : 0 < cN n l v ∧ cN n l v ≤ m := by
  have hp := @cN_pos n l v
  have hn : ¬ cN n l v < 0 := fun hc => by
    have := low_neg.1 hc m h1 (by omega)
    rw [h] at this; cases this
  refine ⟨by omega, ?_⟩
  obtain ⟨k, hk⟩ := low_nat (p := fun d => wk l v d v) hn
  have hk' := low_eq.1 hk
  have : cN n l v = k := hk
  rw [this]
  apply Int.not_lt.1; intro hlt
  have := hk'.2.2.2 m h1 (by omega)
  rw [h] at this; cases this
theorem cN_eq {n : Int} {l : Arcs} {v : Int} {m : Nat} (h : cN n l v = m) : 1 ≤ m ∧ m ≤ n.toNat ∧ wk l v m v = true ∧ ∀ i, 1 ≤ i → i < m → wk l v i v = false := by
  obtain ⟨h1, h2, h3, h4⟩ := low_eq.1 h
  exact ⟨h1, by omega, h3, h4⟩

/-- On the shortest closed way from the first node no node is less. -/
theorem wg_of {n : Int} {l : Arcs} (hr : inR n l) {f m : Nat} (hf : Fst n l n.toNat f m) : ∀ {d e : Nat} {v : Int}, d + e = m → 1 ≤ e → wk l f d v = true → wk l v e f = true → wg l f d v = true
  | 0, e, v, _, _, h1, _ => h1
  | d + 1, e, v, hde, he, h1, h2 => by
    have hm := (cN_eq hf.eq).2.1
    have hfk := hf.fk
    obtain ⟨a, h3, h4, h5⟩ := wk_succ.1 h1
    have hv := wk_in hr (t := (f : Int)) ⟨by omega, by omega⟩ h1
    have hcl : wk l v m v = true := by rw [← hde]; exact wk_app h1 h2
    have hfv : (f : Int) ≤ v := by
      obtain ⟨c1, c2⟩ := cN_of (n := n) hcl hf.m1 hm
      apply Int.not_lt.1; intro hlt
      have hvn : ((v.toNat : Nat) : Int) = v := by omega
      have := hf.first v.toNat (by omega)
      rw [hvn] at this
      omega
    refine wg_succ.2 ⟨hfv, a, h3, h4, wg_of hr hf (e := e + 1) (by omega) (by omega) h5 ?_⟩
    exact wk_app h2 (wk_succ.2 ⟨a, h3, h4, by simp [wk]⟩)
theorem gAt_first {n : Int} {l : Arcs} (hr : inR n l) (hn : n ≤ 64) {f m : Nat} (hf : Fst n l n.toNat f m) : gAt l f (m - 1) = true := by
  obtain ⟨c1, c2, c3, c4⟩ := cN_eq hf.eq
  obtain ⟨d, rfl⟩ : ∃ d, m = d + 1 := ⟨m - 1, by omega⟩
  obtain ⟨a, h1, h2, h3⟩ := wk_succ.1 c3
  have harc : wk l a.2 1 f = true := wk_succ.2 ⟨a, h1, h2, by simp [wk]⟩
  refine (gAt_iff hr).2 ⟨a, h1, h2, ?_⟩
  rw [Nat.add_sub_cancel]
  refine low_eq.2 ⟨by omega, by omega, wg_of hr hf rfl (by omega) h3 harc, fun i _ hi => ?_⟩
  rw [← Bool.not_eq_true]; intro hc
  have h4 : wk l f (i + 1) f = true := wk_succ.2 ⟨a, h1, h2, wg_wk hc⟩
  rw [c4 (i + 1) (by omega) (by omega)] at h4; cases h4
/-- What the code's search finds. -/
theorem search_found {n : Int} {l : Arcs} (hr : inR n l) (hn : n ≤ 64) {s j : Nat} (hs : s < n.toNat) (hj : j < n.toNat) (h1 : gAt l s j = true)
    (h2 : ∀ i, i < j → ∀ v : Nat, v < n.toNat → gAt l v i = false) (h3 : ∀ v : Nat, v < s → gAt l v j = false) : cf n l n.toNat = ((s : Int), ((j + 1 : Nat) : Int)) ∧ Fst n l n.toNat s (j + 1) := by
  obtain ⟨c1, c2⟩ := cN_of (n := n) (gAt_wk hr h1) (by omega) (by omega)
  rcases cf_spec n l n.toNat with ⟨g1, g2⟩ | ⟨f, m, g1, g2⟩
  · have := g2 s hs; omega
  · have hm := g2.least s hs
    have ha := gAt_first hr hn g2
    have hm1 := g2.m1
    have hjm : m = j + 1 := by
      apply Classical.byContradiction; intro hc
      rw [h2 (m - 1) (by omega) f g2.fk] at ha; cases ha
    subst hjm
    have hfs : f = s := by
      rw [Nat.add_sub_cancel] at ha
      rcases Nat.lt_trichotomy f s with h | h | h
      · rw [h3 f h] at ha; cases ha
      · exact h
      · have := g2.first s h; omega
    subst hfs
    exact ⟨g1, g2⟩
theorem search_none {n : Int} {l : Arcs} (hr : inR n l) (hn : n ≤ 64) (h : ∀ i, i < n.toNat → ∀ v : Nat, v < n.toNat → gAt l v i = false) : cf n l n.toNat = (-1, 0) := by
  rcases cf_spec n l n.toNat with ⟨g1, g2⟩ | ⟨f, m, g1, g2⟩
  · exact g1
  · have ha := gAt_first hr hn g2
    have hm1 := g2.m1
    have := (cN_eq g2.eq).2.1
    rw [h (m - 1) (by omega) f g2.fk] at ha; cases ha

def rQ (n : Int) (l : Arcs) (s : Int) (m : Nat) : Nat → Int → Bool := fun j u => rT l s n.toNat u == ((m - 1 - j : Nat) : Int)
def gQ (l : Arcs) (s : Int) (m : Nat) : Nat → Int → Bool := fun j u => gDist l s u == ((m - 1 - j : Nat) : Int)
/-- On the way both ask the same. -/
theorem q_same {n : Int} {l : Arcs} (hr : inR n l) (hn : n ≤ 64) {f m : Nat} (hf : Fst n l n.toNat f m) {j : Nat} (hj : j + 1 < m) {u : Int} (hu : wk l u (j + 1) f = true) : rQ n l f m j u = gQ l f m j u := by
  obtain ⟨c1, c2, c3, c4⟩ := cN_eq hf.eq
  have hno : ∀ i, i < m - 1 - j → wk l f i u = false := fun i hi => by
    rw [← Bool.not_eq_true]; intro hc
    have := wk_app hu hc
    rw [c4 _ (by omega) (by omega)] at this; cases this
  unfold rQ gQ
  rw [Bool.eq_iff_iff, beq_iff_eq, beq_iff_eq]
  constructor
  · intro h
    obtain ⟨h1, h2, h3, h4⟩ := low_eq.1 h
    refine low_eq.2 ⟨by omega, by omega, wg_of hr hf (e := j + 1) (by omega) (by omega) h3 hu, fun i _ hi => ?_⟩
    rw [← Bool.not_eq_true]; intro hc
    have := hno i hi; rw [wg_wk hc] at this; cases this
  · intro h
    obtain ⟨h1, h2, h3, h4⟩ := low_eq.1 h
    exact low_eq.2 ⟨by omega, by omega, wg_wk h3, fun i _ hi => hno i hi⟩
structure Way (l : Arcs) (f m j : Nat) (x : Int) : Prop where
  to : wk l x j f = true
  back : wk l f (m - j) x = true
theorem cst_step {n : Int} {l : Arcs} (hr : inR n l) {f m : Nat} (hf : Fst n l n.toNat f m) {j : Nat} (hj : j + 1 < m) {x : Int} (hw : Way l f m j x) :
    ∃ a ∈ l, a.1 = x ∧ folL l (rQ n l f m j) x = a.2 ∧ Way l f m (j + 1) a.2 := by
  obtain ⟨c1, c2, c3, c4⟩ := cN_eq hf.eq
  have hb := hw.back
  rw [show m - j = (m - 1 - j) + 1 by omega] at hb
  obtain ⟨a, h1, h2, h3⟩ := wk_succ.1 hb
  have hto : ∀ b ∈ l, b.1 = x → wk l b.2 (j + 1) f = true := fun b hb hbx => wk_app hw.to (wk_succ.2 ⟨b, hb, hbx, by simp [wk]⟩)
  rcases fol_cases hr (rQ n l f m j) x with ⟨g1, g2⟩ | ⟨b, g1, g2, g3, g4, g5⟩
  · have := g2 a h1 h2
    have hq : rQ n l f m j a.2 = true := by
      unfold rQ; rw [beq_iff_eq]
      refine low_eq.2 ⟨by omega, by omega, h3, fun i hi1 hi => ?_⟩
      rw [← Bool.not_eq_true]; intro hc
      have := wk_app (hto a h1 h2) hc
      rw [c4 _ (by omega) (by omega)] at this; cases this
    rw [hq] at this; cases this
  · refine ⟨b, g1, g2, g4, hto b g1 g2, ?_⟩
    unfold rQ at g3; rw [beq_iff_eq] at g3
    rw [show m - (j + 1) = m - 1 - j by omega]
    exact (low_eq.1 g3).2.2.1
theorem cst_same {n : Int} {l : Arcs} (hr : inR n l) (hn : n ≤ 64) {f m : Nat} (hf : Fst n l n.toNat f m) : ∀ j, j < m → cst l (gQ l f m) f j = cst l (rQ n l f m) f j ∧ Way l f m j (cst l (rQ n l f m) f j).2
  | 0, _ => ⟨rfl, by
    obtain ⟨c1, c2, c3, c4⟩ := cN_eq hf.eq
    exact ⟨by simp [wk, cst], c3⟩⟩
  | j + 1, hj => by
    obtain ⟨h1, h2⟩ := cst_same hr hn hf j (by omega)
    obtain ⟨a, g1, g2, g3, g4⟩ := cst_step hr hf hj h2
    have hq : folL l (gQ l f m j) (cst l (rQ n l f m) f j).2 = folL l (rQ n l f m j) (cst l (rQ n l f m) f j).2 := by
      refine fol_congr hr fun b hb hbx => (q_same hr hn hf hj ?_).symm
      exact wk_app h2.to (wk_succ.2 ⟨b, hb, hbx, by simp [wk]⟩)
    simp only [cst, h1, hq]
    exact ⟨trivial, by rw [g3]; exact g4⟩
/-- What both return. -/
def cycR (n : Int) (l : Arcs) : List Int × Int :=
  if gcheck n l ≠ 0 then ([], gcheck n l) else if (cf n l n.toNat).1 < 0 then ([], 7) else ((cst l (rQ n l (cf n l n.toNat).1 (cf n l n.toNat).2.toNat) (cf n l n.toNat).1 ((cf n l n.toNat).2.toNat - 1)).1, 0)
end Go.Proofs.Ytaiidcelopfjlaa
