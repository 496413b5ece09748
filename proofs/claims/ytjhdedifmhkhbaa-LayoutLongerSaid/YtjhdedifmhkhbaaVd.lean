/- Effects over values without addresses, and that they mean what the small language's mean. Plain lemmas; no statement is claimed here. -/
import Derived.Test.YtjhdedifmhkhbaaVc
namespace Go.Lft
open Go
set_option linter.unusedVariables false
set_option linter.unusedSimpArgs false

def nmd (σ : Nam) (i ver : Nat) (p : Option (Nat × Nat)) : Nam := fun j w => if j = i ∧ w = ver then some p else σ j w
theorem nam_same (σ : Nam) (i ver : Nat) (p : Option (Nat × Nat))   : nmd σ i ver p i ver = some p := by simp [nmd]
theorem nam_ne (σ : Nam) {i ver j w : Nat} (p : Option (Nat × Nat)) (h : ¬ (j = i ∧ w = ver)) : nmd σ i ver p j w = σ j w := by simp only [nmd]; rw [if_neg h]

theorem St.free {c : Cfg} (hs : St c) {b : Nat} (hb : c.h b = none) (w : Bool) : c.g w b = none := by
  cases hg : c.g w b with
  | none => rfl
  | some o => have := hs.ext w b o hg; rw [hb] at this; cases this

/-- A block is turned, or put into a new one. -/
theorem St.turn {c : Cfg} (hs : St c) (n0 : Nat) {i : Nat} {B : Blk} (hi : c.H[i]? = some B) {v' b' s' t : Nat} {cells : List A} {vs z : List Value}
    (hor : (c.σ i B.ver = some (some (b', s')) ∧ B.ver ≤ v') ∨ (c.h b' = none ∧ B.ver < v')) (hl : (vs ++ z).length = s') (hr : RL c.g c.σ cells vs) :
    let d : Cfg := ⟨c.g, nmd c.σ i v' (some (b', s')), c.H.set i ⟨v', cells⟩, upd c.h b' (.cells (vs ++ z).toArray t)⟩
    St d ∧ Lat n0 c d ∧ ∀ j ver p, c.σ j ver = some p → d.σ j ver = some p := by
  intro d
  have hlt : i < c.H.length := (List.getElem?_eq_some_iff.1 hi).1
  have hle : ∀ j ver p, c.σ j ver = some p → d.σ j ver = some p := by
    intro j ver p hp
    by_cases hc : j = i ∧ ver = v'
    · obtain ⟨rfl, rfl⟩ := hc
      obtain ⟨C, h1, h2⟩ := hs.nam _ _ _ hp
      rw [hi] at h1; cases h1
      rcases hor with ⟨h3, h4⟩ | ⟨_, h4⟩
      · have hvv : ver = B.ver := Nat.le_antisymm h2 h4
        subst hvv
        rw [h3] at hp; cases hp
        exact nam_same _ _ _ _
      · omega
    · exact (nam_ne _ _ hc).trans hp
  have hg : ∀ w, c.g w b' = none := by
    rcases hor with ⟨h3, _⟩ | ⟨hf, _⟩
    · rcases hs.blk i B hi with ⟨e0, _⟩ | ⟨b0, s0, vs0, z0, t0, e1, e2, e3, e4, e5⟩
      · rw [h3] at e0; cases e0
      · rw [h3] at e1; cases e1; exact e2
    · exact hs.free hf
  have hget : ∀ j C, (c.H.set i ⟨v', cells⟩)[j]? = some C → (j = i ∧ C = ⟨v', cells⟩) ∨ (j ≠ i ∧ c.H[j]? = some C) := by
    intro j C hj
    rw [List.getElem?_set] at hj
    by_cases hij : i = j
    · rw [if_pos hij] at hj
      first
        | (rw [if_pos hlt] at hj; exact .inl ⟨hij.symm, by cases hj; rfl⟩)
        | exact .inl ⟨hij.symm, by cases hj; rfl⟩
    · rw [if_neg hij] at hj; exact .inr ⟨fun h => hij h.symm, hj⟩
  have hsig : ∀ j C, j ≠ i → c.H[j]? = some C → d.σ j C.ver = c.σ j C.ver := fun j C hji _ => nam_ne _ _ (fun h => hji h.1)
  have hapart : ∀ j C bj sj, j ≠ i → c.H[j]? = some C → c.σ j C.ver = some (some (bj, sj)) → bj ≠ b' := by
    intro j C bj sj hji hj hσ heq
    subst heq
    rcases hor with ⟨h3, _⟩ | ⟨hf, _⟩
    · exact hji (hs.inj j i C B _ _ _ hj hi hσ h3)
    · rcases hs.blk j C hj with ⟨k1, _⟩ | ⟨b1, s1, _, _, _, k1, _, k3, _⟩
      · rw [hσ] at k1; cases k1
      · rw [hσ] at k1; cases k1; rw [hf] at k3; cases k3
  refine ⟨⟨fun w => ext_out (hs.ext w) (hg w) _, fun j C hj => ?_, fun j k C D bb s1 s2 hj hk h1 h2 => ?_, fun j ver p hp => ?_⟩, ⟨rfl, Ext.refl _, fun x hx => .inl hx, fun x hx => ?_, fun x o hx hn => ?_, fun j C x s1 hj h1 => ?_, fun j ver p _ hp => hle j ver p hp, fun hn => by simpa [d] using hn⟩, hle⟩
  · rcases hget j C hj with ⟨rfl, rfl⟩ | ⟨hji, hj⟩
    · exact .inr ⟨b', s', vs, z, t, nam_same _ _ _ _, hg, upd_same _ _ _, hl, hr.mono (fun _ => Ext.refl _) hle⟩
    · rcases hs.blk j C hj with ⟨k1, k2⟩ | ⟨b1, s1, vs1, z1, t1, k1, k2, k3, k4, k5⟩
      · exact .inl ⟨(hsig j C hji hj).trans k1, k2⟩
      · refine .inr ⟨b1, s1, vs1, z1, t1, (hsig j C hji hj).trans k1, k2, ?_, k4, k5.mono (fun _ => Ext.refl _) hle⟩
        exact (upd_ne _ _ (hapart j C b1 s1 hji hj k1)).trans k3
  · rcases hget j C hj with ⟨rfl, rfl⟩ | ⟨hji, hj'⟩ <;> rcases hget k D hk with ⟨rfl, rfl⟩ | ⟨hki, hk'⟩
    · rfl
    · rw [show d.σ j v' = _ from nam_same _ _ _ _] at h1; cases h1
      rw [hsig k D hki hk'] at h2
      exact absurd rfl (hapart k D _ s2 hki hk' h2)
    · rw [show d.σ k v' = _ from nam_same _ _ _ _] at h2; cases h2
      rw [hsig j C hji hj'] at h1
      exact absurd rfl (hapart j C _ s1 hji hj' h1)
    · rw [hsig j C hji hj'] at h1; rw [hsig k D hki hk'] at h2
      exact hs.inj j k C D _ _ _ hj' hk' h1 h2
  · by_cases hc : j = i ∧ ver = v'
    · obtain ⟨rfl, rfl⟩ := hc
      exact ⟨⟨ver, cells⟩, by simp [d, hlt], Nat.le_refl _⟩
    · have hp' : c.σ j ver = some p := by rw [← hp]; exact (nam_ne _ _ hc).symm
      obtain ⟨C, h1, h2⟩ := hs.nam j ver p hp'
      by_cases hji : j = i
      · subst hji
        rw [hi] at h1; cases h1
        exact ⟨⟨v', cells⟩, by simp [d, hlt], by simp only; omega⟩
      · exact ⟨C, by simp only [d]; rw [List.getElem?_set_ne (Ne.symm hji)]; exact h1, h2⟩
  · simp only [d, upd]; split
    · simp
    · exact hx
  · refine (upd_ne _ _ ?_).trans hx
    rintro rfl
    rcases hor with ⟨h3, _⟩ | ⟨hf, _⟩
    · exact hn i B _ hi h3
    · rw [hf] at hx; cases hx
  · rcases hget j C hj with ⟨rfl, rfl⟩ | ⟨hji, hj'⟩
    · rw [show d.σ j v' = _ from nam_same _ _ _ _] at h1; cases h1
      rcases hor with ⟨h3, _⟩ | ⟨hf, _⟩
      · exact .inr ⟨j, B, _, hi, h3, .inl rfl⟩
      · exact .inl hf
    · rw [hsig j C hji hj'] at h1
      exact .inr ⟨j, C, s1, hj', h1, .inl rfl⟩

/-- A block that is not there yet stays so. -/
theorem St.bump {c : Cfg} (hs : St c) (n0 : Nat) {i : Nat} {B : Blk} (hi : c.H[i]? = some B) (hv : c.σ i B.ver = some none) :
    let d : Cfg := ⟨c.g, nmd c.σ i (B.ver + 1) none, c.H.set i ⟨B.ver + 1, []⟩, c.h⟩
    St d ∧ Lat n0 c d ∧ ∀ j ver p, c.σ j ver = some p → d.σ j ver = some p := by
  intro d
  have hlt : i < c.H.length := (List.getElem?_eq_some_iff.1 hi).1
  have hle : ∀ j ver p, c.σ j ver = some p → d.σ j ver = some p := by
    intro j ver p hp
    refine (nam_ne _ _ ?_).trans hp
    rintro ⟨rfl, rfl⟩
    obtain ⟨C, h1, h2⟩ := hs.nam _ _ _ hp
    rw [hi] at h1; cases h1
    omega
  have hget : ∀ j C, (c.H.set i ⟨B.ver + 1, []⟩)[j]? = some C → (j = i ∧ C = ⟨B.ver + 1, []⟩) ∨ (j ≠ i ∧ c.H[j]? = some C) := by
    intro j C hj
    rw [List.getElem?_set] at hj
    by_cases hij : i = j
    · rw [if_pos hij] at hj
      first
        | (rw [if_pos hlt] at hj; exact .inl ⟨hij.symm, by cases hj; rfl⟩)
        | exact .inl ⟨hij.symm, by cases hj; rfl⟩
    · rw [if_neg hij] at hj; exact .inr ⟨fun h => hij h.symm, hj⟩
  have hsig : ∀ j C, j ≠ i → d.σ j C.ver = c.σ j (Blk.ver C) := fun j C hji => nam_ne _ _ (fun h => hji h.1)
  have hnone : d.σ i (B.ver + 1) = some none := nam_same _ _ _ _
  refine ⟨⟨hs.ext, fun j C hj => ?_, fun j k C D bb s1 s2 hj hk h1 h2 => ?_, fun j ver p hp => ?_⟩, ⟨rfl, Ext.refl _, fun x hx => .inl hx, fun x hx => hx, fun x o hx hn => hx, fun j C x s1 hj h1 => ?_, fun j ver p _ hp => hle j ver p hp, fun hn => by simpa [d] using hn⟩, hle⟩
  · rcases hget j C hj with ⟨rfl, rfl⟩ | ⟨hji, hj⟩
    · exact .inl ⟨hnone, rfl⟩
    · rcases hs.blk j C hj with ⟨k1, k2⟩ | ⟨b1, s1, vs1, z1, t1, k1, k2, k3, k4, k5⟩
      · exact .inl ⟨(hsig j C hji).trans k1, k2⟩
      · exact .inr ⟨b1, s1, vs1, z1, t1, (hsig j C hji).trans k1, k2, k3, k4, k5.mono (fun _ => Ext.refl _) hle⟩
  · rcases hget j C hj with ⟨rfl, rfl⟩ | ⟨hji, hj'⟩
    · rw [hnone] at h1; cases h1
    · rcases hget k D hk with ⟨rfl, rfl⟩ | ⟨hki, hk'⟩
      · rw [hnone] at h2; cases h2
      · rw [hsig j C hji] at h1; rw [hsig k D hki] at h2
        exact hs.inj j k C D _ _ _ hj' hk' h1 h2
  · by_cases hc : j = i ∧ ver = B.ver + 1
    · obtain ⟨rfl, rfl⟩ := hc
      exact ⟨⟨B.ver + 1, []⟩, by simp [d, hlt], Nat.le_refl _⟩
    · have hp' : c.σ j ver = some p := by rw [← hp]; exact (nam_ne _ _ hc).symm
      obtain ⟨C, h1, h2⟩ := hs.nam j ver p hp'
      by_cases hji : j = i
      · subst hji
        rw [hi] at h1; cases h1
        exact ⟨⟨B.ver + 1, []⟩, by simp [d, hlt], by simp only; omega⟩
      · exact ⟨C, by simp only [d]; rw [List.getElem?_set_ne (Ne.symm hji)]; exact h1, h2⟩
  · rcases hget j C hj with ⟨rfl, rfl⟩ | ⟨hji, hj'⟩
    · rw [hnone] at h1; cases h1
    · rw [hsig j C hji] at h1
      exact .inr ⟨j, C, s1, hj', h1, .inl rfl⟩

/-- A block that is not there yet: what a nil slice may come to name. -/
theorem St.virt {c : Cfg} (hs : St c) (n0 : Nat) :
    let d : Cfg := ⟨c.g, nmd c.σ c.H.length 0 none, c.H ++ [⟨0, []⟩], c.h⟩
    St d ∧ Lat n0 c d ∧ ∀ j ver p, c.σ j ver = some p → d.σ j ver = some p := by
  intro d
  have hlt : ∀ j ver p, c.σ j ver = some p → j < c.H.length := fun j ver p hp => by
    obtain ⟨B, h1, _⟩ := hs.nam j ver p hp; exact (List.getElem?_eq_some_iff.1 h1).1
  have hle : ∀ j ver p, c.σ j ver = some p → d.σ j ver = some p := fun j ver p hp => (nam_ne _ _ (fun h => by have := hlt j ver p hp; omega)).trans hp
  have hget : ∀ j C, (c.H ++ [(⟨0, []⟩ : Blk)])[j]? = some C → (j = c.H.length ∧ C = ⟨0, []⟩) ∨ c.H[j]? = some C := by
    intro j C hj
    by_cases h1 : j < c.H.length
    · rw [List.getElem?_append_left h1] at hj; exact .inr hj
    · rw [List.getElem?_append_right (by omega)] at hj
      by_cases h2 : j = c.H.length
      · subst h2; simp at hj; exact .inl ⟨rfl, hj.symm⟩
      · rw [List.getElem?_eq_none (by simp; omega)] at hj; cases hj
  have hold : ∀ j C p, c.H[j]? = some C → d.σ j C.ver = some p → c.σ j C.ver = some p := fun j C p hj h1 => by
    rw [← h1]; exact (nam_ne _ _ (fun h => by have := (List.getElem?_eq_some_iff.1 hj).1; omega)).symm
  have hnone : d.σ c.H.length 0 = some none := nam_same _ _ _ _
  refine ⟨⟨hs.ext, fun j C hj => ?_, fun j k C D bb s1 s2 hj hk h1 h2 => ?_, fun j ver p hp => ?_⟩, ⟨rfl, Ext.refl _, fun x hx => .inl hx, fun x hx => hx, fun x o hx hn => hx, fun j C x s1 hj h1 => ?_, fun j ver p _ hp => hle j ver p hp, fun hn => by simp [d]; omega⟩, hle⟩
  · rcases hget j C hj with ⟨rfl, rfl⟩ | hj
    · exact .inl ⟨hnone, rfl⟩
    · rcases hs.blk j C hj with ⟨k1, k2⟩ | ⟨b1, s1, vs1, z1, t1, k1, k2, k3, k4, k5⟩
      · exact .inl ⟨hle _ _ _ k1, k2⟩
      · exact .inr ⟨b1, s1, vs1, z1, t1, hle _ _ _ k1, k2, k3, k4, k5.mono (fun _ => Ext.refl _) hle⟩
  · rcases hget j C hj with ⟨rfl, rfl⟩ | hj'
    · rw [hnone] at h1; cases h1
    · rcases hget k D hk with ⟨rfl, rfl⟩ | hk'
      · rw [hnone] at h2; cases h2
      · exact hs.inj j k C D _ _ _ hj' hk' (hold j C _ hj' h1) (hold k D _ hk' h2)
  · by_cases hc : j = c.H.length ∧ ver = 0
    · obtain ⟨rfl, rfl⟩ := hc
      exact ⟨⟨0, []⟩, by simp [d], Nat.le_refl _⟩
    · have hp' : c.σ j ver = some p := by rw [← hp]; exact (nam_ne _ _ hc).symm
      obtain ⟨C, h1, h2⟩ := hs.nam j ver p hp'
      exact ⟨C, by simp only [d]; rw [List.getElem?_append_left (List.getElem?_eq_some_iff.1 h1).1]; exact h1, h2⟩
  · rcases hget j C hj with ⟨rfl, rfl⟩ | hj'
    · rw [hnone] at h1; cases h1
    · exact .inr ⟨j, C, s1, hj', hold j C _ hj' h1, .inl rfl⟩

/-- A new block. -/
theorem St.alloc {c : Cfg} (hs : St c) (n0 : Nat) {b t : Nat} (hb : c.h b = none) {cells : List A} {vs z : List Value} (hr : RL c.g c.σ cells vs) :
    let d : Cfg := ⟨c.g, nmd c.σ c.H.length 0 (some (b, (vs ++ z).length)), c.H ++ [⟨0, cells⟩], upd c.h b (.cells (vs ++ z).toArray t)⟩
    St d ∧ Lat n0 c d ∧ ∀ j ver p, c.σ j ver = some p → d.σ j ver = some p := by
  intro d
  have hlt : ∀ j ver p, c.σ j ver = some p → j < c.H.length := fun j ver p hp => by
    obtain ⟨B, h1, _⟩ := hs.nam j ver p hp; exact (List.getElem?_eq_some_iff.1 h1).1
  have hle : ∀ j ver p, c.σ j ver = some p → d.σ j ver = some p := fun j ver p hp => (nam_ne _ _ (fun h => by have := hlt j ver p hp; omega)).trans hp
  have hget : ∀ j C, (c.H ++ [(⟨0, cells⟩ : Blk)])[j]? = some C → (j = c.H.length ∧ C = ⟨0, cells⟩) ∨ c.H[j]? = some C := by
    intro j C hj
    by_cases h1 : j < c.H.length
    · rw [List.getElem?_append_left h1] at hj; exact .inr hj
    · rw [List.getElem?_append_right (by omega)] at hj
      by_cases h2 : j = c.H.length
      · subst h2; simp at hj; exact .inl ⟨rfl, hj.symm⟩
      · rw [List.getElem?_eq_none (by simp; omega)] at hj; cases hj
  have hold : ∀ j C b1 s1, c.H[j]? = some C → d.σ j C.ver = some (some (b1, s1)) → c.σ j C.ver = some (some (b1, s1)) := fun j C b1 s1 hj h1 => by
    rw [← h1]; exact (nam_ne _ _ (fun h => by have := (List.getElem?_eq_some_iff.1 hj).1; omega)).symm
  have hne : ∀ j C b1 s1, c.H[j]? = some C → c.σ j C.ver = some (some (b1, s1)) → b1 ≠ b := by
    rintro j C b1 s1 hj h1 rfl
    rcases hs.blk j C hj with ⟨k1, _⟩ | ⟨b2, s2, _, _, _, k1, _, k3, _⟩
    · rw [h1] at k1; cases k1
    · rw [h1] at k1; cases k1; rw [hb] at k3; cases k3
  refine ⟨⟨fun w => ext_out (hs.ext w) (hs.free hb w) _, fun j C hj => ?_, fun j k C D bb s1 s2 hj hk h1 h2 => ?_, fun j ver p hp => ?_⟩, ⟨rfl, Ext.refl _, fun x hx => .inl hx, fun x hx => ?_, fun x o hx hn => ?_, fun j C x s1 hj h1 => ?_, fun j ver p _ hp => hle j ver p hp, fun hn => by simp [d]; omega⟩, hle⟩
  · rcases hget j C hj with ⟨rfl, rfl⟩ | hj
    · exact .inr ⟨b, _, vs, z, t, nam_same _ _ _ _, hs.free hb, upd_same _ _ _, rfl, hr.mono (fun _ => Ext.refl _) hle⟩
    · rcases hs.blk j C hj with ⟨k1, k2⟩ | ⟨b1, s1, vs1, z1, t1, k1, k2, k3, k4, k5⟩
      · exact .inl ⟨hle _ _ _ k1, k2⟩
      · exact .inr ⟨b1, s1, vs1, z1, t1, hle _ _ _ k1, k2, (upd_ne _ _ (hne j C b1 s1 hj k1)).trans k3, k4, k5.mono (fun _ => Ext.refl _) hle⟩
  · rcases hget j C hj with ⟨rfl, rfl⟩ | hj <;> rcases hget k D hk with ⟨rfl, rfl⟩ | hk
    · rfl
    · rw [show d.σ c.H.length 0 = _ from nam_same _ _ _ _] at h1; cases h1
      exact absurd rfl (hne k D _ s2 hk (hold k D _ _ hk h2))
    · rw [show d.σ c.H.length 0 = _ from nam_same _ _ _ _] at h2; cases h2
      exact absurd rfl (hne j C _ s1 hj (hold j C _ _ hj h1))
    · exact hs.inj j k C D _ _ _ hj hk (hold j C _ _ hj h1) (hold k D _ _ hk h2)
  · by_cases hc : j = c.H.length ∧ ver = 0
    · obtain ⟨rfl, rfl⟩ := hc
      exact ⟨⟨0, cells⟩, by simp [d], Nat.le_refl _⟩
    · have hp' : c.σ j ver = some p := by rw [← hp]; exact (nam_ne _ _ hc).symm
      obtain ⟨C, h1, h2⟩ := hs.nam j ver p hp'
      exact ⟨C, by simp only [d]; rw [List.getElem?_append_left (List.getElem?_eq_some_iff.1 h1).1]; exact h1, h2⟩
  · simp only [d, upd]; split
    · simp
    · exact hx
  · exact (upd_ne _ _ (by rintro rfl; rw [hb] at hx; cases hx)).trans hx
  · rcases hget j C hj with ⟨rfl, rfl⟩ | hj
    · rw [show d.σ c.H.length 0 = _ from nam_same _ _ _ _] at h1; cases h1
      exact .inl hb
    · exact .inr ⟨j, C, s1, hj, hold j C _ _ hj h1, .inl rfl⟩

/-! ### What is appended or copied -/
def flatA (size : Nat) : List A → Option (List A)
  | [] => some []
  | a :: r => a.cells.bind fun cs => if cs.length = size then (flatA size r).bind fun l => some (cs ++ l) else none

theorem flat_get {k : Nat} : ∀ (fl : List (List Value)), (∀ x ∈ fl, x.length = k) → fl.flatten.length = fl.length * k ∧ ∀ i x, fl[i]? = some x → (fl.flatten.drop (i * k)).take k = x
  | [], _ => by simp
  | y :: r, h => by
    obtain ⟨h1, h2⟩ := flat_get r fun x hx => h x (by simp [hx])
    have hy := h y (by simp)
    refine ⟨by simp only [List.flatten_cons, List.length_append, List.length_cons]; rw [h1, hy, Nat.add_mul]; omega, fun i x hx => ?_⟩
    cases i with
    | zero => simp at hx; subst hx; simp [← hy]
    | succ i =>
      simp at hx
      have := h2 i x hx
      rw [List.flatten_cons, show (i + 1) * k = y.length + i * k by rw [Nat.add_mul, hy]; omega, List.drop_append, List.drop_eq_nil_of_le (by omega), Nat.add_sub_cancel_left]
      simpa using this

theorem flat_rel {g : Bool → Heap} {σ : Nam} {k : Nat} : ∀ (l : List A) (fl : List (List Value)) (c : List A), l.length = fl.length →
    (∀ (i : Nat) (a : A) (x : List Value), l[i]? = some a → fl[i]? = some x → ∃ cs, a.cells = some cs ∧ cs.length = k ∧ RL g σ cs x) → flatA k l = some c → RL g σ c fl.flatten
  | [], fl, c, hl, _, h => by
    have : fl = [] := by cases fl <;> simp at hl ⊢
    subst this; cases h; exact RL.nil
  | a :: r, fl, c, hl, hh, h => by
    cases fl with
    | nil => simp at hl
    | cons x fl =>
      obtain ⟨cs, h1, h2, h3⟩ := hh 0 a x (by simp) (by simp)
      simp only [flatA, h1, Option.bind_some, h2, if_true, Option.bind_eq_some_iff] at h
      obtain ⟨m, h4, h5⟩ := h
      cases h5
      exact h3.app (flat_rel r fl m (by simpa using hl) (fun i a x g1 g2 => hh (i + 1) a x (by simpa using g1) (by simpa using g2)) h4)

def newsA (H : List Blk) (size : Nat) : A → Option (Nat × List A)
  | .v (.slice none 0 0) => some (0, [])
  | .fs w l => (flatA size l).bind fun cs => if cs.all A.one = true then some (l.length, cs) else none
  | .vs j ver k m => if k = size then (blkAt H j ver).bind fun l => if m * size ≤ l.length ∧ (l.take (m * size)).all A.one = true then some (m, l.take (m * size)) else none else none
  | .sl j ver k o m => if k = size then (blkAt H j ver).bind fun l => if o + m * size ≤ l.length ∧ ((l.drop o).take (m * size)).all A.one = true then some (m, (l.drop o).take (m * size)) else none else none
  | _ => none

theorem news_sound {c : Cfg} (hs : St c) {size m : Nat} {x : A} {v : Value} {news : List A} (h : newsA c.H size x = some (m, news)) (hr : Rel c.g c.σ x v) :
    ∃ y cp ns, v = .slice y m cp ∧ cellsOf c.h size m v = some ns ∧ RL c.g c.σ news ns ∧ news.length = m * size ∧ ns.all one = true ∧ ∀ q, q ≤ m → cellsOf c.h size q v = some (ns.take (q * size)) := by
  have key : ∀ {y : Option Addr} {cp : Nat} {ns : List Value}, v = .slice y m cp → cellsOf c.h size m v = some ns → ns.length = m * size → ∀ q, q ≤ m → cellsOf c.h size q v = some (ns.take (q * size)) := by
    intro y cp ns hv hc hl q hq
    subst hv
    unfold cellsOf at hc ⊢
    by_cases hq0 : q * size = 0
    · rw [if_pos hq0]; simp [hq0]
    · rw [if_neg hq0]
      have hm0 : m * size ≠ 0 := by
        intro h0
        have : q * size ≤ m * size := Nat.mul_le_mul_right size hq
        omega
      rw [if_neg hm0] at hc
      cases y with
      | none => cases hc; simp
      | some y =>
        obtain ⟨b, o, s⟩ := y
        cases s with
        | some s => cases hc
        | none =>
          have := rd_in hc (p := 0) (n := q * size) (by have : q * size ≤ m * size := Nat.mul_le_mul_right size hq; omega)
          simpa using this
  unfold newsA at h
  split at h
  · cases hr
    cases h
    exact ⟨none, 0, [], rfl, by simp [cellsOf], RL.nil, by simp, rfl, fun q hq => by
      have : q = 0 := by omega
      subst this; simp [cellsOf]⟩
  · rename_i w l
    cases hr with
    | fs0 w a cp =>
      simp only [flatA, Option.bind_some, List.all_nil, if_true, List.length_nil] at h
      cases h
      exact ⟨a, cp, [], rfl, by simp [cellsOf], RL.nil, by simp, rfl, fun q hq => by
        have : q = 0 := by omega
        subst this; simp [cellsOf]⟩
    | fs w l b o cp k f h1 h2 h3 =>
      simp only [Option.bind_eq_some_iff] at h
      obtain ⟨cs, g1, g2⟩ := h
      split at g2
      · rename_i hone
        cases g2
        by_cases hl0 : l.length = 0
        · have : l = [] := by cases l <;> simp at hl0 ⊢
          subst this
          simp [flatA] at g1; subst g1
          exact ⟨_, _, [], rfl, by simp [cellsOf], RL.nil, by simp, rfl, fun q hq => by
            have : q = 0 := by simpa using hq
            subst this; simp [cellsOf]⟩
        -- the size of an element
        have hk : k = size := by
          obtain ⟨a, r, hl⟩ : ∃ a r, l = a :: r := by cases l with | nil => simp at hl0 | cons a r => exact ⟨a, r, rfl⟩
          subst hl
          obtain ⟨ca, e1, e2, _⟩ := h2 0 a (by simp)
          simp only [flatA, e1, Option.bind_some] at g1
          split at g1
          · omega
          · cases g1
        subst hk
        let fl := (List.range l.length).map f
        have hfl : ∀ i x, fl[i]? = some x → x = f i ∧ i < l.length := fun i x hx => by
          simp only [fl, List.getElem?_map, Option.map_eq_some_iff] at hx
          obtain ⟨j, hj, rfl⟩ := hx
          have hi : i < l.length := by have := (List.getElem?_eq_some_iff.1 hj).1; simpa using this
          rw [List.getElem?_range hi] at hj
          cases hj
          exact ⟨rfl, hi⟩
        have hk2 : ∀ x ∈ fl, x.length = k := by
          intro x hx
          obtain ⟨i, hi, rfl⟩ := List.mem_iff_getElem.1 hx
          have hi' : i < l.length := by simpa [fl] using hi
          obtain ⟨ca, e1, e2, e3⟩ := h2 i l[i] (by simp [hi'])
          simp only [fl, List.getElem_map, List.getElem_range]
          exact rd_len e3
        obtain ⟨f1, f2⟩ := flat_get fl hk2
        have hfll : fl.length = l.length := by simp [fl]
        have hrl : RL c.g c.σ news fl.flatten := flat_rel l fl news hfll.symm (fun i a x g3 g4 => by
          obtain ⟨rfl, hi⟩ := hfl i x g4
          obtain ⟨ca, e1, e2, e3⟩ := h2 i a g3
          exact ⟨ca, e1, e2, by rw [rd_len e3]; exact e2, fun j q y k1 k2 => h3 i a ca j q y g3 e1 k1 k2⟩) g1
        have hsl : Sl c.h k (.slice (some ⟨b, o, none⟩) l.length cp) l.length f := ⟨.inr ⟨b, o, cp, rfl, h1, fun i hi => by
          obtain ⟨ca, e1, e2, e3⟩ := h2 i l[i] (by simp [hi])
          exact rd_ext (hs.ext w) e3⟩⟩
        have hco : cellsOf c.h k l.length (.slice (some ⟨b, o, none⟩) l.length cp) = some fl.flatten := Sl.cells hsl (by rw [f1, hfll]) (fun i hi => f2 i (f i) (by simp [fl, hi]))
        exact ⟨_, _, fl.flatten, rfl, hco, hrl, by rw [hrl.1, f1, hfll], hrl.one hone, key rfl hco (by rw [f1, hfll])⟩
      · cases g2
  · rename_i j ver k mm
    split at h
    · rename_i hk
      subst hk
      cases hb : Lft.blkAt c.H j ver with
      | none => rw [hb] at h; cases h
      | some l =>
        rw [hb] at h
        simp only [Option.bind_some] at h
        split at h
        · rename_i hc
          cases h
          cases hr with
          | vs0 j ver k h1 =>
            refine ⟨none, 0, [], rfl, by simp [cellsOf], ?_, by simp, rfl, fun q hq => ?_⟩
            · simp; exact RL.nil
            · have : q = 0 := by omega
              subst this; simp [cellsOf]
          | vs j ver k n b s o' cp h1 h2 h3 =>
            obtain ⟨b', s', vs, z, t, e1, e2, e3, e4, e5⟩ := hs.blkAt hb h1
            rw [h1] at e1; cases e1
            have hrl := e5.take (m * k)
            have hlen : (l.take (m * k)).length = m * k := by simp; omega
            have hlv : (vs.take (m * k)).length = m * k := by rw [← hrl.1, hlen]
            have hco : cellsOf c.h k m (.slice (some ⟨b, o', none⟩) m cp) = some (vs.take (m * k)) := by
              unfold cellsOf
              split
              · rename_i h0; simp [h0]
              · rename_i h0
                have hcp : 0 < cp := by
                  apply Nat.pos_of_ne_zero; intro hc0
                  have : m = 0 := by omega
                  exact h0 (by simp [this])
                obtain ⟨rfl, _⟩ := h3 hcp
                simp only
                have := rd_front e3 (o := 0) (n := m * k) (by have := e5.1; omega)
                simpa using this
            exact ⟨_, _, _, rfl, hco, hrl, hlen, hrl.one hc.2, key rfl hco hlv⟩
        · cases h
    · cases h
  · rename_i j ver k o mm
    cases hr with
    | sl j ver k o n b s o' cp h1 h2 h3 =>
      split at h
      · rename_i hk
        subst hk
        cases hb : Lft.blkAt c.H j ver with
        | none => rw [hb] at h; cases h
        | some l =>
          rw [hb] at h
          simp only [Option.bind_some] at h
          split at h
          · rename_i hc
            cases h
            obtain ⟨b', s', vs, z, t, e1, e2, e3, e4, e5⟩ := hs.blkAt hb h1
            rw [h1] at e1; cases e1
            have hrl := (e5.drop o).take (m * k)
            have hlen : ((l.drop o).take (m * k)).length = m * k := by simp; omega
            have hlv : ((vs.drop o).take (m * k)).length = m * k := by rw [← hrl.1, hlen]
            have hco : cellsOf c.h k m (.slice (some ⟨b, o', none⟩) m cp) = some ((vs.drop o).take (m * k)) := by
              unfold cellsOf
              split
              · rename_i h0; simp [h0]
              · rename_i h0
                have hcp : 0 < cp := by
                  apply Nat.pos_of_ne_zero; intro hc0
                  have : m = 0 := by omega
                  exact h0 (by simp [this])
                obtain ⟨rfl, _⟩ := h3 hcp
                simp only
                exact rd_front e3 (by have := e5.1; omega)
            exact ⟨_, _, _, rfl, hco, hrl, hlen, hrl.one hc.2, key rfl hco hlv⟩
          · cases h
      · cases h
  · cases h

/-! ### Made cells -/
theorem repA_add {α : Type} (m n : Nat) (z : List α) : repA (m + n) z = repA m z ++ repA n z := by
  unfold repA; rw [← List.replicate_append_replicate, List.flatten_append]
theorem repA_one {α : Type} (n : Nat) (a : α) : repA n [a] = List.replicate n a := by
  unfold repA; induction n with
  | zero => rfl
  | succ n ih => rw [List.replicate_succ, List.flatten_cons, ih]; rfl
theorem repA_rel {g : Bool → Heap} {σ : Nam} (n : Nat) (z : List Value) : RL g σ (repA n (z.map .v)) (repA n z) := by
  unfold repA; induction n with
  | zero => exact RL.nil
  | succ n ih =>
    rw [List.replicate_succ, List.flatten_cons, List.replicate_succ, List.flatten_cons]
    exact RL.app ⟨by simp, fun i a x h1 h2 => by rw [List.getElem?_map, h2] at h1; cases h1; exact .v x⟩ ih
/-! ### Effects -/
def mkA (la ca : A) (bytes : Nat) (K : Int → Int → Prop) : Prop :=
  ∃ (kl kc : IntKind) (li ci : Int), la = .v (.int kl li) ∧ ca = .v (.int kc ci) ∧ 0 ≤ li ∧ li ≤ ci ∧ (bytes : Int) * ci ≤ 281474976710656 ∧ ci ≤ 9223372036854775807 ∧ K li ci

def appA (kp : Bool) (H : List Blk) (size bytes : Nat) (m : Nat) (news : List A) (R : A → List Blk → Prop) : A → Prop
  | .v (.slice none 0 0) => m * bytes ≤ 140737488355328 ∧ m ≤ 9223372036854775807 ∧ (m = 0 → R (.v (.slice none 0 0)) H) ∧ (0 < m → R (.sl H.length 0 size 0 m) (H ++ [⟨0, news⟩]))
  | .sl i ver k 0 n => kp = false ∧ k = size ∧ (n + m) * bytes ≤ 140737488355328 ∧ n + m ≤ 9223372036854775807 ∧
      bw (blkAt H i ver) fun cs => n * size ≤ cs.length ∧ R (.sl i (ver + 1) size 0 (n + m)) (H.set i ⟨ver + 1, cs.take (n * size) ++ news⟩)
  | .vs i ver k n => kp = false ∧ k = size ∧ (n + m) * bytes ≤ 140737488355328 ∧ n + m ≤ 9223372036854775807 ∧
      bw (blkAt H i ver) fun cs => n * size ≤ cs.length ∧ R (.vs i (ver + 1) size (n + m)) (H.set i ⟨ver + 1, cs.take (n * size) ++ news⟩)
  | _ => False

def cpyA (H : List Blk) (size m : Nat) (news : List A) (R : A → List Blk → Prop) : A → Prop
  | .sl i ver k o n => k = size ∧ bw (blkAt H i ver) fun l => o + n * size ≤ l.length ∧ R (.v (.int .i64 (min m n : Nat))) (H.set i ⟨ver, splA l o (news.take (min m n * size))⟩)
  | _ => False

def clrA (H : List Blk) (z : List Value) (R : A → List Blk → Prop) : A → Prop
  | .sl i ver k o n => k = z.length ∧ bw (blkAt H i ver) fun l => o + n * z.length ≤ l.length ∧ R (.v undef) (H.set i ⟨ver, splA l o (repA n (z.map .v))⟩)
  | _ => False

def stA (H : List Blk) (cs : List A) (R : A → List Blk → Prop) : A → Prop
  | .lp i ver o => bw (blkAt H i ver) fun l => o + cs.length ≤ l.length ∧ R (.v undef) (H.set i ⟨ver, splA l o cs⟩)
  | _ => False

def E.aw (kp : Bool) (e : List A) (H : List Blk) (R : A → List Blk → Prop) : E → Prop
  | .alloc t z => R (.lp H.length 0 0) (H ++ [⟨0, z.map .v⟩])
  | .box t x => bw (x.av e H) fun a => bw a.cells fun cs => R (.lp H.length 0 0) (H ++ [⟨0, cs⟩])
  | .mk t size bytes z l c => bw (l.av e H) fun la => bw (c.av e H) fun ca => mkA la ca bytes fun li ci => z.length = size ∧ R (.sl H.length 0 size 0 li.toNat) (H ++ [⟨0, repA li.toNat (z.map .v)⟩])
  | .lit t size len z ps => bw (ps.avp e H) fun qs => bw (fillA (repA len (z.map .v)) qs) fun cs => z.length = size ∧ R (.sl H.length 0 size 0 len) (H ++ [⟨0, cs⟩])
  | .app t size bytes z s x => bw (s.av e H) fun sa => bw (x.av e H) fun xa => bw (newsA H size xa) fun p => appA kp H size bytes p.1 p.2 R sa
  | .cpy size d s => kp = false ∧ bw (d.av e H) fun da => bw (s.av e H) fun xa => bw (newsA H size xa) fun p => cpyA H size p.1 p.2 R da
  | .clr z s => kp = false ∧ z.all one = true ∧ bw (s.av e H) fun sa => clrA H z R sa
  | .st n p v => kp = false ∧ bw (p.av e H) fun pa => bw (v.av e H) fun va => bw va.cells fun cs => cs.length = n ∧ stA H cs R pa

/-- What comes out: a value and a later state. -/
def Out (n0 : Nat) (c : Cfg) (e : List A) (ev : List Value) (R : A → List Blk → Prop) (v : Value) (h' : Heap) : Prop :=
  ∃ (r : A) (d : Cfg), d.h = h' ∧ R r d.H ∧ Lat n0 c d ∧ St d ∧ Rel d.g d.σ r v ∧ RL d.g d.σ e ev

theorem wr0_of {h : Heap} {b o t : Nat} {vs z news : List Value} {i : Nat} (hb : h b = some (.cells (vs ++ z).toArray t (0, 0))) (hi : o + i + news.length ≤ (vs ++ z).length) (h1 : news.all one = true) (hne : news ≠ []) :
    wr0 h (some ⟨b, o, none⟩) i news = some (upd h b (.cells ((vs ++ z).take (o + i) ++ news ++ (vs ++ z).drop (o + i + news.length)).toArray t)) := by
  cases news with
  | nil => exact absurd rfl hne
  | cons v r => exact wr_blk hb hi h1

theorem E.aw_sound {c : Cfg} (n0 : Nat) (hs : St c) {kp : Bool} {e : List A} {ev : List Value} (he : RL c.g c.σ e ev) {R : A → List Blk → Prop} : ∀ {f : E}, f.aw kp e c.H R →
    f.ok ev c.h (fun v h' => (kp = true → Ext c.h h') ∧ Out n0 c e ev R v h') := by
  intro f h
  -- a new block
  have fresh : ∀ {b t : Nat} (hb : c.h b = none) {cells : List A} {vs z : List Value} (hr : RL c.g c.σ cells vs) {r : A} {v : Value},
      R r (c.H ++ [⟨0, cells⟩]) → Rel c.g (nmd c.σ c.H.length 0 (some (b, (vs ++ z).length))) r v → (kp = true → Ext c.h (upd c.h b (.cells (vs ++ z).toArray t))) ∧ Out n0 c e ev R v (upd c.h b (.cells (vs ++ z).toArray t)) := by
    intro b t hb cells vs z hr r v hR hrv
    obtain ⟨g1, g2, g3⟩ := hs.alloc n0 (t := t) hb (z := z) hr
    exact ⟨fun _ => ext_new hb _, r, _, rfl, hR, g2, g1, hrv, he.mono (fun _ => Ext.refl _) g3⟩
  cases f with
  | alloc t z =>
    intro b hb
    have hz : RL c.g c.σ (z.map .v) z := ⟨by simp, fun i a x h1 h2 => by rw [List.getElem?_map, h2] at h1; cases h1; exact .v x⟩
    have := fresh (t := t) hb (z := []) hz (r := .lp c.H.length 0 0) (v := .pointer (some ⟨b, 0, none⟩)) h (.lp _ _ _ _ _ (nam_same _ _ _ _))
    simpa using this
  | box t x =>
    obtain ⟨a, h1, cs, h2, h3⟩ := h
    obtain ⟨v, h4, h5⟩ := av_sound hs he h1
    obtain ⟨h6, h7⟩ := h5.cells h2
    refine ⟨v, h4, fun b hb => ?_⟩
    have := fresh (t := t) hb (z := []) h6 (r := .lp c.H.length 0 0) (v := .pointer (some ⟨b, 0, none⟩)) h3 (.lp _ _ _ _ _ (nam_same _ _ _ _))
    simpa using this
  | mk t size bytes z l cc =>
    obtain ⟨la, h1, ca, h2, kl, kc, li, ci, rfl, rfl, h3, h4, h5, h6, h7, h8⟩ := h
    obtain ⟨v1, g1, g2⟩ := av_sound hs he h1
    obtain ⟨v2, g3, g4⟩ := av_sound hs he h2
    cases g2; cases g4
    refine ⟨kl, kc, li, ci, g1, g3, h3, h4, h5, h6, fun b hb => ?_⟩
    have hm := made_rep z ci.toNat
    rw [h7, show ci.toNat = li.toNat + (ci.toNat - li.toNat) by omega, repA_add] at hm
    have harr : madeCells z.toArray ((li.toNat + (ci.toNat - li.toNat)) * size) = (repA li.toNat z ++ repA (ci.toNat - li.toNat) z).toArray := by apply Array.ext'; rw [hm]
    rw [show ci.toNat * size = (li.toNat + (ci.toNat - li.toNat)) * size by congr 1; omega, harr]
    refine fresh hb (repA_rel _ _) h8 (.sl _ _ _ _ _ _ _ _ _ (nam_same _ _ _ _) (by omega) fun _ => ⟨rfl, ?_⟩)
    rw [List.length_append, repA_len, repA_len, h7, ← Nat.add_mul, Nat.zero_add]
    apply Nat.mul_le_mul_right; omega
  | lit t size len z ps =>
    obtain ⟨qs, h1, cs, h2, h3, h4⟩ := h
    obtain ⟨vs, h5, h6⟩ := avp_sound hs he h1
    obtain ⟨ws, h7, h8⟩ := fill_sound qs vs _ _ cs h6 (repA_rel len z) h2
    have hm : madeCells z.toArray (len * size) = (repA len z).toArray := by apply Array.ext'; rw [← h3, made_rep]
    refine ⟨vs, _, h5, by rw [hm]; exact h7, fun b hb => ?_⟩
    have hwl : ws.length = len * size := by
      have e1 := h8.1
      have e2 : ∀ (qs : List (Nat × A)) (c c' : List A), fillA c qs = some c' → c'.length = c.length := by
        intro qs
        induction qs with
        | nil => intro c c' h; cases h; rfl
        | cons q r ih =>
          intro c c' h
          obtain ⟨off, a⟩ := q
          simp only [fillA, Option.bind_eq_some_iff] at h
          obtain ⟨cs, _, h⟩ := h
          split at h
          · rw [ih _ _ h]; simp [splA]; omega
          · cases h
      rw [← e1, e2 qs _ _ h2, repA_len]; simp [h3]
    have := fresh (t := t) hb (z := []) h8 (r := .sl c.H.length 0 size 0 len) (v := .slice (some ⟨b, 0, none⟩) len len) h4 (.sl _ _ _ _ _ _ _ _ _ (nam_same _ _ _ _) (Nat.le_refl _) fun _ => ⟨rfl, by simp [hwl]⟩)
    simpa using this
  | app t size bytes z s x =>
    obtain ⟨sa, h1, xa, h2, ⟨m, news⟩, h3, h4⟩ := h
    obtain ⟨v1, g1, g2⟩ := av_sound hs he h1
    obtain ⟨v2, g3, g4⟩ := av_sound hs he h2
    obtain ⟨y, cp, ns, rfl, k1, k2, k3, k4, k5⟩ := news_sound hs h3 g4
    simp only at h4
    unfold appA at h4
    split at h4
    · cases g2
      obtain ⟨b1, b2, b3, b4⟩ := h4
      refine ⟨none, 0, 0, y, m, cp, ns, g1, g3, k1, by simpa using b1, by simpa using b2, fun hle => ?_, fun hlt => ?_⟩
      · have hm : m = 0 := by omega
        subst hm
        have hns : ns = [] := by have := k2.1; rw [k3] at this; simp at this; exact List.length_eq_zero_iff.1 this.symm
        subst hns
        exact ⟨c.h, rfl, fun _ => Ext.refl _, _, c, rfl, b3 rfl, Lat.refl _ _, hs, .v _, he⟩
      · refine ⟨[], by simp [cellsOf], fun cap b hb hc1 hc2 => ?_⟩
        have harr : (([] : List Value) ++ ns).toArray ++ madeCells z.toArray ((cap - (0 + m)) * size) = (ns ++ (madeCells z.toArray ((cap - (0 + m)) * size)).toList).toArray := by apply Array.ext'; simp
        rw [harr]
        rw [show 0 + m = m by omega] at hc1 ⊢
        refine fresh hb k2 (b4 (by omega)) (.sl _ _ _ _ _ _ _ _ _ (nam_same _ _ _ _) hc1 fun _ => ⟨rfl, ?_⟩)
        have hl : ns.length = m * size := by rw [← k2.1, k3]
        simp only [List.length_append, hl]
        have : (madeCells z.toArray ((cap - m) * size)).toList.length = (cap - m) * size := by simp [madeCells]
        rw [this, ← Nat.add_mul, Nat.zero_add]; apply Nat.mul_le_mul_right; omega
    · rename_i i ver k n
      obtain ⟨rfl, rfl, b1, b2, cs, b3, b4, b5⟩ := h4
      cases g2 with
      | sl i ver k o n b s o' cpp e1 e2 e3 =>
        obtain ⟨B, q1, q2, q3⟩ := blkAt_iff.1 b3
        subst q2; subst q3
        obtain ⟨b', s', vs, zz, tt, f1, f2, f3, f4, f5⟩ := (hs.blk i B q1).resolve_left (fun hx => by rw [e1] at hx; cases hx.1)
        rw [e1] at f1; cases f1
        have hnl : ns.length = m * k := by rw [← k2.1, k3]
        have hvl := f5.1
        refine ⟨some ⟨b, o', none⟩, n, cpp, y, m, cp, ns, g1, g3, k1, b1, b2, fun hle => ?_, fun hlt => ?_⟩
        · -- in place
          have hmul : n * k + m * k ≤ cpp * k := by rw [← Nat.add_mul]; exact Nat.mul_le_mul_right k hle
          have hww : ∃ zz', (vs.take (n * k) ++ ns ++ zz').length = s ∧ wr0 c.h (some ⟨b, o', none⟩) (n * k) ns = some (upd c.h b (.cells (vs.take (n * k) ++ ns ++ zz').toArray tt)) := by
            by_cases hns : ns = []
            · subst hns
              refine ⟨vs.drop (n * k) ++ zz, ?_, ?_⟩
              · rw [← f4]; simp; omega
              · simp only [wr0]
                congr 1
                rw [show vs.take (n * k) ++ [] ++ (vs.drop (n * k) ++ zz) = vs ++ zz by rw [List.append_nil, ← List.append_assoc, List.take_append_drop]]
                exact (upd_self f3).symm
            · have hm0 : m * k ≠ 0 := by intro h0; rw [h0] at hnl; exact hns (List.length_eq_zero_iff.1 hnl)
              have hcp : 0 < cpp := by
                apply Nat.pos_of_ne_zero; intro h0; rw [h0] at hmul; omega
              obtain ⟨rfl, e4⟩ := e3 hcp
              have hbd : 0 + n * k + ns.length ≤ (vs ++ zz).length := by rw [f4, hnl]; omega
              refine ⟨(vs ++ zz).drop (n * k + ns.length), ?_, ?_⟩
              · rw [← f4]; simp; simp at hbd; omega
              · rw [wr0_of f3 hbd k4 hns, Nat.zero_add]
                rw [List.take_append_of_le_length (by omega)]
          obtain ⟨zz', w1, w2⟩ := hww
          refine ⟨_, w2, ?_⟩
          refine ⟨fun hk => (by cases hk), ?_⟩
          obtain ⟨d1, d2, d3⟩ := hs.turn n0 q1 (v' := B.ver + 1) (b' := b) (s' := s) (t := tt) (cells := B.cells.take (n * k) ++ news) (vs := vs.take (n * k) ++ ns) (z := zz') (.inl ⟨e1, by omega⟩) w1 ((f5.take _).app k2)
          refine ⟨_, _, rfl, b5, d2, d1, .sl _ _ _ _ _ b s o' cpp (nam_same _ _ _ _) hle e3, he.mono (fun _ => Ext.refl _) d3⟩
        · refine ⟨vs.take (n * k), ?_, fun cap bb hb hc1 hc2 => ⟨fun hk => (by cases hk), ?_⟩⟩
          · unfold cellsOf
            split
            · rename_i h0; simp [h0]
            · rename_i h0
              have hcp : 0 < cpp := by
                apply Nat.pos_of_ne_zero; intro hc0
                have : n = 0 := by omega
                exact h0 (by simp [this])
              obtain ⟨rfl, _⟩ := e3 hcp
              simp only
              have := rd_front f3 (o := 0) (n := n * k) (by omega)
              simpa using this
          · have harr : (vs.take (n * k) ++ ns).toArray ++ madeCells z.toArray ((cap - (n + m)) * k) = ((vs.take (n * k) ++ ns) ++ (madeCells z.toArray ((cap - (n + m)) * k)).toList).toArray := by apply Array.ext'; simp
            rw [harr]
            have hsz : ((vs.take (n * k) ++ ns) ++ (madeCells z.toArray ((cap - (n + m)) * k)).toList).length = cap * k := by
              have h1 : (madeCells z.toArray ((cap - (n + m)) * k)).toList.length = (cap - (n + m)) * k := by simp [madeCells]
              rw [List.length_append, h1, List.length_append, hnl, List.length_take, Nat.min_eq_left (by omega), ← Nat.add_mul, ← Nat.add_mul]
              congr 1; omega
            obtain ⟨d1, d2, d3⟩ := hs.turn n0 q1 (v' := B.ver + 1) (b' := bb) (s' := cap * k) (t := t) (cells := B.cells.take (n * k) ++ news) (vs := vs.take (n * k) ++ ns) (z := (madeCells z.toArray ((cap - (n + m)) * k)).toList) (.inr ⟨hb, by omega⟩) hsz ((f5.take _).app k2)
            refine ⟨_, _, rfl, b5, d2, d1, .sl _ _ _ _ _ bb (cap * k) 0 cap (nam_same _ _ _ _) hc1 fun _ => ⟨rfl, by omega⟩, he.mono (fun _ => Ext.refl _) d3⟩
    · rename_i i ver k n
      obtain ⟨rfl, rfl, b1, b2, cs, b3, b4, b5⟩ := h4
      cases g2 with
      | vs0 i ver k e1 =>
        obtain ⟨B, q1, q2, q3⟩ := blkAt_iff.1 b3
        subst q2; subst q3
        have hcs : B.cells = [] := by
          rcases hs.blk i B q1 with ⟨_, h0⟩ | ⟨_, _, _, _, _, h0, _⟩
          · exact h0
          · rw [e1] at h0; cases h0
        rw [hcs] at b5
        simp only [List.take_nil, List.nil_append] at b5
        refine ⟨none, 0, 0, y, m, cp, ns, g1, g3, k1, b1, b2, fun hle => ?_, fun hlt => ?_⟩
        · have hm : m = 0 := by omega
          subst hm
          have hns : ns = [] := by have := k2.1; rw [k3] at this; simp at this; exact List.length_eq_zero_iff.1 this.symm
          subst hns
          have hnw : news = [] := by rw [← List.length_eq_zero_iff, k3]; simp
          subst hnw
          obtain ⟨d1, d2, d3⟩ := hs.bump n0 q1 e1
          exact ⟨c.h, rfl, fun _ => Ext.refl _, .vs i (B.ver + 1) k 0, ⟨c.g, nmd c.σ i (B.ver + 1) none, c.H.set i ⟨B.ver + 1, []⟩, c.h⟩, rfl, by simpa using b5, d2, d1, .vs0 _ _ _ (nam_same _ _ _ _), he.mono (fun _ => Ext.refl _) d3⟩
        · refine ⟨[], by simp [cellsOf], fun cap bb hb hc1 hc2 => ⟨fun hk => (by cases hk), ?_⟩⟩
          have harr : (([] : List Value) ++ ns).toArray ++ madeCells z.toArray ((cap - (0 + m)) * k) = (ns ++ (madeCells z.toArray ((cap - (0 + m)) * k)).toList).toArray := by apply Array.ext'; simp
          rw [harr]
          have hnl : ns.length = m * k := by rw [← k2.1, k3]
          have hsz : (ns ++ (madeCells z.toArray ((cap - (0 + m)) * k)).toList).length = cap * k := by
            have h1 : (madeCells z.toArray ((cap - (0 + m)) * k)).toList.length = (cap - (0 + m)) * k := by simp [madeCells]
            rw [List.length_append, h1, hnl, ← Nat.add_mul]; congr 1; omega
          obtain ⟨d1, d2, d3⟩ := hs.turn n0 q1 (v' := B.ver + 1) (b' := bb) (s' := cap * k) (t := t) (cells := news) (vs := ns) (z := (madeCells z.toArray ((cap - (0 + m)) * k)).toList) (.inr ⟨hb, by omega⟩) hsz k2
          exact ⟨_, _, rfl, b5, d2, d1, .vs _ _ _ _ bb (cap * k) 0 cap (nam_same _ _ _ _) hc1 fun _ => ⟨rfl, Nat.le_refl _⟩, he.mono (fun _ => Ext.refl _) d3⟩
      | vs i ver k n b s o' cpp e1 e2 e3 =>
        obtain ⟨B, q1, q2, q3⟩ := blkAt_iff.1 b3
        subst q2; subst q3
        obtain ⟨b', s', vs, zz, tt, f1, f2, f3, f4, f5⟩ := (hs.blk i B q1).resolve_left (fun hx => by rw [e1] at hx; cases hx.1)
        rw [e1] at f1; cases f1
        have hnl : ns.length = m * k := by rw [← k2.1, k3]
        have hvl := f5.1
        refine ⟨some ⟨b, o', none⟩, n, cpp, y, m, cp, ns, g1, g3, k1, b1, b2, fun hle => ?_, fun hlt => ?_⟩
        · -- in place
          have hmul : n * k + m * k ≤ cpp * k := by rw [← Nat.add_mul]; exact Nat.mul_le_mul_right k hle
          have hww : ∃ zz', (vs.take (n * k) ++ ns ++ zz').length = s ∧ wr0 c.h (some ⟨b, o', none⟩) (n * k) ns = some (upd c.h b (.cells (vs.take (n * k) ++ ns ++ zz').toArray tt)) := by
            by_cases hns : ns = []
            · subst hns
              refine ⟨vs.drop (n * k) ++ zz, ?_, ?_⟩
              · rw [← f4]; simp; omega
              · simp only [wr0]
                congr 1
                rw [show vs.take (n * k) ++ [] ++ (vs.drop (n * k) ++ zz) = vs ++ zz by rw [List.append_nil, ← List.append_assoc, List.take_append_drop]]
                exact (upd_self f3).symm
            · have hm0 : m * k ≠ 0 := by intro h0; rw [h0] at hnl; exact hns (List.length_eq_zero_iff.1 hnl)
              have hcp : 0 < cpp := by
                apply Nat.pos_of_ne_zero; intro h0; rw [h0] at hmul; omega
              obtain ⟨rfl, e4⟩ := e3 hcp
              have hbd : 0 + n * k + ns.length ≤ (vs ++ zz).length := by rw [f4, hnl]; omega
              refine ⟨(vs ++ zz).drop (n * k + ns.length), ?_, ?_⟩
              · rw [← f4]; simp; simp at hbd; omega
              · rw [wr0_of f3 hbd k4 hns, Nat.zero_add]
                rw [List.take_append_of_le_length (by omega)]
          obtain ⟨zz', w1, w2⟩ := hww
          refine ⟨_, w2, ?_⟩
          refine ⟨fun hk => (by cases hk), ?_⟩
          obtain ⟨d1, d2, d3⟩ := hs.turn n0 q1 (v' := B.ver + 1) (b' := b) (s' := s) (t := tt) (cells := B.cells.take (n * k) ++ news) (vs := vs.take (n * k) ++ ns) (z := zz') (.inl ⟨e1, by omega⟩) w1 ((f5.take _).app k2)
          refine ⟨_, _, rfl, b5, d2, d1, .vs _ _ _ _ b s o' cpp (nam_same _ _ _ _) hle e3, he.mono (fun _ => Ext.refl _) d3⟩
        · refine ⟨vs.take (n * k), ?_, fun cap bb hb hc1 hc2 => ⟨fun hk => (by cases hk), ?_⟩⟩
          · unfold cellsOf
            split
            · rename_i h0; simp [h0]
            · rename_i h0
              have hcp : 0 < cpp := by
                apply Nat.pos_of_ne_zero; intro hc0
                have : n = 0 := by omega
                exact h0 (by simp [this])
              obtain ⟨rfl, _⟩ := e3 hcp
              simp only
              have := rd_front f3 (o := 0) (n := n * k) (by omega)
              simpa using this
          · have harr : (vs.take (n * k) ++ ns).toArray ++ madeCells z.toArray ((cap - (n + m)) * k) = ((vs.take (n * k) ++ ns) ++ (madeCells z.toArray ((cap - (n + m)) * k)).toList).toArray := by apply Array.ext'; simp
            rw [harr]
            have hsz : ((vs.take (n * k) ++ ns) ++ (madeCells z.toArray ((cap - (n + m)) * k)).toList).length = cap * k := by
              have h1 : (madeCells z.toArray ((cap - (n + m)) * k)).toList.length = (cap - (n + m)) * k := by simp [madeCells]
              rw [List.length_append, h1, List.length_append, hnl, List.length_take, Nat.min_eq_left (by omega), ← Nat.add_mul, ← Nat.add_mul]
              congr 1; omega
            obtain ⟨d1, d2, d3⟩ := hs.turn n0 q1 (v' := B.ver + 1) (b' := bb) (s' := cap * k) (t := t) (cells := B.cells.take (n * k) ++ news) (vs := vs.take (n * k) ++ ns) (z := (madeCells z.toArray ((cap - (n + m)) * k)).toList) (.inr ⟨hb, by omega⟩) hsz ((f5.take _).app k2)
            refine ⟨_, _, rfl, b5, d2, d1, .vs _ _ _ _ bb (cap * k) 0 cap (nam_same _ _ _ _) hc1 fun _ => ⟨rfl, by omega⟩, he.mono (fun _ => Ext.refl _) d3⟩
    · exact h4.elim
  | cpy size dd s =>
    obtain ⟨rfl, da, h1, xa, h2, ⟨m, news⟩, h3, h4⟩ := h
    obtain ⟨v1, g1, g2⟩ := av_sound hs he h1
    obtain ⟨v2, g3, g4⟩ := av_sound hs he h2
    obtain ⟨y, cp, ns, rfl, k1, k2, k3, k4, k5⟩ := news_sound hs h3 g4
    simp only at h4
    unfold cpyA at h4
    split at h4
    · rename_i i ver k o n
      obtain ⟨rfl, l, b3, b4, b5⟩ := h4
      cases g2 with
      | sl i ver k o n b s o' cpp e1 e2 e3 =>
        obtain ⟨B, q1, q2, q3⟩ := blkAt_iff.1 b3
        subst q2; subst q3
        obtain ⟨b', s', vs, zz, tt, f1, f2, f3, f4, f5⟩ := (hs.blk i B q1).resolve_left (fun hx => by rw [e1] at hx; cases hx.1)
        rw [e1] at f1; cases f1
        have hnl : ns.length = m * k := by rw [← k2.1, k3]
        have hvl := f5.1
        have hq : (ns.take (min m n * k)).length = min m n * k := by
          rw [List.length_take, hnl, Nat.min_eq_left]; exact Nat.mul_le_mul_right k (Nat.min_le_left _ _)
        have hqn : min m n * k ≤ n * k := Nat.mul_le_mul_right k (Nat.min_le_right _ _)
        have hone : (ns.take (min m n * k)).all one = true := by
          rw [List.all_eq_true] at k4 ⊢
          exact fun x hx => k4 x (List.mem_of_mem_take hx)
        have hww : wr0 c.h (some ⟨b, o', none⟩) 0 (ns.take (min m n * k)) = some (upd c.h b (.cells ((vs.take o ++ ns.take (min m n * k) ++ vs.drop (o + (ns.take (min m n * k)).length)) ++ zz).toArray tt)) := by
          by_cases hns : ns.take (min m n * k) = []
          · rw [hns]
            simp only [wr0, List.append_nil, List.length_nil, Nat.add_zero, List.take_append_drop]
            rw [upd_self f3]
          · have h0 : min m n * k ≠ 0 := by intro h0; exact hns (by rw [h0]; rfl)
            have hcp : 0 < cpp := by
              apply Nat.pos_of_ne_zero; intro hc0
              have : n = 0 := by omega
              exact h0 (by simp [this])
            obtain ⟨rfl, e4⟩ := e3 hcp
            rw [wr0_of f3 (by rw [hq]; simp; omega) hone hns]
            congr 4
            rw [Nat.add_zero, List.take_append_of_le_length (by omega), List.drop_append_of_le_length (by rw [hq]; omega), List.append_assoc, List.append_assoc, List.append_assoc]
        refine ⟨some ⟨b, o', none⟩, n, cpp, y, m, cp, _, g1, g3, k5 _ (Nat.min_le_left _ _), _, hww, ?_⟩
        refine ⟨fun hk => (by cases hk), ?_⟩
        obtain ⟨d1, d2, d3⟩ := hs.turn n0 q1 (v' := B.ver) (b' := b) (s' := s) (t := tt) (cells := splA B.cells o (news.take (min m n * k))) (vs := vs.take o ++ ns.take (min m n * k) ++ vs.drop (o + (ns.take (min m n * k)).length)) (z := zz) (.inl ⟨e1, Nat.le_refl _⟩) (by rw [← f4]; simp [hq]; omega)
          (((f5.take o).app (k2.take _)).app (by rw [← (k2.take (min m n * k)).1]; exact f5.drop _))
        exact ⟨_, _, rfl, b5, d2, d1, .v _, he.mono (fun _ => Ext.refl _) d3⟩
    · exact h4.elim
  | clr z s =>
    obtain ⟨rfl, hz, sa, h1, h4⟩ := h
    obtain ⟨v1, g1, g2⟩ := av_sound hs he h1
    unfold clrA at h4
    split at h4
    · rename_i i ver k o n
      obtain ⟨rfl, l, b3, b4, b5⟩ := h4
      cases g2 with
      | sl i ver k o n b s o' cpp e1 e2 e3 =>
        obtain ⟨B, q1, q2, q3⟩ := blkAt_iff.1 b3
        subst q2; subst q3
        obtain ⟨b', s', vs, zz, tt, f1, f2, f3, f4, f5⟩ := (hs.blk i B q1).resolve_left (fun hx => by rw [e1] at hx; cases hx.1)
        rw [e1] at f1; cases f1
        have hvl := f5.1
        have hq : (List.replicate n z).flatten.length = n * z.length := repA_len n z
        have hone : (List.replicate n z).flatten.all one = true := by
          rw [List.all_eq_true] at hz ⊢
          intro x hx
          obtain ⟨y, hy, hxy⟩ := List.mem_flatten.1 hx
          rw [(List.mem_replicate.1 hy).2] at hxy
          exact hz x hxy
        have hww : wr0 c.h (some ⟨b, o', none⟩) 0 (List.replicate n z).flatten = some (upd c.h b (.cells ((vs.take o ++ (List.replicate n z).flatten ++ vs.drop (o + (List.replicate n z).flatten.length)) ++ zz).toArray tt)) := by
          by_cases hns : (List.replicate n z).flatten = []
          · rw [hns]
            simp only [wr0, List.append_nil, List.length_nil, Nat.add_zero, List.take_append_drop]
            rw [upd_self f3]
          · have h0 : n * z.length ≠ 0 := by intro h0; rw [h0] at hq; exact hns (List.length_eq_zero_iff.1 hq)
            have hcp : 0 < cpp := by
              apply Nat.pos_of_ne_zero; intro hc0
              have : n = 0 := by omega
              exact h0 (by simp [this])
            obtain ⟨rfl, e4⟩ := e3 hcp
            rw [wr0_of f3 (by rw [hq]; simp; omega) hone hns]
            congr 4
            rw [Nat.add_zero, List.take_append_of_le_length (by omega), List.drop_append_of_le_length (by rw [hq]; omega), List.append_assoc, List.append_assoc, List.append_assoc]
        refine ⟨some ⟨b, o', none⟩, n, cpp, _, g1, hww, ?_⟩
        refine ⟨fun hk => (by cases hk), ?_⟩
        have hrl := repA_rel (g := c.g) (σ := c.σ) n z
        obtain ⟨d1, d2, d3⟩ := hs.turn n0 q1 (v' := B.ver) (b' := b) (s' := s) (t := tt) (cells := splA B.cells o (repA n (z.map .v))) (vs := vs.take o ++ (List.replicate n z).flatten ++ vs.drop (o + (List.replicate n z).flatten.length)) (z := zz) (.inl ⟨e1, Nat.le_refl _⟩) (by rw [← f4]; simp only [List.length_append, List.length_take, List.length_drop, hq]; omega)
          (((f5.take o).app hrl).app (by rw [← show (repA n (z.map A.v)).length = (List.replicate n z).flatten.length from hrl.1]; exact f5.drop _))
        exact ⟨_, _, rfl, b5, d2, d1, .v _, he.mono (fun _ => Ext.refl _) d3⟩
    · exact h4.elim
  | st n p v =>
    obtain ⟨rfl, pa, h1, va, h2, cs, h3, h4, h5⟩ := h
    obtain ⟨v1, g1, g2⟩ := av_sound hs he h1
    obtain ⟨v2, g3, g4⟩ := av_sound hs he h2
    obtain ⟨g5, g6⟩ := g4.cells h3
    unfold stA at h5
    split at h5
    · rename_i i ver o
      obtain ⟨l, b3, b4, b5⟩ := h5
      cases g2 with
      | lp i ver o b s e1 =>
        obtain ⟨B, q1, q2, q3⟩ := blkAt_iff.1 b3
        subst q2; subst q3
        obtain ⟨b', s', vs, zz, tt, f1, f2, f3, f4, f5⟩ := (hs.blk i B q1).resolve_left (fun hx => by rw [e1] at hx; cases hx.1)
        rw [e1] at f1; cases f1
        have hvl := f5.1
        have hcl : v2.cells.toList.length = cs.length := g5.1.symm
        have hww : wr c.h b o v2.cells.toList = some (upd c.h b (.cells ((vs.take o ++ v2.cells.toList ++ vs.drop (o + v2.cells.toList.length)) ++ zz).toArray tt)) := by
          rw [wr_blk f3 (by rw [hcl]; simp; omega) (g5.one g6)]
          congr 4
          rw [List.take_append_of_le_length (by omega), List.drop_append_of_le_length (by omega), List.append_assoc, List.append_assoc, List.append_assoc]
        refine ⟨b, o, v2, _, g1, g3, by rw [← h4, ← hcl]; simp, hww, ?_⟩
        refine ⟨fun hk => (by cases hk), ?_⟩
        obtain ⟨d1, d2, d3⟩ := hs.turn n0 q1 (v' := B.ver) (b' := b) (s' := s) (t := tt) (cells := splA B.cells o cs) (vs := vs.take o ++ v2.cells.toList ++ vs.drop (o + v2.cells.toList.length)) (z := zz) (.inl ⟨e1, Nat.le_refl _⟩) (by rw [← f4]; simp; simp at hcl; omega)
          (((f5.take o).app g5).app (by rw [hcl]; exact f5.drop _))
        exact ⟨_, _, rfl, b5, d2, d1, .v _, he.mono (fun _ => Ext.refl _) d3⟩
    · exact h5.elim
end Go.Lft
