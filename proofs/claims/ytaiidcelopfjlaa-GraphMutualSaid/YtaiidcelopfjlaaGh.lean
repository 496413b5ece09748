/- graph.Order. No statement is claimed here. -/
import Derived.Test.YtaiidcelopfjlaaGg
import Derived.Test.YtaiidcelopfjlaaQc
namespace Go.Proofs.Ytaiidcelopfjlaa
open Go Go.Lft
set_option linter.unusedSimpArgs false
set_option linter.unusedVariables false
attribute [local congr] ob_congr bw_congr ib_congr ck_congr iwA_congr itA_congr aw_congr awp_congr sqA_congr bkA_congr vr_congr gd_congr

/-- Numbers by number. -/
def tabI (N : Nat) (F : Nat → Int) : List Int := (List.range N).map F
theorem tabI_len (N : Nat) (F : Nat → Int) : (tabI N F).length = N := by simp [tabI]
theorem tabI_get (N : Nat) (F : Nat → Int) (k : Nat) (h : k < N) : (tabI N F).getD k 0 = F k := by simp [tabI, List.getD_eq_getElem?_getD, h]
theorem tabI_ext {N : Nat} {D E : Nat → Int} (h : ∀ k, k < N → D k = E k) : tabI N D = tabI N E := List.map_congr_left fun k hk => h k (List.mem_range.1 hk)
theorem tabI_set (N : Nat) (D : Nat → Int) (k : Nat) (y : Int) (h : k < N) : (tabI N D).set k y = tabI N (fun j => if j = k then y else D j) := by
  apply List.ext_getElem (by simp [tabI])
  intro i h1 h2
  simp only [tabI, List.length_set, List.length_map, List.length_range] at h1
  rw [List.getElem_set]
  by_cases hk : k = i
  · subst hk; simp [tabI]
  · simp [tabI, hk, Ne.symm hk]
theorem tabI_rep (N : Nat) : List.replicate N (0 : Int) = tabI N fun _ => 0 := by
  apply List.ext_getElem (by simp [tabI])
  intro i h1 h2
  simp [tabI]

/-- The arcs to v from nodes that were not taken. -/
def cnt (l : Arcs) (D : Nat → Bool) (v : Nat) : Nat := (l.filter fun a => a.2 == (v : Int) && !D a.1.toNat).length
theorem cnt_app (l m : Arcs) (D : Nat → Bool) (v : Nat) : cnt (l ++ m) D v = cnt l D v + cnt m D v := by simp [cnt]
theorem cnt_one (a : Int × Int) (D : Nat → Bool) (v : Nat) : cnt [a] D v = if a.2 = v ∧ D a.1.toNat = false then 1 else 0 := by
  unfold cnt
  by_cases h : a.2 = v ∧ D a.1.toNat = false
  · simp [h]
  · rw [if_neg h, List.filter_cons_of_neg]
    · rfl
    · simpa using h
def mix (l : Arcs) (D E : Nat → Bool) (i v : Nat) : Nat := cnt (l.take i) E v + cnt (l.drop i) D v
theorem mix_zero (l : Arcs) (D E : Nat → Bool) (v : Nat) : mix l D E 0 v = cnt l D v := by simp [mix, cnt]
theorem mix_all (l : Arcs) (D E : Nat → Bool) (v : Nat) : mix l D E l.length v = cnt l E v := by simp [mix, cnt]
theorem mix_step (l : Arcs) (D E : Nat → Bool) {i : Nat} (hi : i < l.length) (v : Nat) :
    mix l D E (i + 1) v + cnt [l.getD i (0, 0)] D v = mix l D E i v + cnt [l.getD i (0, 0)] E v := by
  unfold mix
  have h1 : l.drop i = [l.getD i (0, 0)] ++ l.drop (i + 1) := by
    rw [List.drop_eq_getElem_cons hi]; simp [List.getD_eq_getElem?_getD, hi]
  rw [take_succ_get l i (0, 0) hi, cnt_app, h1, cnt_app]
  omega
theorem cnt_zero {l : Arcs} {D : Nat → Bool} {v : Nat} : cnt l D v = 0 ↔ ∀ a ∈ l, a.2 = v → D a.1.toNat = true := by
  unfold cnt
  rw [List.length_eq_zero_iff, List.filter_eq_nil_iff]
  refine forall_congr' fun a => forall_congr' fun ha => ?_
  simp
theorem avail_iff (l : Arcs) (D : Nat → Bool) (v : Nat) : avail l D v = true ↔ D v = false ∧ cnt l D v = 0 := by
  rw [cnt_zero]
  unfold avail
  rw [Bool.and_eq_true, List.all_eq_true]
  simp only [Bool.not_eq_true', Bool.or_eq_true, bne_iff_ne, ne_eq]
  refine and_congr_right fun _ => forall_congr' fun a => forall_congr' fun ha => ?_
  constructor
  · rintro (h | h) h2
    · exact absurd h2 h
    · exact h
  · intro h
    by_cases h2 : a.2 = v
    · exact .inr (h h2)
    · exact .inl h2
theorem cnt_le (l : Arcs) (D : Nat → Bool) (v : Nat) : cnt l D v ≤ l.length := by unfold cnt; exact List.length_filter_le _ _
theorem mix_le (l : Arcs) (D E : Nat → Bool) (i v : Nat) : mix l D E i v ≤ l.length := by
  unfold mix
  have h1 := cnt_le (l.take i) E v
  have h2 := cnt_le (l.drop i) D v
  simp at h1 h2
  omega

/-- What comes next was not taken, and all before it were. -/
theorem next_in {n : Int} {l : Arcs} {D : Nat → Bool} (h : ¬ nextO n l D < 0) : 0 ≤ nextO n l D ∧ (nextO n l D).toNat < n.toNat ∧ avail l D (nextO n l D).toNat = true ∧ ∀ v, v < n.toNat → avail l D v = true → (nextO n l D).toNat ≤ v := by
  rcases low_cases (avail l D) n.toNat 0 with ⟨h1, _⟩ | ⟨i, h1, h2, h3, h4, h5⟩
  · exact absurd (show nextO n l D < 0 by unfold nextO; omega) h
  · have : nextO n l D = i := h1
    rw [this]
    refine ⟨by omega, by omega, by simpa using h4, fun v hv ha => ?_⟩
    rw [Int.toNat_natCast]
    apply Nat.not_lt.1; intro hlt
    rw [h5 v (by omega) hlt] at ha; cases ha
theorem next_none {n : Int} {l : Arcs} {D : Nat → Bool} (h : ∀ v, v < n.toNat → avail l D v = false) : nextO n l D < 0 := by
  rcases low_cases (avail l D) n.toNat 0 with ⟨h1, _⟩ | ⟨i, h1, h2, h3, h4, h5⟩
  · unfold nextO; omega
  · rw [h i (by omega)] at h4; cases h4
theorem ost_clo (n : Int) (l : Arcs) (hr : inR n l) : ∀ k, ∀ a ∈ l, (ost n l k).1 a.2.toNat = true → (ost n l k).1 a.1.toNat = true
  | 0, a, _, h => by simp [ost] at h
  | k + 1, a, ha, h => by
    simp only [ost] at h ⊢
    split at h
    · rename_i hc; rw [if_pos hc]; exact ost_clo n l hr k a ha h
    · rename_i hc
      rw [if_neg hc]
      simp only [Bool.or_eq_true, beq_iff_eq] at h ⊢
      rcases h with h | h
      · exact .inl (ost_clo n l hr k a ha h)
      · obtain ⟨g1, g2, g3, _⟩ := next_in hc
        have := cnt_zero.1 ((avail_iff _ _ _).1 g3).2 a ha (by have := hr a ha; omega)
        exact .inl this

theorem qnew_vr (f : Nat) : VR P false n_pqueue_New [.fn f []] [] (ownR (.lp 0 0 0) [⟨0, [.fn f [], .v (.slice none 0 0), .v (.int .i64 0)]⟩]) := by
  refine vr_pqueue_New (by simp) (.inr rfl) fun _ _ => ?_
  simp (disch := ((try simp only [List.length_set, List.length_replicate, List.length_append, List.length_cons, List.length_nil]); omega)) only [aW, aX, aV, aB, aN, aL, aP, aH, s_pqueue_New, v_pqueue_New, r_pqueue_New]
  exact post2 (R := ownR _ _) ⟨rfl, rfl⟩

/-- The queue holds what may come next. -/
structure QI (n : Int) (D : Nat → Bool) (F : Nat → Nat) (hs : List IP) : Prop where
  heap : Heap2 hs
  mem : ∀ v : Int, v ∈ hs.map Prod.fst ↔ (0 ≤ v ∧ v < n) ∧ D v.toNat = false ∧ F v.toNat = 0
  nd : (hs.map Prod.fst).Nodup
theorem QI.push {n : Int} {D : Nat → Bool} {F F' : Nat → Nat} {hs zs : List IP} {x c : Int} (h : QI n D F hs) (hp : zs.Perm (hs ++ [(x, c)])) (hh : Heap2 zs) (hx : (0 ≤ x ∧ x < n) ∧ D x.toNat = false ∧ F' x.toNat = 0) (hF : F x.toNat ≠ 0) (he : ∀ v, v ≠ x.toNat → F' v = F v) : QI n D F' zs := by
  have hp' := hp.map Prod.fst
  rw [List.map_append] at hp'
  refine ⟨hh, fun v => ?_, ?_⟩
  · rw [hp'.mem_iff, List.mem_append, h.mem]
    simp only [List.map_cons, List.map_nil, List.mem_singleton]
    constructor
    · rintro (⟨h1, h2, h3⟩ | rfl)
      · exact ⟨h1, h2, by rw [he _ (fun hc => hF (by rw [← hc]; exact h3))]; exact h3⟩
      · exact hx
    · rintro ⟨h1, h2, h3⟩
      by_cases hv : v = x
      · exact .inr hv
      · exact .inl ⟨h1, h2, by rw [← he _ (by omega)]; exact h3⟩
  · rw [hp'.nodup_iff, List.nodup_append]
    refine ⟨h.nd, by simp, fun a ha b hb => ?_⟩
    simp at hb
    subst hb
    rintro rfl
    exact hF ((h.mem _).1 ha).2.2
theorem QI.grow {m : Nat} {D : Nat → Bool} {F : Nat → Nat} {hs zs : List IP} {c : Int} (h : QI m D F hs) (hp : zs.Perm (hs ++ [((m : Int), c)])) (hh : Heap2 zs) (hD : D m = false) (hF : F m = 0) : QI (m + 1 : Nat) D F zs := by
  have hp' := hp.map Prod.fst
  rw [List.map_append] at hp'
  refine ⟨hh, fun v => ?_, ?_⟩
  · rw [hp'.mem_iff, List.mem_append, h.mem]
    simp only [List.map_cons, List.map_nil, List.mem_singleton]
    constructor
    · rintro (⟨h1, h2, h3⟩ | rfl)
      · exact ⟨by omega, h2, h3⟩
      · exact ⟨by omega, by simpa using hD, by simpa using hF⟩
    · rintro ⟨h1, h2, h3⟩
      by_cases hv : v = m
      · exact .inr hv
      · exact .inl ⟨by omega, h2, h3⟩
  · rw [hp'.nodup_iff, List.nodup_append]
    refine ⟨h.nd, by simp, fun a ha b hb => ?_⟩
    simp at hb
    subst hb
    rintro rfl
    have := ((h.mem _).1 ha).1
    omega
theorem QI.skip {m : Nat} {D : Nat → Bool} {F : Nat → Nat} {hs : List IP} (h : QI m D F hs) (hF : F m ≠ 0) : QI (m + 1 : Nat) D F hs :=
  ⟨h.heap, fun v => by
    rw [h.mem]
    constructor
    · rintro ⟨h1, h2⟩; exact ⟨by omega, h2⟩
    · rintro ⟨h1, h2, h3⟩
      refine ⟨⟨h1.1, ?_⟩, h2, h3⟩
      apply Int.not_le.1; intro hc
      have : v = m := by omega
      subst this; simp at h3; exact hF h3, h.nd⟩
theorem QI.one {m : Nat} {D : Nat → Bool} {F : Nat → Nat} {c : Int} (h : ∀ v, v < m → F v ≠ 0) (hD : D m = false) (hF : F m = 0) : QI (m + 1 : Nat) D F [((m : Int), c)] :=
  ⟨fun k h1 h2 => by simp at h2; omega, fun v => by
    simp only [List.map_cons, List.map_nil, List.mem_singleton]
    constructor
    · rintro rfl; exact ⟨by omega, by simpa using hD, by simpa using hF⟩
    · rintro ⟨h1, h2, h3⟩
      apply Classical.byContradiction; intro hc
      exact h v.toNat (by omega) h3, by simp⟩
/-- The first of the queue is what comes next. -/
theorem QI.first {n : Int} {l : Arcs} {D : Nat → Bool} {hs : List IP} (h : QI n D (cnt l D) hs) (h0 : 0 < hs.length) : (hs.getD 0 ipd).1 = nextO n l D ∧ ¬ nextO n l D < 0 := by
  have hm : (hs.getD 0 ipd).1 ∈ hs.map Prod.fst := List.mem_map.2 ⟨hs.getD 0 ipd, by simp [List.getD_eq_getElem?_getD, h0], rfl⟩
  obtain ⟨h1, h2, h3⟩ := (h.mem _).1 hm
  have hav : avail l D (hs.getD 0 ipd).1.toNat = true := (avail_iff _ _ _).2 ⟨h2, h3⟩
  have hneg : ¬ nextO n l D < 0 := by
    intro hc
    rcases low_cases (avail l D) n.toNat 0 with ⟨g1, g2⟩ | ⟨i, g1, _⟩
    · rw [g2 _ (Nat.zero_le _) (by omega)] at hav; cases hav
    · unfold nextO at hc; omega
  obtain ⟨g1, g2, g3, g4⟩ := next_in hneg
  refine ⟨?_, hneg⟩
  have g5 := g4 _ (by omega) hav
  -- and it is not less
  obtain ⟨g6, g7⟩ := (avail_iff _ _ _).1 g3
  have hm2 := (h.mem (nextO n l D)).2 ⟨by omega, g6, g7⟩
  obtain ⟨p, hp, hpe⟩ := List.mem_map.1 hm2
  obtain ⟨k, hk, rfl⟩ := List.mem_iff_getElem.1 hp
  have := heap_min h.heap k hk
  have hg : hs.getD k ipd = hs[k] := by simp [List.getD_eq_getElem?_getD, hk]
  rw [hg] at this
  unfold qlt at this
  omega
/-- After the first was taken off. -/
theorem QI.pop {n : Int} {D : Nat → Bool} {F : Nat → Nat} {hs zs : List IP} (h : QI n D F hs) (h0 : 0 < hs.length) (hp : (hs.getD 0 ipd :: zs).Perm hs) (hh : Heap2 zs) : QI n (fun j => D j || j == (hs.getD 0 ipd).1.toNat) F zs := by
  have hm : (hs.getD 0 ipd).1 ∈ hs.map Prod.fst := List.mem_map.2 ⟨hs.getD 0 ipd, by simp [List.getD_eq_getElem?_getD, h0], rfl⟩
  have hx := (h.mem _).1 hm
  have hp' := hp.map Prod.fst
  have hnd := (hp'.nodup_iff).2 h.nd
  rw [List.map_cons, List.nodup_cons] at hnd
  refine ⟨hh, fun v => ?_, hnd.2⟩
  have h1 := (hp'.mem_iff (a := v)).symm.trans Iff.rfl
  rw [h.mem, List.map_cons, List.mem_cons] at h1
  constructor
  · intro hv
    obtain ⟨g1, g2, g3⟩ := h1.2 (.inr hv)
    refine ⟨g1, ?_, g3⟩
    have : v ≠ (hs.getD 0 ipd).1 := by rintro rfl; exact hnd.1 hv
    simp only [g2, Bool.false_or, beq_eq_false_iff_ne, ne_eq]
    omega
  · rintro ⟨g1, g2, g3⟩
    simp only [Bool.or_eq_false_iff, beq_eq_false_iff_ne, ne_eq] at g2
    rcases h1.1 ⟨g1, g2.1, g3⟩ with rfl | h4
    · exact absurd rfl g2.2
    · exact h4
end Go.Proofs.Ytaiidcelopfjlaa
