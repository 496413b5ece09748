/- The groups: a node lies in exactly one. No statement is claimed here. -/
import Derived.Test.YtaiidcelopfjlaaGs
namespace Go.Proofs.Ytaiidcelopfjlaa
open Go Go.Lft
set_option linter.unusedSimpArgs false
set_option linter.unusedVariables false

def reps (n : Int) (l : Arcs) : Nat → List Nat
  | 0 => []
  | v + 1 => if (gst n l v).1 v then reps n l v else reps n l v ++ [v]
theorem gst_reps (n : Int) (l : Arcs) : ∀ v, (gst n l v).2 = (reps n l v).map fun r => memb n l r 0 n.toNat
  | 0 => rfl
  | v + 1 => by
    simp only [gst, reps]
    split
    · exact gst_reps n l v
    · simp only [gst_reps n l v, List.map_append, List.map_cons, List.map_nil]
theorem reps_lt (n : Int) (l : Arcs) : ∀ v, ∀ r ∈ reps n l v, r < v
  | 0, r, h => by simp [reps] at h
  | v + 1, r, h => by
    simp only [reps] at h
    split at h
    · have := reps_lt n l v r h; omega
    · simp only [List.mem_append, List.mem_singleton] at h
      rcases h with h | rfl
      · have := reps_lt n l v r h; omega
      · omega
theorem b_refl {n : Int} {l : Arcs} (hr : inR n l) {u : Nat} (hu : u < n.toNat) : both n l u u = true := (both_iff hr hu hu).2 ⟨.refl _, .refl _⟩
theorem b_symm {n : Int} {l : Arcs} (hr : inR n l) {u v : Nat} (hu : u < n.toNat) (hv : v < n.toNat) (h : both n l u v = true) : both n l v u = true := by
  have := (both_iff hr hu hv).1 h
  exact (both_iff hr hv hu).2 ⟨this.2, this.1⟩
theorem b_trans {n : Int} {l : Arcs} (hr : inR n l) {u v w : Nat} (hu : u < n.toNat) (hv : v < n.toNat) (hw : w < n.toNat) (h : both n l u v = true) (k : both n l v w = true) : both n l u w = true := by
  have h1 := (both_iff hr hu hv).1 h
  have h2 := (both_iff hr hv hw).1 k
  exact (both_iff hr hu hw).2 ⟨h1.1.trans h2.1, h2.2.trans h1.2⟩
theorem reps_apart {n : Int} {l : Arcs} (hr : inR n l) : ∀ v, v ≤ n.toNat → (reps n l v).Pairwise fun a b => both n l a b = false
  | 0, _ => by simp [reps]
  | v + 1, hv => by
    simp only [reps]
    split
    · exact reps_apart hr v (by omega)
    · rename_i hd
      rw [List.pairwise_append]
      refine ⟨reps_apart hr v (by omega), by simp, fun a ha b hb => ?_⟩
      simp only [List.mem_singleton] at hb
      subst hb
      rw [← Bool.not_eq_true]; intro hc
      exact hd ((gst_done hr b (by omega) b (by omega)).2 ⟨a, reps_lt n l b a ha, hc⟩)
theorem reps_cover {n : Int} {l : Arcs} (hr : inR n l) : ∀ v, v ≤ n.toNat → ∀ u, u < v → ∃ r ∈ reps n l v, both n l r u = true
  | 0, _, u, hu => by omega
  | v + 1, hv, u, hu => by
    have ih := reps_cover hr v (by omega)
    simp only [reps]
    by_cases huv : u < v
    · obtain ⟨r, h1, h2⟩ := ih u huv
      refine ⟨r, ?_, h2⟩
      split
      · exact h1
      · exact List.mem_append.2 (.inl h1)
    · have : u = v := by omega
      subst this
      split
      · rename_i hd
        obtain ⟨x, h1, h2⟩ := (gst_done hr u (by omega) u (by omega)).1 hd
        obtain ⟨r, h3, h4⟩ := ih x h1
        have := reps_lt n l u r h3
        exact ⟨r, h3, b_trans hr (by omega) (by omega) (by omega) h4 h2⟩
      · exact ⟨u, by simp, b_refl hr (by omega)⟩
theorem memb_mem {n : Int} {l : Arcs} {r b : Nat} {x : Int} : x ∈ memb n l r 0 b ↔ 0 ≤ x ∧ x < b ∧ both n l r x.toNat = true := by
  unfold memb
  simp only [List.mem_map, List.mem_filter, List.mem_range, Bool.and_eq_true, decide_eq_true_eq]
  constructor
  · rintro ⟨a, ⟨h1, _, h2⟩, rfl⟩
    refine ⟨Int.natCast_nonneg a, ?_, h2⟩
    show (a : Int) < b
    omega
  · rintro ⟨h1, h2, h3⟩
    exact ⟨x.toNat, ⟨by omega, by omega, h3⟩, Int.toNat_of_nonneg h1⟩
theorem memb_lt (n : Int) (l : Arcs) (r a b : Nat) : (memb n l r a b).Pairwise (· < ·) := by
  unfold memb
  refine List.Pairwise.map (R := (· < ·)) _ (fun a b h => ?_) (List.pairwise_lt_range.filter _)
  show (a : Int) < b
  omega

/-- Groups that part the nodes. -/
structure GP (n : Int) (l : Arcs) (G : List (List Int)) : Prop where
  len : G.length ≤ n.toNat
  rlen : ∀ k, k < G.length → (G.getD k []).length ≤ n.toNat
  rng : ∀ k, k < G.length → ∀ x ∈ G.getD k [], 0 ≤ x ∧ x < n
  apart : ∀ i k, i < k → k < G.length → ∀ x ∈ G.getD i [], x ∉ G.getD k []
  nd : ∀ k, k < G.length → (G.getD k []).Pairwise (· < ·)
  cover : ∀ x, 0 ≤ x → x < n → ∃ k, k < G.length ∧ x ∈ G.getD k []
  same : ∀ k, k < G.length → ∀ x ∈ G.getD k [], ∀ y, 0 ≤ y → y < n → (y ∈ G.getD k [] ↔ both n l x.toNat y.toNat = true)
theorem gp_of {n : Int} {l : Arcs} (hr : inR n l) : GP n l (gst n l n.toNat).2 := by
  have hG := gst_reps n l n.toNat
  have hlt := reps_lt n l n.toNat
  have hap := reps_apart hr n.toNat (Nat.le_refl _)
  have hlen : (gst n l n.toNat).2.length = (reps n l n.toNat).length := by rw [hG, List.length_map]
  have hget : ∀ k, k < (reps n l n.toNat).length → ∃ r, (reps n l n.toNat)[k]? = some r ∧ r < n.toNat ∧ (gst n l n.toNat).2.getD k [] = memb n l r 0 n.toNat := fun k hk => by
    refine ⟨(reps n l n.toNat)[k], by simp [hk], hlt _ (List.getElem_mem hk), ?_⟩
    rw [hG, List.getD_eq_getElem?_getD, List.getElem?_map, List.getElem?_eq_getElem hk]; rfl
  refine ⟨gst_len n l n.toNat, fun k hk => ?_, fun k hk x hx => ?_, fun i k hik hk x hx hx' => ?_, fun k hk => ?_, fun x h0 h1 => ?_, fun k hk x hx y hy0 hy1 => ?_⟩
  · obtain ⟨r, _, _, h⟩ := hget k (by omega)
    rw [h]; exact memb_len n l r 0 n.toNat
  · obtain ⟨r, _, _, h⟩ := hget k (by omega)
    rw [h, memb_mem] at hx
    omega
  · obtain ⟨r, g1, g2, h⟩ := hget k (by omega)
    obtain ⟨s, g3, g4, h'⟩ := hget i (by omega)
    rw [h', memb_mem] at hx
    rw [h, memb_mem] at hx'
    obtain ⟨i1, i2⟩ := List.getElem?_eq_some_iff.1 g3
    obtain ⟨k1, k2⟩ := List.getElem?_eq_some_iff.1 g1
    have hf := List.pairwise_iff_getElem.1 hap i k i1 k1 hik
    rw [i2, k2] at hf
    have := b_trans hr g4 (by omega) g2 hx.2.2 (b_symm hr g2 (by omega) hx'.2.2)
    rw [hf] at this; cases this
  · obtain ⟨r, _, _, h⟩ := hget k (by omega)
    rw [h]; exact memb_lt n l r 0 n.toNat
  · obtain ⟨r, h2, h3⟩ := reps_cover hr n.toNat (Nat.le_refl _) x.toNat (by omega)
    obtain ⟨k, hk, rfl⟩ := List.mem_iff_getElem.1 h2
    obtain ⟨s, g1, _, h⟩ := hget k hk
    obtain ⟨_, k2⟩ := List.getElem?_eq_some_iff.1 g1
    refine ⟨k, by omega, ?_⟩
    rw [h, ← k2, memb_mem]
    exact ⟨h0, by omega, h3⟩
  · obtain ⟨r, _, g2, h⟩ := hget k (by omega)
    rw [h, memb_mem] at hx ⊢
    constructor
    · rintro ⟨_, _, h3⟩
      exact b_trans hr (by omega) g2 (by omega) (b_symm hr g2 (by omega) hx.2.2) h3
    · intro h3
      exact ⟨hy0, by omega, b_trans hr g2 (by omega) (by omega) hx.2.2 h3⟩

/-- The number of the group, from 1 on, of the first k; or 0. -/
def gNo (G : List (List Int)) (k : Nat) (x : Int) : Int := low (fun i => (G.getD i []).contains x) 0 k + 1
def gMd (G : List (List Int)) (k j : Nat) (x : Int) : Int := if x ∈ (G.getD k []).take j then ((k + 1 : Nat) : Int) else gNo G k x
theorem gNo_zero (G : List (List Int)) (x : Int) : gNo G 0 x = 0 := rfl
theorem gMd_zero (G : List (List Int)) (k : Nat) (x : Int) : gMd G k 0 x = gNo G k x := by unfold gMd; rw [List.take_zero, if_neg (by simp)]
theorem gNo_le (G : List (List Int)) (k : Nat) (x : Int) : 0 ≤ gNo G k x ∧ gNo G k x ≤ k := by
  unfold gNo
  rcases low_cases (fun i => (G.getD i []).contains x) k 0 with ⟨h, _⟩ | ⟨i, h, h2, h3, _⟩ <;> omega
theorem gMd_le (G : List (List Int)) (k j : Nat) (x : Int) : 0 ≤ gMd G k j x ∧ gMd G k j x ≤ k + 1 := by
  have := gNo_le G k x
  unfold gMd; split <;> omega
theorem gNo_new {n : Int} {l : Arcs} {G : List (List Int)} (h : GP n l G) {k : Nat} (hk : k < G.length) {x : Int} (hx : x ∈ G.getD k []) : gNo G k x = 0 := by
  unfold gNo
  rw [low_m1 (low_neg.2 fun i _ hi => ?_)]; rfl
  rw [← Bool.not_eq_true]
  intro hc
  rw [List.contains_iff_mem] at hc
  exact h.apart i k (by omega) hk x hc hx
theorem gMd_step {n : Int} {l : Arcs} {G : List (List Int)} (h : GP n l G) {k j : Nat} (hk : k < G.length) (hj : j < (G.getD k []).length) (x : Int) : gMd G k (j + 1) x = if x = (G.getD k []).getD j 0 then ((k + 1 : Nat) : Int) else gMd G k j x := by
  unfold gMd
  rw [take_succ_get _ j 0 hj]
  by_cases hx : x = (G.getD k []).getD j 0
  · rw [if_pos hx, if_pos (by rw [List.mem_append, List.mem_singleton]; exact .inr hx)]
  · rw [if_neg hx]
    have : x ∈ (G.getD k []).take j ++ [(G.getD k []).getD j 0] ↔ x ∈ (G.getD k []).take j := by
      rw [List.mem_append, List.mem_singleton]
      exact ⟨fun h => h.resolve_right hx, .inl⟩
    simp only [this]
theorem gMd_new {n : Int} {l : Arcs} {G : List (List Int)} (h : GP n l G) {k j : Nat} (hk : k < G.length) (hj : j < (G.getD k []).length) : gMd G k j ((G.getD k []).getD j 0) = 0 := by
  have hv : (G.getD k []).getD j 0 = (G.getD k [])[j] := by rw [List.getD_eq_getElem?_getD (l := G.getD k []), List.getElem?_eq_getElem hj]; rfl
  have hm : (G.getD k []).getD j 0 ∈ G.getD k [] := by rw [hv]; exact List.getElem_mem hj
  unfold gMd
  rw [if_neg, gNo_new h hk hm]
  intro hc
  obtain ⟨i, hi, he⟩ := List.mem_iff_getElem.1 hc
  have hi' : i < j := by simp at hi; omega
  have hp := List.pairwise_iff_getElem.1 (h.nd k hk) i j (by omega) hj hi'
  rw [List.getElem_take] at he
  have := he.trans hv
  omega
theorem gMd_all {n : Int} {l : Arcs} {G : List (List Int)} (h : GP n l G) {k : Nat} (hk : k < G.length) (x : Int) : gMd G k (G.getD k []).length x = gNo G (k + 1) x := by
  have e : gNo G (k + 1) x = (if low (fun i => (G.getD i []).contains x) 0 k < 0 then if (G.getD (0 + k) []).contains x = true then ((0 + k : Nat) : Int) else -1 else low (fun i => (G.getD i []).contains x) 0 k) + 1 := by
    unfold gNo; rw [low_next]
  rw [e, Nat.zero_add]
  unfold gMd
  rw [List.take_length]
  by_cases hx : x ∈ G.getD k []
  · have h0 := gNo_new h hk hx
    unfold gNo at h0
    rw [if_pos hx, if_pos (by omega), if_pos (List.contains_iff_mem.2 hx)]; omega
  · rw [if_neg hx]
    unfold gNo
    split
    · rename_i hn
      rw [if_neg (fun hc => hx (List.contains_iff_mem.1 hc)), low_m1 hn]
    · rfl
theorem gNo_at {n : Int} {l : Arcs} {G : List (List Int)} (h : GP n l G) {k : Nat} (hk : k < G.length) {x : Int} (hx : x ∈ G.getD k []) : gNo G G.length x = k + 1 := by
  have e : low (fun i => (G.getD i []).contains x) 0 G.length = (k : Int) := by
    refine low_eq.2 ⟨Nat.zero_le _, by omega, List.contains_iff_mem.2 hx, fun i _ hi => ?_⟩
    rw [← Bool.not_eq_true]; intro hc
    exact h.apart i k hi hk x (List.contains_iff_mem.1 hc) hx
  unfold gNo
  rw [e]
theorem gNo_same {n : Int} {l : Arcs} {G : List (List Int)} (h : GP n l G) {x y : Int} (hx : 0 ≤ x ∧ x < n) (hy : 0 ≤ y ∧ y < n) : gNo G G.length x = gNo G G.length y ↔ both n l x.toNat y.toNat = true := by
  obtain ⟨k, h1, h2⟩ := h.cover x hx.1 hx.2
  obtain ⟨i, h3, h4⟩ := h.cover y hy.1 hy.2
  rw [gNo_at h h1 h2, gNo_at h h3 h4, ← h.same k h1 x h2 y hy.1 hy.2]
  constructor
  · intro he
    have : k = i := by omega
    subst this; exact h4
  · intro hm
    have h5 := gNo_at h h1 hm
    rw [gNo_at h h3 h4] at h5
    exact h5.symm
end Go.Proofs.Ytaiidcelopfjlaa
