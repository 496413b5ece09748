/- Lemmas and walks that the proof of BaleProportions uses. No statement is claimed here. -/
import Derived.Test.YtbgmhbjfcpddkaaBaleProportionsZak
namespace Go.Proofs.Ytbgmhbjfcpddkaa
open Go Go.Lft
set_option linter.unusedSimpArgs false
set_option linter.unusedVariables false
attribute [local congr] ob_congr bw_congr ib_congr ck_congr iwA_congr itA_congr aw_congr awp_congr sqA_congr bkA_congr vr_congr gd_congr

def rng (lo k : Nat) : List Int := (List.range k).map fun i => ((lo + i : Nat) : Int)
theorem rng_len (lo k : Nat) : (rng lo k).length = k := by simp [rng]
theorem rng_get (lo k i : Nat) (h : i < k) : (rng lo k).getD i 0 = ((lo + i : Nat) : Int) := by simp [rng, List.getD_eq_getElem?_getD, h]
theorem rng_split (lo j k : Nat) : rng lo (j + k) = rng lo j ++ rng (lo + j) k := by
  refine eq_getD (by simp [rng_len]) fun i hi => ?_
  rw [rng_len] at hi
  rw [rng_get _ _ _ hi, get_app, rng_len]
  split
  · rename_i h; rw [rng_get _ _ _ h]
  · rename_i h; rw [rng_get _ _ _ (by omega)]; congr 1; omega
theorem rng_mem {lo k : Nat} {x : Int} : x ∈ rng lo k ↔ (lo : Int) ≤ x ∧ x < lo + k := by
  unfold rng
  simp only [List.mem_map, List.mem_range]
  constructor
  · rintro ⟨i, h, rfl⟩; omega
  · rintro ⟨h1, h2⟩; exact ⟨(x - lo).toNat, by omega, by omega⟩
theorem rng_lt (lo k : Nat) : (rng lo k).Pairwise (· < ·) := by
  unfold rng
  refine List.Pairwise.map (R := (· < ·)) _ (fun a b h => ?_) List.pairwise_lt_range
  show ((lo + a : Nat) : Int) < ((lo + b : Nat) : Int)
  omega
/-- Sorted parts, one after the other, each of the numbers of its own places. -/
def RunsOk (q : List Int) : Nat → List (List Int) → Prop
  | _, [] => True
  | lo, T :: r => (∀ x ∈ T, (lo : Int) ≤ x ∧ x < lo + T.length) ∧ T.Pairwise (ltO q) ∧ RunsOk q (lo + T.length) r
def Shape (bs : Nat) : List (List Int) → Prop
  | [] => True
  | [T] => 0 < T.length ∧ T.length ≤ bs
  | T :: r => T.length = bs ∧ Shape bs r
def AllLen (bs : Nat) (l : List (List Int)) : Prop := ∀ T ∈ l, T.length = bs
theorem RunsOk.app {q : List Int} : ∀ {D U : List (List Int)} {lo : Nat}, RunsOk q lo D → RunsOk q (lo + D.flatten.length) U → RunsOk q lo (D ++ U)
  | [], U, lo, _, h => by simpa using h
  | T :: D, U, lo, h, k => by
    refine ⟨h.1, h.2.1, RunsOk.app h.2.2 ?_⟩
    rw [List.flatten_cons, List.length_append, ← Nat.add_assoc] at k; exact k
theorem Shape.app {bs : Nat} (h0 : 0 < bs) : ∀ {D U : List (List Int)}, AllLen bs D → Shape bs U → Shape bs (D ++ U)
  | [], U, _, h => h
  | [T], [], h, _ => by
    have := h T (by simp)
    exact ⟨by omega, by omega⟩
  | [T], u :: U, h, k => ⟨h T (by simp), k⟩
  | T :: S :: D, U, h, k => ⟨h T (by simp), Shape.app h0 (D := S :: D) (fun x hx => h x (by simp [hx])) k⟩
theorem Shape.two {bs : Nat} (h0 : 0 < bs) {U : List (List Int)} (h : Shape bs U) (hl : 2 * bs ≤ U.flatten.length) : ∃ T1 T2 U', U = T1 :: T2 :: U' ∧ T1.length = bs ∧ T2.length = bs ∧ Shape bs U' := by
  match U, h with
  | [], _ => simp at hl; omega
  | [T], h => simp [Shape] at h hl; omega
  | [T1, T2], h =>
    obtain ⟨h1, h2, h3⟩ := h
    refine ⟨T1, T2, [], rfl, h1, ?_, trivial⟩
    simp at hl; omega
  | T1 :: T2 :: T3 :: U, h => exact ⟨T1, T2, T3 :: U, rfl, h.1, h.2.1, h.2.2⟩
theorem Shape.end {bs : Nat} (h0 : 0 < bs) {U : List (List Int)} (h : Shape bs U) (hl : U.flatten.length < 2 * bs) : (U = [] ∨ ∃ T, U = [T] ∧ 0 < T.length ∧ T.length ≤ bs) ∨ ∃ T1 T2, U = [T1, T2] ∧ T1.length = bs ∧ 0 < T2.length := by
  match U, h with
  | [], _ => exact .inl (.inl rfl)
  | [T], h => exact .inl (.inr ⟨T, rfl, h⟩)
  | [T1, T2], h => exact .inr ⟨T1, T2, rfl, h.1, h.2.1⟩
  | T1 :: T2 :: T3 :: U, h =>
    have h1 : T1.length = bs := h.1
    have h2 : T2.length = bs := h.2.1
    simp at hl; omega

theorem stable_vr {p q : List Int} (hq : QOk q) (hl : q.length < 100000) :
    VR P false n_slices_stableCmpFunc [dataA q.length, .v (.int .i64 q.length), cmpA] (HS p q (rng 0 q.length)) fun r H' => r = .tup [] ∧ ∃ T : List Int, T.length = q.length ∧ InR q.length T ∧ T.Pairwise (ltO q) ∧ H' = HS p q T := by
  refine vr_slices_stableCmpFunc (by simp) (.inl rfl) fun _ _ => ?_
  unfold HS
  simp (disch := ((try simp only [List.length_set, List.length_replicate, List.length_append, List.length_cons, List.length_nil]); omega)) only [aW, aX, aV, aB, aN, aL, aP, aH, s_slices_stableCmpFunc, v_slices_stableCmpFunc]
  refine AWP.loopP (α := List (List Int)) g_slices_stableCmpFunc_0 (fun D => AllLen 20 D ∧ RunsOk q 0 D ∧ D.flatten.length ≤ q.length) (fun D => [(4, .v (.int .i64 D.flatten.length)), (5, .v (.int .i64 (D.flatten.length + 20 : Nat)))]) (fun D => [(2, ⟨0, ints (D.flatten ++ rng D.flatten.length (q.length - D.flatten.length))⟩)]) (fun D => q.length - D.flatten.length) [] ⟨fun T hT => by simp at hT, trivial, by simp⟩ ?_ ?_
  · simp only [List.flatten_nil, List.length_nil, Nat.zero_add, List.nil_append, Nat.sub_zero]
    exact Cut.of' 4 rfl (by omega) (by simp (disch := first | omega | simp (disch := omega) only [aF, aL, aN]) only [aW, aX, aV, aB, aN, aL, aP, aH, aF, Int.natCast_add, Int.natCast_mul, Int.add_sub_cancel, List.length_nil, Int.cast_ofNat_Int, and_true, true_and]) (by simp (disch := first | omega | simp (disch := omega) only [aF, aL, aN]) only [aW, aX, aV, aB, aN, aL, aP, aH, aF, Int.natCast_add, Int.natCast_mul, Int.add_sub_cancel, List.length_nil, Int.cast_ofNat_Int, and_true, true_and])
  rintro D ⟨h1, h2, h3⟩
  obtain ⟨a, ha⟩ : ∃ a, a = D.flatten.length := ⟨_, rfl⟩
  rw [← ha] at h3 ⊢
  by_cases hlt : a + 20 ≤ q.length
  · have hs : rng a (q.length - a) = rng a 20 ++ rng (a + 20) (q.length - (a + 20)) := by rw [← rng_split]; congr 1; omega
    have hi := insertionSort_vr p q hq (by omega) D.flatten (rng a 20) (rng (a + 20) (q.length - (a + 20))) (by simp only [List.length_append, rng_len]; omega) (fun x hx => by have := rng_mem.1 hx; omega) (rng_lt _ _)
    rw [rng_len, ← ha, ← hs] at hi
    simp (disch := ((try simp only [List.length_set, List.length_replicate, List.length_append, List.length_cons, List.length_nil]); omega)) only [aW, aX, aV, aB, aN, aL, aP, aH]
    refine hi.mono ?_
    rintro r H' ⟨rfl, T, t1, t2, rfl⟩
    refine aret_of ?_
    have tl : T.length = 20 := by rw [t1.length_eq, rng_len]
    have hf : (D ++ [T]).flatten.length = a + 20 := by simp [← ha, tl]
    have hf2 : (D ++ [T]).flatten = D.flatten ++ T := by simp
    unfold HS
    simp (disch := ((try simp only [List.length_set, List.length_replicate, List.length_append, List.length_cons, List.length_nil]); omega)) only [aW, aX, aV, aB, aN, aL, aP, aH]
    refine ⟨D ++ [T], ⟨fun S hS => ?_, RunsOk.app h2 ⟨fun x hx => ?_, t2, trivial⟩, by omega⟩, by omega, ?_⟩
    · rcases List.mem_append.1 hS with hS | hS
      · exact h1 S hS
      · have : S = T := by simpa using hS
        rw [this, tl]
    · have := rng_mem.1 (t1.mem_iff.1 hx); omega
    · rw [hf, hf2, List.append_assoc]
      exact Cut.of' 4 rfl (by omega) (by simp (disch := first | omega | simp (disch := omega) only [aF, aL, aN]) only [aW, aX, aV, aB, aN, aL, aP, aH, aF, Int.natCast_add, Int.natCast_mul, Int.add_sub_cancel, List.length_nil, Int.cast_ofNat_Int, and_true, true_and]) (by simp (disch := first | omega | simp (disch := omega) only [aF, aL, aN]) only [aW, aX, aV, aB, aN, aL, aP, aH, aF, Int.natCast_add, Int.natCast_mul, Int.add_sub_cancel, List.length_nil, Int.cast_ofNat_Int, and_true, true_and, Int.add_assoc])
  have hi := insertionSort_vr p q hq (by omega) D.flatten (rng a (q.length - a)) [] (by simp only [List.length_append, rng_len, List.length_nil]; omega) (fun x hx => by have := rng_mem.1 hx; omega) (rng_lt _ _)
  rw [rng_len, ← ha, List.append_nil, show a + (q.length - a) = q.length by omega] at hi
  simp (disch := ((try simp only [List.length_set, List.length_replicate, List.length_append, List.length_cons, List.length_nil]); omega)) only [aW, aX, aV, aB, aN, aL, aP, aH]
  refine hi.mono ?_
  rintro r H' ⟨rfl, T, t1, t2, rfl⟩
  refine aret_of ?_
  have tl : T.length = q.length - a := by rw [t1.length_eq, rng_len]
  -- the parts after the first pass
  obtain ⟨U, hU1, hU2, hU3⟩ : ∃ U, U.flatten = D.flatten ++ T ∧ Shape 20 U ∧ RunsOk q 0 U := by
    by_cases hz : T.length = 0
    · have : T = [] := List.eq_nil_of_length_eq_zero hz
      subst this
      exact ⟨D, by simp, by have := Shape.app (by omega : 0 < 20) h1 (U := []) trivial; simpa using this, h2⟩
    · refine ⟨D ++ [T], by simp, Shape.app (by omega) h1 ⟨by omega, by omega⟩, RunsOk.app h2 ⟨fun x hx => ?_, t2, trivial⟩⟩
      have := rng_mem.1 (t1.mem_iff.1 hx); omega
  have hUl : U.flatten.length = q.length := by rw [hU1, List.length_append]; omega
  rw [List.append_nil, ← hU1]
  clear hU1 t1 t2 tl hi h1 h2 h3 hlt ha
  unfold HS
  skip
  simp (disch := ((try simp only [List.length_set, List.length_replicate, List.length_append, List.length_cons, List.length_nil]); omega)) only [aW, aX, aV, aB, aN, aL, aP, aH]
  refine AWP.loopP (α := Nat × List (List Int)) g_slices_stableCmpFunc_1 (fun s => 20 ≤ s.1 ∧ s.1 ≤ 20 + 2 * q.length ∧ s.2.flatten.length = q.length ∧ Shape s.1 s.2 ∧ RunsOk q 0 s.2) (fun s => [(3, .v (.int .i64 s.1))]) (fun s => [(2, ⟨0, ints s.2.flatten⟩)]) (fun s => q.length - s.1) (20, U) ⟨Nat.le_refl _, by omega, hUl, hU2, hU3⟩ ?_ ?_
  · exact Cut.of' 4 rfl (by omega) (by simp (disch := first | omega | simp (disch := omega) only [aF, aL, aN]) only [aW, aX, aV, aB, aN, aL, aP, aH, aF, Int.natCast_add, Int.natCast_mul, Int.add_sub_cancel, List.length_nil, Int.cast_ofNat_Int, and_true, true_and]) (by simp (disch := first | omega | simp (disch := omega) only [aF, aL, aN]) only [aW, aX, aV, aB, aN, aL, aP, aH, aF, Int.natCast_add, Int.natCast_mul, Int.add_sub_cancel, List.length_nil, Int.cast_ofNat_Int, and_true, true_and])
  clear hUl hU2 hU3
  rintro ⟨bs, U⟩ ⟨h1, h2, h3, h4, h5⟩
  simp only at h1 h2 h3 h4 h5
  by_cases hlt : bs < q.length
  · simp (disch := ((try simp only [List.length_set, List.length_replicate, List.length_append, List.length_cons, List.length_nil]); omega)) only [aW, aX, aV, aB, aN, aL, aP, aH]
    refine AWP.loopP (α := List (List Int) × List (List Int)) g_slices_stableCmpFunc_2 (fun s => AllLen (2 * bs) s.1 ∧ Shape bs s.2 ∧ RunsOk q 0 s.1 ∧ RunsOk q s.1.flatten.length s.2 ∧ s.1.flatten.length + s.2.flatten.length = q.length) (fun s => [(3, .v (.int .i64 bs)), (4, .v (.int .i64 s.1.flatten.length)), (5, .v (.int .i64 (s.1.flatten.length + 2 * bs : Nat)))]) (fun s => [(2, ⟨0, ints (s.1.flatten ++ s.2.flatten)⟩)]) (fun s => s.2.flatten.length) ([], U) ⟨fun T hT => by simp at hT, h4, trivial, by simpa using h5, by simpa using h3⟩ ?_ ?_
    · simp only [List.flatten_nil, List.length_nil, Nat.zero_add, List.nil_append]
      try simp (disch := ((try simp only [List.length_set, List.length_replicate, List.length_append, List.length_cons, List.length_nil]); omega)) only [aW, aX, aV, aB, aN, aL, aP, aH]
      exact Cut.of' 4 rfl (by omega) (by simp (disch := first | omega | simp (disch := omega) only [aF, aL, aN]) only [aW, aX, aV, aB, aN, aL, aP, aH, aF, Int.natCast_add, Int.natCast_mul, Int.add_sub_cancel, List.length_nil, Int.cast_ofNat_Int, and_true, true_and]) (by simp (disch := first | omega | simp (disch := omega) only [aF, aL, aN]) only [aW, aX, aV, aB, aN, aL, aP, aH, aF, Int.natCast_add, Int.natCast_mul, Int.add_sub_cancel, List.length_nil, Int.cast_ofNat_Int, and_true, true_and])
    clear h3 h4 h5
    rintro ⟨D, W⟩ ⟨g1, g2, g3, g4, g5⟩
    simp only at g1 g2 g3 g4 g5
    obtain ⟨a, ha⟩ : ∃ a, a = D.flatten.length := ⟨_, rfl⟩
    rw [← ha] at g4 g5 ⊢
    by_cases hb : a + 2 * bs ≤ q.length
    · obtain ⟨T1, T2, W', rfl, w1, w2, w3⟩ := Shape.two (by omega) g2 (by omega)
      obtain ⟨v1, v2, v3, v4, v5⟩ := g4
      have hfl : (T1 :: T2 :: W').flatten = T1 ++ (T2 ++ W'.flatten) := by simp
      have hlen : (T1 ++ (T2 ++ W'.flatten)).length = bs + (bs + W'.flatten.length) := by simp only [List.length_append]; omega
      rw [hfl, hlen] at g5
      have hm := symMerge_vr (p := p) hq (by omega) (2 * bs) D.flatten T1 T2 W'.flatten (by omega) (by omega) (by omega) (by simp only [List.length_append]; omega) (fun x hx => by have := v1 x hx; omega) (fun x hx => by have := v3 x hx; omega) v2 v4 (fun x hx y hy => by have := v1 x hx; have := v3 y hy; omega)
      rw [← ha, w1, w2] at hm
      have e1 : (a : Int) + bs = (a + bs : Nat) := by omega
      have e2 : ((a + 2 * bs : Nat) : Int) = (a + bs + bs : Nat) := by omega
      rw [hfl, e2]
      simp (disch := ((try simp only [List.length_set, List.length_replicate, List.length_append, List.length_cons, List.length_nil]); omega)) only [aW, aX, aV, aB, aN, aL, aP, aH, e1]
      refine hm.mono ?_
      rintro r H' ⟨rfl, T, t1, t2, rfl⟩
      refine aret_of ?_
      have tl : T.length = 2 * bs := by rw [t1.length_eq, List.length_append]; omega
      have hf : (D ++ [T]).flatten = D.flatten ++ T := by simp
      have hf2 : (D.flatten ++ T).length = a + 2 * bs := by rw [List.length_append]; omega
      unfold HS
      skip
      simp (disch := ((try simp only [List.length_set, List.length_replicate, List.length_append, List.length_cons, List.length_nil]); omega)) only [aW, aX, aV, aB, aN, aL, aP, aH]
      refine ⟨(D ++ [T], W'), ⟨fun S hS => ?_, w3, RunsOk.app g3 ⟨fun x hx => ?_, t2, trivial⟩, ?_, ?_⟩, ?_, ?_⟩
      · rcases List.mem_append.1 hS with hS | hS
        · exact g1 S hS
        · have : S = T := by simpa using hS
          rw [this, tl]
      · rcases List.mem_append.1 (t1.mem_iff.1 hx) with h | h
        · have := v1 x h; omega
        · have := v3 x h; omega
      · simp only [hf, hf2]
        rw [show a + 2 * bs = a + T1.length + T2.length by omega]; exact v5
      · simp only [hf, hf2]; omega
      · simp only [hfl, hlen]; omega
      · simp only [hf, hf2, List.append_assoc]
        exact Cut.of' 4 rfl (by omega) (by simp (disch := first | omega | simp (disch := omega) only [aF, aL, aN]) only [aW, aX, aV, aB, aN, aL, aP, aH, aF, Int.natCast_add, Int.natCast_mul, Int.add_sub_cancel, List.length_nil, Int.cast_ofNat_Int, and_true, true_and]) (by simp (disch := first | omega | simp (disch := omega) only [aF, aL, aN]) only [aW, aX, aV, aB, aN, aL, aP, aH, aF, Int.natCast_add, Int.natCast_mul, Int.add_sub_cancel, List.length_nil, Int.cast_ofNat_Int, and_true, true_and, Int.add_assoc, Int.two_mul])
    · have e1 : (a : Int) + bs = (a + bs : Nat) := by omega
      simp (disch := ((try simp only [List.length_set, List.length_replicate, List.length_append, List.length_cons, List.length_nil]); omega)) only [aW, aX, aV, aB, aN, aL, aP, aH, e1]
      refine aif_merge (fun H' => ∃ W' : List (List Int), Shape (2 * bs) W' ∧ RunsOk q a W' ∧ W'.flatten.length = W.flatten.length ∧ H' = HS p q (D.flatten ++ W'.flatten)) ?_ ?_ ?_
      · intro ht
        have ht := of_decide_eq_true ht
        rcases Shape.end (by omega) g2 (by omega) with (rfl | ⟨T, rfl, w1, w2⟩) | ⟨T1, T2, rfl, w1, w2⟩
        · simp at g5; omega
        · simp at g5; omega
        · obtain ⟨v1, v2, v3, v4, v5⟩ := g4
          have hfl : [T1, T2].flatten = T1 ++ (T2 ++ []) := by simp
          rw [hfl] at g5 ⊢
          simp only [List.length_append, List.length_nil, Nat.add_zero] at g5
          have hm := symMerge_vr (p := p) hq (by omega) (2 * bs) D.flatten T1 T2 [] (by omega) (by omega) (by omega) (by simp only [List.length_append, List.length_nil]; omega) (fun x hx => by have := v1 x hx; omega) (fun x hx => by have := v3 x hx; omega) v2 v4 (fun x hx y hy => by have := v1 x hx; have := v3 y hy; omega)
          rw [← ha, w1, show a + bs + T2.length = q.length by omega] at hm
          simp (disch := ((try simp only [List.length_set, List.length_replicate, List.length_append, List.length_cons, List.length_nil]); omega)) only [aW, aX, aV, aB, aN, aL, aP, aH]
          refine hm.mono ?_
          rintro r H' ⟨rfl, T, t1, t2, rfl⟩
          refine aret_of ?_
          have tl : T.length = bs + T2.length := by rw [t1.length_eq, List.length_append]; omega
          simp (disch := ((try simp only [List.length_set, List.length_replicate, List.length_append, List.length_cons, List.length_nil]); omega)) only [aW, aX, aV, aB, aN, aL, aP, aH]
          refine ⟨trivial, trivial, [T], ⟨by omega, by omega⟩, ⟨fun x hx => ?_, t2, trivial⟩, by simp; omega, by simp⟩
          rcases List.mem_append.1 (t1.mem_iff.1 hx) with h | h
          · have := v1 x h; omega
          · have := v3 x h; omega
      · intro ht
        have ht := of_decide_eq_false ht
        simp (disch := ((try simp only [List.length_set, List.length_replicate, List.length_append, List.length_cons, List.length_nil]); omega)) only [aW, aX, aV, aB, aN, aL, aP, aH]
        refine ⟨trivial, trivial, W, ?_, g4, rfl, rfl⟩
        rcases Shape.end (by omega) g2 (by omega) with (rfl | ⟨T, rfl, w1, w2⟩) | ⟨T1, T2, rfl, w1, w2⟩
        · trivial
        · exact ⟨w1, by omega⟩
        · simp at g5; omega
      rintro H' ⟨W', w1, w2, w3, rfl⟩
      unfold HS
      skip
      simp (disch := ((try simp only [List.length_set, List.length_replicate, List.length_append, List.length_cons, List.length_nil]); omega)) only [aW, aX, aV, aB, aN, aL, aP, aH]
      refine ⟨(2 * bs, D ++ W'), ⟨by simp only; omega, by simp only; omega, ?_, Shape.app (by omega) g1 w1, RunsOk.app g3 (by rw [Nat.zero_add, ← ha]; exact w2)⟩, by simp only; omega, ?_⟩
      · simp only [List.flatten_append, List.length_append]; omega
      · simp only [List.flatten_append]
        exact Cut.of' 4 rfl (by omega) (by simp (disch := first | omega | simp (disch := omega) only [aF, aL, aN]) only [aW, aX, aV, aB, aN, aL, aP, aH, aF, Int.natCast_add, Int.natCast_mul, Int.add_sub_cancel, List.length_nil, Int.cast_ofNat_Int, and_true, true_and]) (by simp (disch := first | omega | simp (disch := omega) only [aF, aL, aN]) only [aW, aX, aV, aB, aN, aL, aP, aH, aF, Int.natCast_add, Int.natCast_mul, Int.add_sub_cancel, List.length_nil, Int.cast_ofNat_Int, and_true, true_and, Int.mul_comm])
  · have hU : U.flatten.Pairwise (ltO q) ∧ InR q.length U.flatten := by
      match U, h4, h5 with
      | [], _, _ => exact ⟨by simp, fun x hx => by simp at hx⟩
      | [T], _, h5 =>
        obtain ⟨v1, v2, v3⟩ := h5
        simp at h3
        refine ⟨by simpa using v2, fun x hx => ?_⟩
        have := v1 x (by simpa using hx); omega
      | T1 :: T2 :: U, h4, _ =>
        have w1 : T1.length = bs := h4.1
        have w2 : 0 < T2.length := by
          match U, h4.2 with
          | [], h => exact h.1
          | _ :: _, h => rw [h.1]; omega
        simp at h3; omega
    simp (disch := ((try simp only [List.length_set, List.length_replicate, List.length_append, List.length_cons, List.length_nil]); omega)) only [aW, aX, aV, aB, aN, aL, aP, aH, r_slices_stableCmpFunc]
    exact post2 ⟨rfl, U.flatten, by omega, by exact hU.2, hU.1, rfl⟩

theorem sortStable_vr {p q : List Int} (hq : QOk q) (hl : q.length < 100000) :
    VR P false n_slices_SortStableFuncint_int [dataA q.length, cmpA] (HS p q (rng 0 q.length)) fun r H' => r = .tup [] ∧ ∃ T : List Int, T.length = q.length ∧ InR q.length T ∧ T.Pairwise (ltO q) ∧ H' = HS p q T := by
  refine vr_slices_SortStableFuncint_int (by simp) (.inl rfl) fun _ _ => ?_
  simp (disch := ((try simp only [List.length_set, List.length_replicate, List.length_append, List.length_cons, List.length_nil]); omega)) only [aW, aX, aV, aB, aN, aL, aP, aH, s_slices_SortStableFuncint_int, v_slices_SortStableFuncint_int]
  refine (stable_vr (p := p) hq hl).mono ?_
  rintro r H' ⟨rfl, T, t1, t2, t3, rfl⟩
  refine aret_of ?_
  simp (disch := ((try simp only [List.length_set, List.length_replicate, List.length_append, List.length_cons, List.length_nil]); omega)) only [aW, aX, aV, aB, aN, aL, aP, aH, r_slices_SortStableFuncint_int]
  exact post2 ⟨rfl, T, t1, t2, t3, rfl⟩
end Go.Proofs.Ytbgmhbjfcpddkaa
