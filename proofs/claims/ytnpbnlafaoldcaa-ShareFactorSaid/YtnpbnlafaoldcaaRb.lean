/- Exchanging and turning parts of a list, as the library's stable sort does. No statement is claimed here. -/
import Derived.Test.YtnpbnlafaoldcaaRa
namespace Go.Proofs.Ytnpbnlafaoldcaa
open Go Go.Lft
set_option linter.unusedSimpArgs false
set_option linter.unusedVariables false
attribute [local congr] ob_congr bw_congr ib_congr ck_congr iwA_congr itA_congr aw_congr awp_congr sqA_congr bkA_congr vr_congr gd_congr

/-- The memory in which the sort works: parts, rests, the order, the variable of the rests. -/
def HS (p q o : List Int) : List Blk := [⟨0, ints p⟩, ⟨0, ints q⟩, ⟨0, ints o⟩, ⟨0, [.sl 1 0 1 0 q.length]⟩]
abbrev dataA (n : Nat) : A := .sl 2 0 1 0 n
abbrev cmpA : A := .fn n_share_Split_1 [.lp 3 0 0]

def swap2 (o : List Int) (i j : Nat) : List Int := (o.set i (o.getD j 0)).set j (o.getD i 0)
theorem swap2_len (o : List Int) (i j : Nat) : (swap2 o i j).length = o.length := by simp [swap2]
def swp (o : List Int) (a b : Nat) : Nat → List Int
  | 0 => o
  | k + 1 => swap2 (swp o a b k) (a + k) (b + k)
theorem swp_len (o : List Int) (a b : Nat) : ∀ k, (swp o a b k).length = o.length
  | 0 => rfl
  | k + 1 => by rw [swp, swap2_len, swp_len o a b k]
theorem swap2_get (o : List Int) (i j l : Nat) (hij : i ≠ j) (hi : i < o.length) (hj : j < o.length) : (swap2 o i j).getD l 0 = if l = i then o.getD j 0 else if l = j then o.getD i 0 else o.getD l 0 := by
  unfold swap2
  rw [getD_seti, getD_seti, List.length_set]
  by_cases h1 : l = i
  · subst h1
    rw [if_neg (fun h => hij h.1.symm), if_pos ⟨rfl, hi⟩, if_pos rfl]
  · rw [if_neg h1]
    by_cases h2 : l = j
    · subst h2; rw [if_pos ⟨rfl, hj⟩, if_pos rfl]
    · rw [if_neg (fun h => h2 h.1.symm), if_neg (fun h => h1 h.1.symm), if_neg h2]
theorem swp_get (o : List Int) (a b : Nat) : ∀ k, a + k ≤ b → b + k ≤ o.length → ∀ l, (swp o a b k).getD l 0 = if a ≤ l ∧ l < a + k then o.getD (l - a + b) 0 else if b ≤ l ∧ l < b + k then o.getD (l - b + a) 0 else o.getD l 0
  | 0, _, _, l => by
    rw [if_neg (by omega), if_neg (by omega)]; rfl
  | k + 1, h1, h2, l => by
    have ih := swp_get o a b k (by omega) (by omega)
    rw [swp, swap2_get _ _ _ _ (by omega) (by rw [swp_len]; omega) (by rw [swp_len]; omega), ih, ih, ih]
    by_cases e1 : l = a + k
    · subst e1
      rw [if_pos rfl, if_neg (by omega), if_neg (by omega), if_pos (by omega)]
      congr 1; omega
    · rw [if_neg e1]
      by_cases e2 : l = b + k
      · subst e2
        rw [if_pos rfl, if_neg (by omega), if_neg (by omega), if_neg (by omega), if_pos (by omega)]
        congr 1; omega
      · rw [if_neg e2]
        have r1 : (a ≤ l ∧ l < a + (k + 1)) = (a ≤ l ∧ l < a + k) := propext (by omega)
        have r2 : (b ≤ l ∧ l < b + (k + 1)) = (b ≤ l ∧ l < b + k) := propext (by omega)
        simp only [r1, r2]
theorem get_app (a b : List Int) (i : Nat) : (a ++ b).getD i 0 = if i < a.length then a.getD i 0 else b.getD (i - a.length) 0 := by
  simp only [List.getD_eq_getElem?_getD]
  split
  · rename_i h; rw [List.getElem?_append_left h]
  · rename_i h; rw [List.getElem?_append_right (by omega)]
theorem swp_app (P X M Y S : List Int) (h : X.length = Y.length) : swp (P ++ (X ++ (M ++ (Y ++ S)))) P.length (P.length + X.length + M.length) X.length = P ++ (Y ++ (M ++ (X ++ S))) := by
  refine eq_getD (by rw [swp_len]; simp only [List.length_append]; omega) fun i hi => ?_
  rw [swp_len] at hi
  simp only [List.length_append] at hi
  rw [swp_get _ _ _ _ (by omega) (by simp only [List.length_append]; omega)]
  simp only [get_app]
  by_cases e1 : i < P.length
  · rw [if_neg (by omega), if_neg (by omega), if_pos e1, if_pos e1]
  · by_cases e2 : i < P.length + X.length
    · rw [if_pos (by omega), if_neg (by omega), if_neg (by omega), if_neg (by omega), if_pos (by omega), if_neg e1, if_pos (by omega)]
      congr 1; omega
    · by_cases e3 : i < P.length + X.length + M.length
      · rw [if_neg (by omega), if_neg (by omega), if_neg e1, if_neg (by omega), if_pos (by omega), if_neg e1, if_neg (by omega), if_pos (by omega)]
        congr 1; omega
      · by_cases e4 : i < P.length + X.length + M.length + Y.length
        · rw [if_neg (by omega), if_pos (by omega), if_neg (by omega), if_pos (by omega), if_neg e1, if_neg (by omega), if_neg (by omega), if_pos (by omega)]
          congr 1; omega
        · rw [if_neg (by omega), if_neg (by omega), if_neg e1, if_neg (by omega), if_neg (by omega), if_neg (by omega), if_neg e1, if_neg (by omega), if_neg (by omega), if_neg (by omega)]
          congr 1; omega

theorem swapRange_vr (p q o : List Int) (n : Nat) (hn : n = o.length) (hl : n < 1000000) (a b k : Nat) (h1 : a + k ≤ b) (h2 : b + k ≤ o.length) :
    VR P false n_slices_swapRangeCmpFunc [dataA n, .v (.int .i64 a), .v (.int .i64 b), .v (.int .i64 k), cmpA] (HS p q o) fun r H' => r = .tup [] ∧ H' = HS p q (swp o a b k) := by
  refine vr_slices_swapRangeCmpFunc (by simp) (.inl rfl) fun _ _ => ?_
  subst hn
  unfold HS
  simp (disch := ((try simp only [List.length_set, List.length_replicate, List.length_append, List.length_cons, List.length_nil]); omega)) only [aW, aX, aV, aB, aN, aL, aP, aH, s_slices_swapRangeCmpFunc, v_slices_swapRangeCmpFunc]
  refine AWP.loopP g_slices_swapRangeCmpFunc_0 (fun i : Nat => i ≤ k) (fun i => [(5, .v (.int .i64 i))]) (fun i => [(2, ⟨0, ints (swp o a b i)⟩)]) (fun i => k - i) 0 (by omega) ?_ ?_
  · try simp (disch := ((try simp only [List.length_set, List.length_replicate, List.length_append, List.length_cons, List.length_nil]); omega)) only [aW, aX, aV, aB, aN, aL, aP, aH]
    exact Cut.of' 4 rfl (by omega) (by simp (disch := first | omega | simp (disch := omega) only [aF, aL, aN]) only [aW, aX, aV, aB, aN, aL, aP, aH, aF, Int.natCast_add, Int.natCast_mul, Int.add_sub_cancel, List.length_nil, Int.cast_ofNat_Int, and_true, true_and, swp]) (by simp (disch := first | omega | simp (disch := omega) only [aF, aL, aN]) only [aW, aX, aV, aB, aN, aL, aP, aH, aF, Int.natCast_add, Int.natCast_mul, Int.add_sub_cancel, List.length_nil, Int.cast_ofNat_Int, and_true, true_and])
  rintro i hi
  have hsl := swp_len o a b i
  by_cases hlt : i < k
  · have e1 : swp o a b (i + 1) = ((swp o a b i).set (a + i) ((swp o a b i).getD (b + i) 0)).set (b + i) ((swp o a b i).getD (a + i) 0) := rfl
    have t1 : ((a : Int) + i).toNat = a + i := by omega
    have t2 : ((b : Int) + i).toNat = b + i := by omega
    simp (disch := ((try simp only [List.length_set, List.length_replicate, List.length_append, List.length_cons, List.length_nil]); omega)) only [aW, aX, aV, aB, aN, aL, aP, aH, t1, t2]
    refine ⟨i + 1, by omega, by omega, ?_⟩
    rw [e1]
    try simp (disch := ((try simp only [List.length_set, List.length_replicate, List.length_append, List.length_cons, List.length_nil]); omega)) only [aW, aX, aV, aB, aN, aL, aP, aH]
    exact Cut.of' 4 rfl (by omega) (by simp (disch := first | omega | simp (disch := omega) only [aF, aL, aN]) only [aW, aX, aV, aB, aN, aL, aP, aH, aF, Int.natCast_add, Int.natCast_mul, Int.add_sub_cancel, List.length_nil, Int.cast_ofNat_Int, and_true, true_and]) (by simp (disch := first | omega | simp (disch := omega) only [aF, aL, aN]) only [aW, aX, aV, aB, aN, aL, aP, aH, aF, Int.natCast_add, Int.natCast_mul, Int.add_sub_cancel, List.length_nil, Int.cast_ofNat_Int, and_true, true_and])
  · have hie : i = k := by omega
    subst hie
    simp (disch := ((try simp only [List.length_set, List.length_replicate, List.length_append, List.length_cons, List.length_nil]); omega)) only [aW, aX, aV, aB, aN, aL, aP, aH, r_slices_swapRangeCmpFunc]
    exact post2 ⟨rfl, rfl⟩

theorem rotate_vr (p q : List Int) (n : Nat) (hl : n < 1000000) (Pr X Y S : List Int) (hn : n = (Pr ++ (X ++ (Y ++ S))).length) (hX : 0 < X.length) (hY : 0 < Y.length) :
    VR P false n_slices_rotateCmpFunc [dataA n, .v (.int .i64 Pr.length), .v (.int .i64 (Pr.length + X.length : Nat)), .v (.int .i64 (Pr.length + X.length + Y.length : Nat)), cmpA] (HS p q (Pr ++ (X ++ (Y ++ S)))) fun r H' => r = .tup [] ∧ H' = HS p q (Pr ++ (Y ++ (X ++ S))) := by
  refine vr_slices_rotateCmpFunc (by simp) (.inl rfl) fun _ _ => ?_
  simp only [List.length_append] at hn
  unfold HS
  simp (disch := ((try simp only [List.length_set, List.length_replicate, List.length_append, List.length_cons, List.length_nil]); omega)) only [aW, aX, aV, aB, aN, aL, aP, aH, s_slices_rotateCmpFunc, v_slices_rotateCmpFunc]
  refine AWP.loopP (α := List Int × List Int × List Int × List Int) g_slices_rotateCmpFunc_0 (fun s => s.1.length + s.2.1.length = Pr.length + X.length ∧ s.1.length + s.2.1.length + s.2.2.1.length ≤ n ∧ 0 < s.2.1.length ∧ 0 < s.2.2.1.length ∧ (s.1 ++ (s.2.1 ++ (s.2.2.1 ++ s.2.2.2))).length = n ∧ s.1 ++ (s.2.2.1 ++ (s.2.1 ++ s.2.2.2)) = Pr ++ (Y ++ (X ++ S)))
    (fun s => [(5, .v (.int .i64 s.2.1.length)), (6, .v (.int .i64 s.2.2.1.length))]) (fun s => [(2, ⟨0, ints (s.1 ++ (s.2.1 ++ (s.2.2.1 ++ s.2.2.2)))⟩)]) (fun s => s.2.1.length + s.2.2.1.length) (Pr, X, Y, S) ⟨rfl, by simp only; omega, hX, hY, by simp only [List.length_append]; omega, rfl⟩ ?_ ?_
  · have e1 : ((Pr.length + X.length : Nat) : Int) - Pr.length = X.length := by omega
    have e2 : ((Pr.length + X.length + Y.length : Nat) : Int) - ((Pr.length + X.length : Nat) : Int) = Y.length := by omega
    simp (disch := ((try simp only [List.length_set, List.length_replicate, List.length_append, List.length_cons, List.length_nil]); omega)) only [aW, aX, aV, aB, aN, aL, aP, aH, e1, e2]
    exact Cut.of' 4 rfl (by omega) (by simp (disch := first | omega | simp (disch := omega) only [aF, aL, aN]) only [aW, aX, aV, aB, aN, aL, aP, aH, aF, Int.natCast_add, Int.natCast_mul, Int.add_sub_cancel, List.length_nil, Int.cast_ofNat_Int, and_true, true_and]) (by simp (disch := first | omega | simp (disch := omega) only [aF, aL, aN]) only [aW, aX, aV, aB, aN, aL, aP, aH, aF, Int.natCast_add, Int.natCast_mul, Int.add_sub_cancel, List.length_nil, Int.cast_ofNat_Int, and_true, true_and])
  rintro ⟨P1, X1, Y1, S1⟩ ⟨h1, h2, h3, h4, h5, h6⟩
  simp only at h1 h2 h3 h4 h5 h6
  have a1 : ((Pr.length + X.length : Nat) : Int) - X1.length = P1.length := by omega
  have lenI : (P1 ++ (X1 ++ (Y1 ++ S1))).length = P1.length + X1.length + Y1.length + S1.length := by simp only [List.length_append]; omega
  by_cases hne : X1.length = Y1.length
  · have hsw := swapRange_vr p q (P1 ++ (X1 ++ (Y1 ++ S1))) n h5.symm hl P1.length (Pr.length + X.length) X1.length (by omega) (by omega)
    have e3 := swp_app P1 X1 [] Y1 S1 hne
    simp only [List.nil_append, List.length_nil, Nat.add_zero] at e3
    rw [← h1, e3, h6] at hsw
    rw [← h1] at a1 ⊢
    simp (disch := ((try simp only [List.length_set, List.length_replicate, List.length_append, List.length_cons, List.length_nil]); omega)) only [aW, aX, aV, aB, aN, aL, aP, aH, a1]
    refine hsw.mono ?_
    rintro r H' ⟨rfl, rfl⟩
    refine aret_of ?_
    unfold HS
    simp (disch := ((try simp only [List.length_set, List.length_replicate, List.length_append, List.length_cons, List.length_nil]); omega)) only [aW, aX, aV, aB, aN, aL, aP, aH, r_slices_rotateCmpFunc]
    exact post2 ⟨rfl, rfl⟩
  · have hnd : decide ((X1.length : Int) ≠ Y1.length) = true := decide_eq_true (by omega)
    by_cases hgt : Y1.length < X1.length
    · have hsw := swapRange_vr p q (P1 ++ (X1 ++ (Y1 ++ S1))) n h5.symm hl P1.length (Pr.length + X.length) Y1.length (by omega) (by omega)
      have e3 := swp_app P1 (X1.take Y1.length) (X1.drop Y1.length) Y1 S1 (by simp; omega)
      rw [← List.append_assoc (X1.take Y1.length), List.take_append_drop] at e3
      have e4 : P1.length + (X1.take Y1.length).length + (X1.drop Y1.length).length = Pr.length + X.length := by simp; omega
      have e5 : (X1.take Y1.length).length = Y1.length := by simp; omega
      rw [e4, e5] at e3
      rw [e3] at hsw
      simp (disch := ((try simp only [List.length_set, List.length_replicate, List.length_append, List.length_cons, List.length_nil]); omega)) only [aW, aX, aV, aB, aN, aL, aP, aH, a1]
      refine hsw.mono ?_
      rintro r H' ⟨rfl, rfl⟩
      refine aret_of ?_
      unfold HS
      have e6 : (X1.length : Int) - Y1.length = (X1.drop Y1.length).length := by simp; omega
      have e7 : (Y1.length : Int) = (X1.take Y1.length).length := by omega
      simp (disch := ((try simp only [List.length_set, List.length_replicate, List.length_append, List.length_cons, List.length_nil]); omega)) only [aW, aX, aV, aB, aN, aL, aP, aH, e6]
      refine ⟨(P1 ++ Y1, X1.drop Y1.length, X1.take Y1.length, S1), ⟨?_, ?_, ?_, ?_, ?_, ?_⟩, ?_, ?_⟩
      · simp only [List.length_append, List.length_drop]; omega
      · simp only [List.length_append, List.length_drop, List.length_take]; omega
      · simp only [List.length_drop]; omega
      · simp only [List.length_take]; omega
      · simp only [List.length_append, List.length_drop, List.length_take]; omega
      · rw [← h6]
        simp only [List.append_assoc]
        rw [← List.append_assoc (X1.take _), List.take_append_drop]
      · simp only [List.length_drop, List.length_take]; omega
      · simp only [List.append_assoc, ← e7]
        try simp (disch := ((try simp only [List.length_set, List.length_replicate, List.length_append, List.length_cons, List.length_nil]); omega)) only [aW, aX, aV, aB, aN, aL, aP, aH]
        exact Cut.of' 4 rfl (by omega) (by simp (disch := first | omega | simp (disch := omega) only [aF, aL, aN]) only [aW, aX, aV, aB, aN, aL, aP, aH, aF, Int.natCast_add, Int.natCast_mul, Int.add_sub_cancel, List.length_nil, Int.cast_ofNat_Int, and_true, true_and]) (by simp (disch := first | omega | simp (disch := omega) only [aF, aL, aN]) only [aW, aX, aV, aB, aN, aL, aP, aH, aF, Int.natCast_add, Int.natCast_mul, Int.add_sub_cancel, List.length_nil, Int.cast_ofNat_Int, and_true, true_and])
    · have hsw := swapRange_vr p q (P1 ++ (X1 ++ (Y1 ++ S1))) n h5.symm hl P1.length (Pr.length + X.length + Y1.length - X1.length) X1.length (by omega) (by omega)
      have e3 := swp_app P1 X1 (Y1.take (Y1.length - X1.length)) (Y1.drop (Y1.length - X1.length)) S1 (by simp; omega)
      rw [← List.append_assoc (Y1.take _), List.take_append_drop] at e3
      have e4 : P1.length + X1.length + (Y1.take (Y1.length - X1.length)).length = Pr.length + X.length + Y1.length - X1.length := by simp; omega
      rw [e4] at e3
      rw [e3] at hsw
      have a2 : ((Pr.length + X.length : Nat) : Int) + Y1.length - X1.length = (Pr.length + X.length + Y1.length - X1.length : Nat) := by omega
      simp (disch := ((try simp only [List.length_set, List.length_replicate, List.length_append, List.length_cons, List.length_nil]); omega)) only [aW, aX, aV, aB, aN, aL, aP, aH, a1, a2]
      refine hsw.mono ?_
      rintro r H' ⟨rfl, rfl⟩
      refine aret_of ?_
      unfold HS
      have e6 : (Y1.length : Int) - X1.length = (Y1.take (Y1.length - X1.length)).length := by simp; omega
      have e7 : (X1.length : Int) = (Y1.drop (Y1.length - X1.length)).length := by simp; omega
      simp (disch := ((try simp only [List.length_set, List.length_replicate, List.length_append, List.length_cons, List.length_nil]); omega)) only [aW, aX, aV, aB, aN, aL, aP, aH, e6]
      refine ⟨(P1, Y1.drop (Y1.length - X1.length), Y1.take (Y1.length - X1.length), X1 ++ S1), ⟨?_, ?_, ?_, ?_, ?_, ?_⟩, ?_, ?_⟩
      · simp only [List.length_drop]; omega
      · simp only [List.length_drop, List.length_take]; omega
      · simp only [List.length_drop]; omega
      · simp only [List.length_take]; omega
      · simp only [List.length_append, List.length_drop, List.length_take]; omega
      · rw [← h6, ← List.append_assoc (Y1.take _), List.take_append_drop]
      · simp only [List.length_drop, List.length_take]; omega
      · rw [← e7]
        try simp (disch := ((try simp only [List.length_set, List.length_replicate, List.length_append, List.length_cons, List.length_nil]); omega)) only [aW, aX, aV, aB, aN, aL, aP, aH]
        exact Cut.of' 4 rfl (by omega) (by simp (disch := first | omega | simp (disch := omega) only [aF, aL, aN]) only [aW, aX, aV, aB, aN, aL, aP, aH, aF, Int.natCast_add, Int.natCast_mul, Int.add_sub_cancel, List.length_nil, Int.cast_ofNat_Int, and_true, true_and]) (by simp (disch := first | omega | simp (disch := omega) only [aF, aL, aN]) only [aW, aX, aV, aB, aN, aL, aP, aH, aF, Int.natCast_add, Int.natCast_mul, Int.add_sub_cancel, List.length_nil, Int.cast_ofNat_Int, and_true, true_and])
end Go.Proofs.Ytnpbnlafaoldcaa
