/- The library's stable sort, for the order that Split uses. No statement is claimed here. -/
import Derived.Test.YtnpbnlafaoldcaaRb
import Derived.Test.YtnpbnlafaoldcaaVn
namespace Go.Proofs.Ytnpbnlafaoldcaa
open Go Go.Lft
set_option linter.unusedSimpArgs false
set_option linter.unusedVariables false
attribute [local congr] ob_congr bw_congr ib_congr ck_congr iwA_congr itA_congr aw_congr awp_congr sqA_congr bkA_congr vr_congr gd_congr

def kq (q : List Int) (x : Int) : Int := q.getD x.toNat 0
def ltO (q : List Int) (x y : Int) : Prop := kq q y < kq q x ∨ (kq q x = kq q y ∧ x < y)
/-- What a list of rests must be. -/
def QOk (q : List Int) : Prop := ∀ i, i < q.length → 0 ≤ q.getD i 0 ∧ q.getD i 0 ≤ 1125899906842624
def InR (n : Nat) (l : List Int) : Prop := ∀ x ∈ l, 0 ≤ x ∧ x < n

theorem cmp1_vr {w v : Bool} (q : List Int) (hq : QOk q) (x y : Int) (hx : 0 ≤ x ∧ x < q.length) (hy : 0 ≤ y ∧ y < q.length) : VR P false n_share_Split_1 [.v (.int .i64 x), .v (.int .i64 y), .fp w [.fs v (ints q)]] [] (isR (.v (.int .i64 (kq q y - kq q x)))) := by
  refine vr_share_Split_1 (by simp) (.inr rfl) fun _ _ => ?_
  have h1 := hq x.toNat (by omega)
  have h2 := hq y.toNat (by omega)
  simp (disch := ((try simp only [List.length_set, List.length_replicate, List.length_append, List.length_cons, List.length_nil]); omega)) only [aW, aX, aV, aB, aN, aL, aP, aH, s_share_Split_1, v_share_Split_1, r_share_Split_1]
  exact post_v ⟨rfl, rfl⟩
theorem cmpH {kp : Bool} {R : A → List Blk → Prop} (p q o : List Int) (hq : QOk q) (x y : Int) (hx : 0 ≤ x ∧ x < q.length) (hy : 0 ≤ y ∧ y < q.length) (h : R (.v (.int .i64 (kq q y - kq q x))) (HS p q o)) : VR P kp n_share_Split_1 [.v (.int .i64 x), .v (.int .i64 y), .lp 3 0 0] (HS p q o) R :=
  (cmp1_vr (w := false) (v := false) q hq x y hx hy).use ⟨Ld.refl rfl, Ld.refl rfl, Ld.lp (o := 0) (l := [.sl 1 0 1 0 q.length]) rfl ⟨ld_slI _ 1 0 _ q rfl rfl, trivial⟩ (Nat.zero_le _), trivial⟩ rfl h


/-! ### Where what lies -/
theorem get_L (P L R : List Int) (i : Nat) (h : i < L.length) : (P ++ (L ++ R)).getD (P.length + i) 0 = L.getD i 0 := by
  rw [get_app, if_neg (by omega), get_app, if_pos (by omega)]; congr 1; omega
theorem get_R (P L R S : List Int) (i : Nat) (h : i < R.length) : (P ++ (L ++ (R ++ S))).getD (P.length + L.length + i) 0 = R.getD i 0 := by
  rw [get_app, if_neg (by omega), get_app, if_neg (by omega), get_app, if_pos (by omega)]; congr 1; omega
theorem swap_adj (P A B : List Int) (u x : Int) : ((P ++ (A ++ (u :: x :: B))).set (P.length + A.length) x).set (P.length + A.length + 1) u = P ++ (A ++ (x :: u :: B)) := by
  rw [List.set_append_right _ _ (by omega), List.set_append_right _ _ (by omega), List.set_append_right _ _ (by omega), List.set_append_right _ _ (by omega)]
  rw [show P.length + A.length - P.length - A.length = 0 by omega, show P.length + A.length + 1 - P.length - A.length = 1 by omega]; rfl
theorem swap_adj' (P A B : List Int) (u x : Int) : ((P ++ (A ++ (u :: x :: B))).set (P.length + A.length + 1) u).set (P.length + A.length) x = P ++ (A ++ (x :: u :: B)) := by
  rw [List.set_append_right _ _ (by omega), List.set_append_right _ _ (by omega), List.set_append_right _ _ (by omega), List.set_append_right _ _ (by omega)]
  rw [show P.length + A.length - P.length - A.length = 0 by omega, show P.length + A.length + 1 - P.length - A.length = 1 by omega]; rfl
theorem get_at (P A B : List Int) (u : Int) : (P ++ (A ++ (u :: B))).getD (P.length + A.length) 0 = u := by
  rw [get_app, if_neg (by omega), get_app, if_neg (by omega), show P.length + A.length - P.length - A.length = 0 by omega]; rfl
theorem get_at1 (P A B : List Int) (u x : Int) : (P ++ (A ++ (u :: x :: B))).getD (P.length + A.length + 1) 0 = x := by
  rw [get_app, if_neg (by omega), get_app, if_neg (by omega), show P.length + A.length + 1 - P.length - A.length = 1 by omega]; rfl

theorem lt_trans' {q : List Int} {x y z : Int} (h : ltO q x y) (k : ltO q y z) : ltO q x z := by unfold ltO at *; omega
theorem lt_ge {q : List Int} {x y : Int} (h : ltO q x y) : kq q y ≤ kq q x := by unfold ltO at h; omega

theorem insertionSort_vr (p q : List Int) (hq : QOk q) (hl : q.length < 1000000) (Pr L S : List Int) (hn : q.length = (Pr ++ (L ++ S)).length) (hr : InR q.length L) (hi : L.Pairwise (· < ·)) :
    VR P false n_slices_insertionSortCmpFunc [dataA q.length, .v (.int .i64 Pr.length), .v (.int .i64 (Pr.length + L.length : Nat)), cmpA] (HS p q (Pr ++ (L ++ S))) fun r H' => r = .tup [] ∧ ∃ T : List Int, T.Perm L ∧ T.Pairwise (ltO q) ∧ H' = HS p q (Pr ++ (T ++ S)) := by
  refine vr_slices_insertionSortCmpFunc (by simp) (.inl rfl) fun _ _ => ?_
  simp only [List.length_append] at hn
  unfold HS
  simp (disch := ((try simp only [List.length_set, List.length_replicate, List.length_append, List.length_cons, List.length_nil]); omega)) only [aW, aX, aV, aB, aN, aL, aP, aH, s_slices_insertionSortCmpFunc, v_slices_insertionSortCmpFunc]
  refine AWP.loopP (α := Nat × List Int) g_slices_insertionSortCmpFunc_0 (fun s => 1 ≤ s.1 ∧ (s.1 ≤ L.length ∨ s.1 = 1) ∧ s.2.Perm (L.take s.1) ∧ s.2.Pairwise (ltO q)) (fun s => [(4, .v (.int .i64 (Pr.length + s.1 : Nat)))]) (fun s => [(2, ⟨0, ints (Pr ++ (s.2 ++ (L.drop s.1 ++ S)))⟩)]) (fun s => L.length - s.1) (1, L.take 1) ⟨Nat.le_refl _, .inr rfl, List.Perm.refl _, ?_⟩ ?_ ?_
  · cases L with
    | nil => simp
    | cons a L => simp
  · have e1 : L.take 1 ++ (L.drop 1 ++ S) = L ++ S := by rw [← List.append_assoc, List.take_append_drop]
    simp only [e1]
    try simp (disch := ((try simp only [List.length_set, List.length_replicate, List.length_append, List.length_cons, List.length_nil]); omega)) only [aW, aX, aV, aB, aN, aL, aP, aH]
    exact Cut.of' 4 rfl (by omega) (by simp (disch := first | omega | simp (disch := omega) only [aF, aL, aN]) only [aW, aX, aV, aB, aN, aL, aP, aH, aF, Int.natCast_add, Int.natCast_mul, Int.add_sub_cancel, List.length_nil, Int.cast_ofNat_Int, and_true, true_and]) (by simp (disch := first | omega | simp (disch := omega) only [aF, aL, aN]) only [aW, aX, aV, aB, aN, aL, aP, aH, aF, Int.natCast_add, Int.natCast_mul, Int.add_sub_cancel, List.length_nil, Int.cast_ofNat_Int, and_true, true_and])
  rintro ⟨k, T⟩ ⟨h1, h2, h3, h4⟩
  simp only at h1 h2 h3 h4
  have hTl := h3.length_eq
  rw [List.length_take] at hTl
  by_cases hlt : k < L.length
  · have hTk : T.length = k := by omega
    obtain ⟨x, hx⟩ : ∃ x, x = L.getD k 0 := ⟨_, rfl⟩
    have hdrop : L.drop k = x :: L.drop (k + 1) := by
      rw [List.drop_eq_getElem_cons hlt, hx]; simp [List.getD_eq_getElem?_getD, hlt]
    have hxr : 0 ≤ x ∧ x < q.length := by rw [hx]; exact hr _ (mem_getD hlt)
    have hTr : ∀ y ∈ T, 0 ≤ y ∧ y < q.length := fun y hy => hr y (List.mem_of_mem_take (h3.mem_iff.1 hy))
    have hTx : ∀ y ∈ T, y < x := fun y hy => by
      have hy' := h3.mem_iff.1 hy
      have hp : (L.take k ++ L.drop k).Pairwise (· < ·) := by rw [List.take_append_drop]; exact hi
      rw [hdrop] at hp
      exact (List.pairwise_append.1 hp).2.2 y hy' x (by simp)
    rw [hdrop]
    simp (disch := ((try simp only [List.length_set, List.length_replicate, List.length_append, List.length_cons, List.length_nil]); omega)) only [aW, aX, aV, aB, aN, aL, aP, aH]
    refine AWP.loopP (α := List Int × List Int) g_slices_insertionSortCmpFunc_1 (fun s => s.1 ++ s.2 = T ∧ ∀ y ∈ s.2, kq q y < kq q x) (fun s => [(4, .v (.int .i64 (Pr.length + k : Nat))), (5, .v (.int .i64 (Pr.length + s.1.length : Nat)))]) (fun s => [(2, ⟨0, ints (Pr ++ (s.1 ++ (x :: (s.2 ++ (L.drop (k + 1) ++ S)))))⟩)]) (fun s => s.1.length) (T, []) ⟨by simp, by simp⟩ ?_ ?_
    · rw [hTk]
      simp only [List.nil_append, List.cons_append]
      try simp (disch := ((try simp only [List.length_set, List.length_replicate, List.length_append, List.length_cons, List.length_nil]); omega)) only [aW, aX, aV, aB, aN, aL, aP, aH]
      exact Cut.of' 4 rfl (by omega) (by simp (disch := first | omega | simp (disch := omega) only [aF, aL, aN]) only [aW, aX, aV, aB, aN, aL, aP, aH, aF, Int.natCast_add, Int.natCast_mul, Int.add_sub_cancel, List.length_nil, Int.cast_ofNat_Int, and_true, true_and]) (by simp (disch := first | omega | simp (disch := omega) only [aF, aL, aN]) only [aW, aX, aV, aB, aN, aL, aP, aH, aF, Int.natCast_add, Int.natCast_mul, Int.add_sub_cancel, List.length_nil, Int.cast_ofNat_Int, and_true, true_and])
    rintro ⟨A, B⟩ ⟨e1, e2⟩
    simp only at e1 e2
    have hAB : A.length + B.length = k := by rw [← hTk, ← e1, List.length_append]
    have hCl : (Pr ++ (A ++ (x :: (B ++ (L.drop (k + 1) ++ S))))).length = q.length := by simp only [List.length_append, List.length_cons, List.length_drop]; omega
    have hnew : (A ++ x :: B).Perm (L.take (k + 1)) := by
      have : L.take (k + 1) = L.take k ++ [x] := by rw [List.take_succ_eq_append_getElem hlt, hx]; simp [List.getD_eq_getElem?_getD, hlt]
      rw [this]
      refine List.perm_middle.trans ?_
      rw [e1]
      exact (List.Perm.cons x h3).trans (List.perm_append_comm (l₁ := [x]))
    rw [← e1] at h4 hTr hTx
    have hpw := List.pairwise_append.1 h4
    have done : (∀ y ∈ A, kq q x ≤ kq q y) → (A ++ x :: B).Pairwise (ltO q) := fun hA => by
      refine List.pairwise_append.2 ⟨hpw.1, List.pairwise_cons.2 ⟨fun y hy => .inl (e2 y hy), hpw.2.1⟩, fun y hy z hz => ?_⟩
      rcases List.mem_cons.1 hz with rfl | hz
      · have := hA y hy
        have := hTx y (by simp [hy])
        unfold ltO; omega
      · exact hpw.2.2 y hy z hz
    rcases List.eq_nil_or_concat A with rfl | ⟨A', u, rfl⟩
    · simp only [List.length_nil, Nat.add_zero]
      simp (disch := ((try simp only [List.length_set, List.length_replicate, List.length_append, List.length_cons, List.length_nil]); omega)) only [aW, aX, aV, aB, aN, aL, aP, aH]
      refine ⟨(k + 1, [] ++ x :: B), ⟨by simp only; omega, by simp only; omega, hnew, done (by simp)⟩, by simp only; omega, ?_⟩
      simp only [List.nil_append, List.cons_append]
      try simp (disch := ((try simp only [List.length_set, List.length_replicate, List.length_append, List.length_cons, List.length_nil]); omega)) only [aW, aX, aV, aB, aN, aL, aP, aH]
      exact Cut.of' 4 rfl (by omega) (by simp (disch := first | omega | simp (disch := omega) only [aF, aL, aN]) only [aW, aX, aV, aB, aN, aL, aP, aH, aF, Int.natCast_add, Int.natCast_mul, Int.add_sub_cancel, List.length_nil, Int.cast_ofNat_Int, and_true, true_and]) (by simp (disch := first | omega | simp (disch := omega) only [aF, aL, aN]) only [aW, aX, aV, aB, aN, aL, aP, aH, aF, Int.natCast_add, Int.natCast_mul, Int.add_sub_cancel, List.length_nil, Int.cast_ofNat_Int, and_true, true_and, Int.add_assoc])
    · rw [List.concat_eq_append] at *
      have hur : 0 ≤ u ∧ u < q.length := hTr u (by simp)
      have e5 : Pr ++ ((A' ++ [u]) ++ (x :: (B ++ (L.drop (k + 1) ++ S)))) = Pr ++ (A' ++ (u :: x :: (B ++ (L.drop (k + 1) ++ S)))) := by simp
      have g1 := get_at Pr A' (x :: (B ++ (L.drop (k + 1) ++ S))) u
      have g2 := get_at1 Pr A' (B ++ (L.drop (k + 1) ++ S)) u x
      have g3 := swap_adj' Pr A' (B ++ (L.drop (k + 1) ++ S)) u x
      have hlA : (A' ++ [u]).length = A'.length + 1 := by simp
      rw [e5] at hCl ⊢
      rw [hlA] at hAB ⊢
      have t1 : ((Pr.length + (A'.length + 1) : Nat) : Int).toNat = Pr.length + A'.length + 1 := by omega
      have t2 : ((Pr.length + (A'.length + 1) : Nat) : Int) - 1 = (Pr.length + A'.length : Nat) := by omega
      obtain ⟨C, hC⟩ : ∃ C, C = Pr ++ (A' ++ (u :: x :: (B ++ (L.drop (k + 1) ++ S)))) := ⟨_, rfl⟩
      rw [← hC] at hCl g1 g2 g3 ⊢
      simp (disch := ((try simp only [List.length_set, List.length_replicate, List.length_append, List.length_cons, List.length_nil]); omega)) only [aW, aX, aV, aB, aN, aL, aP, aH, t1, t2, g1, g2]
      refine ⟨by kernel_rfl, ?_⟩
      refine cmpH p q C hq x u hxr hur (aret_of ?_)
      have hb1 := hq x.toNat (by omega)
      have hb2 := hq u.toNat (by omega)
      have hb3 : kq q x = q.getD x.toNat 0 := rfl
      have hb4 : kq q u = q.getD u.toNat 0 := rfl
      unfold HS
      simp (disch := ((try simp only [List.length_set, List.length_replicate, List.length_append, List.length_cons, List.length_nil]); omega)) only [aW, aX, aV, aB, aN, aL, aP, aH]
      refine ib_intro (fun h5 => ?_) (fun h5 => ?_)
      · simp (disch := ((try simp only [List.length_set, List.length_replicate, List.length_append, List.length_cons, List.length_nil]); omega)) only [aW, aX, aV, aB, aN, aL, aP, aH, t1, t2, g1, g2, g3]
        refine ⟨(A', u :: B), ⟨by rw [← e1]; simp, fun y hy => ?_⟩, by simp, ?_⟩
        · rcases List.mem_cons.1 hy with rfl | hy
          · omega
          · exact e2 y hy
        · simp only [List.cons_append]
          try simp (disch := ((try simp only [List.length_set, List.length_replicate, List.length_append, List.length_cons, List.length_nil]); omega)) only [aW, aX, aV, aB, aN, aL, aP, aH]
          exact Cut.of' 4 rfl (by omega) (by simp (disch := first | omega | simp (disch := omega) only [aF, aL, aN]) only [aW, aX, aV, aB, aN, aL, aP, aH, aF, Int.natCast_add, Int.natCast_mul, Int.add_sub_cancel, List.length_nil, Int.cast_ofNat_Int, and_true, true_and]) (by simp (disch := first | omega | simp (disch := omega) only [aF, aL, aN]) only [aW, aX, aV, aB, aN, aL, aP, aH, aF, Int.natCast_add, Int.natCast_mul, Int.add_sub_cancel, List.length_nil, Int.cast_ofNat_Int, and_true, true_and, Int.add_assoc])
      · simp (disch := ((try simp only [List.length_set, List.length_replicate, List.length_append, List.length_cons, List.length_nil]); omega)) only [aW, aX, aV, aB, aN, aL, aP, aH]
        have hA : ∀ y ∈ A' ++ [u], kq q x ≤ kq q y := fun y hy => by
          rcases List.mem_append.1 hy with h6 | h6
          · have := lt_ge ((List.pairwise_append.1 hpw.1).2.2 y h6 u (by simp)); omega
          · have : y = u := by simpa using h6
            subst this; omega
        refine ⟨(k + 1, (A' ++ [u]) ++ x :: B), ⟨by simp only; omega, by simp only; omega, hnew, done hA⟩, by simp only; omega, ?_⟩
        have e6 : Pr ++ (((A' ++ [u]) ++ x :: B) ++ (L.drop (k + 1) ++ S)) = C := by rw [hC]; simp
        simp only [e6]
        try simp (disch := ((try simp only [List.length_set, List.length_replicate, List.length_append, List.length_cons, List.length_nil]); omega)) only [aW, aX, aV, aB, aN, aL, aP, aH]
        exact Cut.of' 4 rfl (by omega) (by simp (disch := first | omega | simp (disch := omega) only [aF, aL, aN]) only [aW, aX, aV, aB, aN, aL, aP, aH, aF, Int.natCast_add, Int.natCast_mul, Int.add_sub_cancel, List.length_nil, Int.cast_ofNat_Int, and_true, true_and]) (by simp (disch := first | omega | simp (disch := omega) only [aF, aL, aN]) only [aW, aX, aV, aB, aN, aL, aP, aH, aF, Int.natCast_add, Int.natCast_mul, Int.add_sub_cancel, List.length_nil, Int.cast_ofNat_Int, and_true, true_and, Int.add_assoc])
  · have e1 : L.take k = L := List.take_of_length_le (by omega)
    have e2 : L.drop k = [] := List.drop_of_length_le (by omega)
    rw [e1] at h3
    rw [e2, List.nil_append]
    simp (disch := ((try simp only [List.length_set, List.length_replicate, List.length_append, List.length_cons, List.length_nil]); omega)) only [aW, aX, aV, aB, aN, aL, aP, aH, r_slices_insertionSortCmpFunc]
    exact post2 ⟨rfl, T, h3, h4, rfl⟩
end Go.Proofs.Ytnpbnlafaoldcaa
