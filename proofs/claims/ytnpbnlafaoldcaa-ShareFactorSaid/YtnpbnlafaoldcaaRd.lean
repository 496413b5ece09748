/- Merging two sorted parts, as the library's stable sort does. No statement is claimed here. -/
import Derived.Test.YtnpbnlafaoldcaaRc
namespace Go.Proofs.Ytnpbnlafaoldcaa
open Go Go.Lft
set_option linter.unusedSimpArgs false
set_option linter.unusedVariables false
attribute [local congr] ob_congr bw_congr ib_congr ck_congr iwA_congr itA_congr aw_congr awp_congr sqA_congr bkA_congr vr_congr gd_congr

theorem s_half (a : Int) : s2A (.bin .shr) (.v (.int .u64 a)) (.v (.int .u64 1)) = some (.v (.int .u64 (a / 2))) := by
  have h : k2v (.bin .shr) (.int .u64 a) (.int .u64 1) = some (.int .u64 (a.fdiv 2)) := by
    simp [k2v, binOp, Op.shift, pureV]; rfl
  simp only [s2A, h, Option.map_some, Int.fdiv_eq_ediv_of_nonneg a (show (0 : Int) ≤ 2 by decide)]
theorem wrap_u64 {n : Int} (h1 : 0 ≤ n) (h2 : n ≤ 18446744073709551615) : IntKind.wrap .u64 n = n := by
  simp only [IntKind.wrap, IntKind.signed, IntKind.bits, Bool.false_and, Bool.false_eq_true, if_false]
  have : (2 : Int) ^ 64 = 18446744073709551616 := by decide
  rw [this]; omega

theorem take_ge {q L : List Int} (h : L.Pairwise (ltO q)) {k : Nat} (h0 : 0 < k) (hk : k ≤ L.length) : ∀ x ∈ L.take k, kq q (L.getD (k - 1) 0) ≤ kq q x := fun x hx => by
  obtain ⟨i, h1, rfl⟩ := getD_mem hx
  rw [List.length_take] at h1
  have e : (L.take k).getD i 0 = L.getD i 0 := by simp [List.getD_eq_getElem?_getD, List.getElem?_take, show i < k by omega]
  rw [e]
  by_cases hi : i = k - 1
  · rw [hi]; exact Int.le_refl _
  · have := List.pairwise_iff_getElem.1 h i (k - 1) (by omega) (by omega) (by omega)
    have := lt_ge this
    simpa [List.getD_eq_getElem?_getD, show i < L.length by omega, show k - 1 < L.length by omega] using this
theorem drop_le {q L : List Int} (h : L.Pairwise (ltO q)) {k : Nat} (hk : k < L.length) : ∀ x ∈ L.drop k, kq q x ≤ kq q (L.getD k 0) := fun x hx => by
  obtain ⟨i, h1, rfl⟩ := getD_mem hx
  rw [List.length_drop] at h1
  have e : (L.drop k).getD i 0 = L.getD (k + i) 0 := by simp [List.getD_eq_getElem?_getD]
  rw [e]
  by_cases hi : i = 0
  · subst hi; exact Int.le_refl _
  · have := List.pairwise_iff_getElem.1 h k (k + i) (by omega) (by omega) (by omega)
    have := lt_ge this
    simpa [List.getD_eq_getElem?_getD, hk, show k + i < L.length by omega] using this
theorem pw_take {q L : List Int} (h : L.Pairwise (ltO q)) (k : Nat) : (L.take k).Pairwise (ltO q) ∧ (L.drop k).Pairwise (ltO q) ∧ ∀ x ∈ L.take k, ∀ y ∈ L.drop k, ltO q x y := by
  have h' := h
  rw [← List.take_append_drop k L] at h'
  exact List.pairwise_append.1 h'

/-- What a merge leaves. -/
def Merged (p q Pr L R S : List Int) : A → List Blk → Prop := fun r H' => r = .tup [] ∧ ∃ T : List Int, T.Perm (L ++ R) ∧ T.Pairwise (ltO q) ∧ H' = HS p q (Pr ++ (T ++ S))

/-- One number on the left. -/
theorem merge_left {p q : List Int} (hq : QOk q) (hl : q.length < 1000000) (Pr R S : List Int) (x : Int) (hR : 0 < R.length) (hn : q.length = (Pr ++ ([x] ++ (R ++ S))).length) (hx : 0 ≤ x ∧ x < q.length) (hr : InR q.length R) (hs : R.Pairwise (ltO q)) (hc : ∀ y ∈ R, x < y) :
    VR P false n_slices_symMergeCmpFunc [dataA q.length, .v (.int .i64 Pr.length), .v (.int .i64 (Pr.length + 1 : Nat)), .v (.int .i64 (Pr.length + 1 + R.length : Nat)), cmpA] (HS p q (Pr ++ ([x] ++ (R ++ S)))) (Merged p q Pr [x] R S) := by
  refine vr_slices_symMergeCmpFunc (by simp) (.inl rfl) fun _ _ => ?_
  obtain ⟨C, hC⟩ : ∃ C, C = Pr ++ ([x] ++ (R ++ S)) := ⟨_, rfl⟩
  have hCl : C.length = q.length := by rw [hC, hn]
  simp only [List.length_append, List.length_cons, List.length_nil] at hn
  have hCx : C.getD Pr.length 0 = x := by rw [hC]; exact get_at Pr [] (R ++ S) x
  have hCR : ∀ i, i < R.length → C.getD (Pr.length + 1 + i) 0 = R.getD i 0 := fun i hi => by rw [hC]; exact get_R Pr [x] R S i hi
  rw [← hC]
  unfold HS
  have e1 : ((Pr.length + 1 : Nat) : Int) - Pr.length = 1 := by omega
  simp (disch := ((try simp only [List.length_set, List.length_replicate, List.length_append, List.length_cons, List.length_nil]); omega)) only [aW, aX, aV, aB, aN, aL, aP, aH, s_slices_symMergeCmpFunc, v_slices_symMergeCmpFunc, e1]
  refine AWP.loopP (α := Nat × Nat) g_slices_symMergeCmpFunc_0 (fun s => s.1 ≤ s.2 ∧ s.2 ≤ R.length ∧ (s.1 = 0 ∨ kq q x < kq q (R.getD (s.1 - 1) 0)) ∧ (s.2 = R.length ∨ ¬ kq q x < kq q (R.getD s.2 0))) (fun s => [(5, .v (.int .i64 ((Pr.length + 1 + s.1 : Nat) : Int))), (6, .v (.int .i64 ((Pr.length + 1 + s.2 : Nat) : Int)))]) (fun _ => []) (fun s => s.2 - s.1) (0, R.length) ⟨by omega, Nat.le_refl _, .inl rfl, .inl rfl⟩ ?_ ?_
  · exact Cut.of' 4 rfl (by omega) (by simp (disch := first | omega | simp (disch := omega) only [aF, aL, aN]) only [aW, aX, aV, aB, aN, aL, aP, aH, aF, Int.natCast_add, Int.natCast_mul, Int.add_sub_cancel, List.length_nil, Int.cast_ofNat_Int, and_true, true_and]) (by simp (disch := first | omega | simp (disch := omega) only [aF, aL, aN]) only [aW, aX, aV, aB, aN, aL, aP, aH, aF, Int.natCast_add, Int.natCast_mul, Int.add_sub_cancel, List.length_nil, Int.cast_ofNat_Int, and_true, true_and])
  rintro ⟨c, d⟩ ⟨h1, h2, h3, h4⟩
  simp only at h1 h2 h3 h4
  by_cases hlt : c < d
  · have eh : (((Pr.length + 1 + c : Nat) : Int) + ((Pr.length + 1 + d : Nat) : Int)) / 2 = ((Pr.length + 1 + (c + d) / 2 : Nat) : Int) := by omega
    have hm : (c + d) / 2 < R.length := by omega
    have hg := hCR _ hm
    have hy := hr _ (mem_getD hm)
    have hb1 := hq x.toNat (by omega)
    have hb2 := hq (R.getD ((c + d) / 2) 0).toNat (by omega)
    have hb3 : kq q x = q.getD x.toNat 0 := rfl
    have hb4 : kq q (R.getD ((c + d) / 2) 0) = q.getD (R.getD ((c + d) / 2) 0).toNat 0 := rfl
    simp (disch := ((try simp only [List.length_set, List.length_replicate, List.length_append, List.length_cons, List.length_nil]); omega)) only [aW, aX, aV, aB, aN, aL, aP, aH, s_half, wrap_u64, eh, Int.toNat_natCast, hg, hCx]
    refine ⟨by kernel_rfl, ?_⟩
    refine cmpH p q C hq _ x hy hx (aret_of ?_)
    unfold HS
    simp (disch := ((try simp only [List.length_set, List.length_replicate, List.length_append, List.length_cons, List.length_nil]); omega)) only [aW, aX, aV, aB, aN, aL, aP, aH]
    refine ib_intro (fun h5 => ?_) (fun h5 => ?_)
    · simp (disch := ((try simp only [List.length_set, List.length_replicate, List.length_append, List.length_cons, List.length_nil]); omega)) only [aW, aX, aV, aB, aN, aL, aP, aH]
      refine ⟨((c + d) / 2 + 1, d), ⟨by simp only; omega, h2, .inr ?_, h4⟩, by simp only; omega, ?_⟩
      · simp only [Nat.add_sub_cancel]; omega
      · exact Cut.of' 4 rfl (by omega) (by simp (disch := first | omega | simp (disch := omega) only [aF, aL, aN]) only [aW, aX, aV, aB, aN, aL, aP, aH, aF, Int.natCast_add, Int.natCast_mul, Int.add_sub_cancel, List.length_nil, Int.cast_ofNat_Int, and_true, true_and]) (by simp (disch := first | omega | simp (disch := omega) only [aF, aL, aN]) only [aW, aX, aV, aB, aN, aL, aP, aH, aF, Int.natCast_add, Int.natCast_mul, Int.add_sub_cancel, List.length_nil, Int.cast_ofNat_Int, and_true, true_and, Int.add_assoc])
    · simp (disch := ((try simp only [List.length_set, List.length_replicate, List.length_append, List.length_cons, List.length_nil]); omega)) only [aW, aX, aV, aB, aN, aL, aP, aH]
      refine ⟨(c, (c + d) / 2), ⟨by simp only; omega, by simp only; omega, h3, .inr ?_⟩, by simp only; omega, ?_⟩
      · simp only; omega
      · exact Cut.of' 4 rfl (by omega) (by simp (disch := first | omega | simp (disch := omega) only [aF, aL, aN]) only [aW, aX, aV, aB, aN, aL, aP, aH, aF, Int.natCast_add, Int.natCast_mul, Int.add_sub_cancel, List.length_nil, Int.cast_ofNat_Int, and_true, true_and]) (by simp (disch := first | omega | simp (disch := omega) only [aF, aL, aN]) only [aW, aX, aV, aB, aN, aL, aP, aH, aF, Int.natCast_add, Int.natCast_mul, Int.add_sub_cancel, List.length_nil, Int.cast_ofNat_Int, and_true, true_and])
  · have hcd : c = d := by omega
    subst hcd
    have hT : (R.take c ++ x :: R.drop c).Pairwise (ltO q) := by
      obtain ⟨a1, a2, a3⟩ := pw_take hs c
      refine List.pairwise_append.2 ⟨a1, List.pairwise_cons.2 ⟨fun y hy => ?_, a2⟩, fun y hy z hz => ?_⟩
      · have h6 : c < R.length := by
          apply Nat.lt_of_not_le; intro hcc
          rw [List.drop_of_length_le hcc] at hy; cases hy
        have := drop_le hs h6 y hy
        have := hc y (List.mem_of_mem_drop hy)
        have := h4.resolve_left (by omega)
        unfold ltO; omega
      · rcases List.mem_cons.1 hz with rfl | hz
        · have h6 : 0 < c := by
            apply Nat.pos_of_ne_zero; rintro rfl
            simp at hy
          have := take_ge hs h6 h2 y hy
          have := h3.resolve_left (by omega)
          unfold ltO; omega
        · exact a3 y hy z hz
    have hP : (R.take c ++ x :: R.drop c).Perm ([x] ++ R) := by
      refine List.perm_middle.trans ?_
      rw [List.take_append_drop]; exact List.Perm.refl _
    clear hlt h1 h3 h4 hCx hCR
    simp (disch := ((try simp only [List.length_set, List.length_replicate, List.length_append, List.length_cons, List.length_nil]); omega)) only [aW, aX, aV, aB, aN, aL, aP, aH]
    refine AWP.loopP (α := List Int × List Int) g_slices_symMergeCmpFunc_1 (fun s => s.1 ++ s.2 = R ∧ s.1.length ≤ c) (fun s => [(8, .v (.int .i64 ((Pr.length + s.1.length : Nat) : Int)))]) (fun s => [(2, ⟨0, ints (Pr ++ (s.1 ++ (x :: (s.2 ++ S))))⟩)]) (fun s => c - s.1.length) ([], R) ⟨rfl, Nat.zero_le _⟩ ?_ ?_
    · rw [hC]
      simp only [List.nil_append, List.length_nil, Nat.add_zero, List.cons_append]
      try simp (disch := ((try simp only [List.length_set, List.length_replicate, List.length_append, List.length_cons, List.length_nil]); omega)) only [aW, aX, aV, aB, aN, aL, aP, aH]
      exact Cut.of' 4 rfl (by omega) (by simp (disch := first | omega | simp (disch := omega) only [aF, aL, aN]) only [aW, aX, aV, aB, aN, aL, aP, aH, aF, Int.natCast_add, Int.natCast_mul, Int.add_sub_cancel, List.length_nil, Int.cast_ofNat_Int, and_true, true_and]) (by simp (disch := first | omega | simp (disch := omega) only [aF, aL, aN]) only [aW, aX, aV, aB, aN, aL, aP, aH, aF, Int.natCast_add, Int.natCast_mul, Int.add_sub_cancel, List.length_nil, Int.cast_ofNat_Int, and_true, true_and])
    rintro ⟨A, B⟩ ⟨e2, e3⟩
    simp only at e2 e3
    have hAB : A.length + B.length = R.length := by rw [← e2, List.length_append]
    have e4 : ((Pr.length + 1 + c : Nat) : Int) - 1 = (Pr.length + c : Nat) := by omega
    by_cases hAc : A.length < c
    · cases B with
      | nil => simp at hAB; omega
      | cons u B =>
        simp only [List.length_cons] at hAB
        have g1 := get_at Pr A (u :: (B ++ S)) x
        have g2 := get_at1 Pr A (B ++ S) x u
        have g3 := swap_adj Pr A (B ++ S) x u
        have t1 : ((Pr.length + A.length : Nat) : Int) + 1 = (Pr.length + A.length + 1 : Nat) := by omega
        have hCl2 : (Pr ++ (A ++ (x :: u :: (B ++ S)))).length = q.length := by simp only [List.length_append, List.length_cons]; omega
        simp only [List.cons_append]
        obtain ⟨D, hD⟩ : ∃ D, D = Pr ++ (A ++ (x :: u :: (B ++ S))) := ⟨_, rfl⟩
        rw [← hD] at g1 g2 g3 hCl2 ⊢
        simp (disch := ((try simp only [List.length_set, List.length_replicate, List.length_append, List.length_cons, List.length_nil]); omega)) only [aW, aX, aV, aB, aN, aL, aP, aH, e4, t1, Int.toNat_natCast, g1, g2, g3]
        refine ⟨(A ++ [u], B), ⟨by rw [← e2]; simp, by simp; omega⟩, by simp; omega, ?_⟩
        have e5 : Pr ++ ((A ++ [u]) ++ (x :: (B ++ S))) = Pr ++ (A ++ (u :: x :: (B ++ S))) := by simp
        simp only [e5, List.length_append, List.length_cons, List.length_nil]
        try simp (disch := ((try simp only [List.length_set, List.length_replicate, List.length_append, List.length_cons, List.length_nil]); omega)) only [aW, aX, aV, aB, aN, aL, aP, aH]
        exact Cut.of' 4 rfl (by omega) (by simp (disch := first | omega | simp (disch := omega) only [aF, aL, aN]) only [aW, aX, aV, aB, aN, aL, aP, aH, aF, Int.natCast_add, Int.natCast_mul, Int.add_sub_cancel, List.length_nil, Int.cast_ofNat_Int, and_true, true_and]) (by simp (disch := first | omega | simp (disch := omega) only [aF, aL, aN]) only [aW, aX, aV, aB, aN, aL, aP, aH, aF, Int.natCast_add, Int.natCast_mul, Int.add_sub_cancel, List.length_nil, Int.cast_ofNat_Int, and_true, true_and, Int.add_assoc])
    · have hA : A = R.take c := by
        rw [← e2, List.take_append_of_le_length (by omega), List.take_of_length_le (by omega)]
      have hB : B = R.drop c := by
        rw [← e2, List.drop_append_of_le_length (by omega), List.drop_of_length_le (by omega), List.nil_append]
      simp (disch := ((try simp only [List.length_set, List.length_replicate, List.length_append, List.length_cons, List.length_nil]); omega)) only [aW, aX, aV, aB, aN, aL, aP, aH, e4, r_slices_symMergeCmpFunc]
      refine post2 ⟨rfl, R.take c ++ x :: R.drop c, hP, hT, ?_⟩
      rw [hA, hB]; simp [HS]

/-- One number on the right. -/
theorem merge_right {p q : List Int} (hq : QOk q) (hl : q.length < 1000000) (Pr L S : List Int) (y : Int) (hL : 1 < L.length) (hn : q.length = (Pr ++ (L ++ ([y] ++ S))).length) (hy : 0 ≤ y ∧ y < q.length) (hr : InR q.length L) (hs : L.Pairwise (ltO q)) (hc : ∀ x ∈ L, x < y) :
    VR P false n_slices_symMergeCmpFunc [dataA q.length, .v (.int .i64 Pr.length), .v (.int .i64 (Pr.length + L.length : Nat)), .v (.int .i64 (Pr.length + L.length + 1 : Nat)), cmpA] (HS p q (Pr ++ (L ++ ([y] ++ S)))) (Merged p q Pr L [y] S) := by
  refine vr_slices_symMergeCmpFunc (by simp) (.inl rfl) fun _ _ => ?_
  obtain ⟨C, hC⟩ : ∃ C, C = Pr ++ (L ++ ([y] ++ S)) := ⟨_, rfl⟩
  have hCl : C.length = q.length := by rw [hC, hn]
  simp only [List.length_append, List.length_cons, List.length_nil] at hn
  have hCy : C.getD (Pr.length + L.length) 0 = y := by rw [hC]; exact get_at Pr L S y
  have hCL : ∀ i, i < L.length → C.getD (Pr.length + i) 0 = L.getD i 0 := fun i hi => by rw [hC]; exact get_L Pr L ([y] ++ S) i hi
  rw [← hC]
  unfold HS
  have e0 : ((Pr.length + L.length : Nat) : Int) - Pr.length = L.length := by omega
  have e1 : ((Pr.length + L.length + 1 : Nat) : Int) - ((Pr.length + L.length : Nat) : Int) = 1 := by omega
  simp (disch := ((try simp only [List.length_set, List.length_replicate, List.length_append, List.length_cons, List.length_nil]); omega)) only [aW, aX, aV, aB, aN, aL, aP, aH, s_slices_symMergeCmpFunc, v_slices_symMergeCmpFunc, e0, e1]
  refine AWP.loopP (α := Nat × Nat) g_slices_symMergeCmpFunc_2 (fun s => s.1 ≤ s.2 ∧ s.2 ≤ L.length ∧ (s.1 = 0 ∨ ¬ kq q (L.getD (s.1 - 1) 0) < kq q y) ∧ (s.2 = L.length ∨ kq q (L.getD s.2 0) < kq q y)) (fun s => [(9, .v (.int .i64 ((Pr.length + s.1 : Nat) : Int))), (10, .v (.int .i64 ((Pr.length + s.2 : Nat) : Int)))]) (fun _ => []) (fun s => s.2 - s.1) (0, L.length) ⟨by omega, Nat.le_refl _, .inl rfl, .inl rfl⟩ ?_ ?_
  · exact Cut.of' 4 rfl (by omega) (by simp (disch := first | omega | simp (disch := omega) only [aF, aL, aN]) only [aW, aX, aV, aB, aN, aL, aP, aH, aF, Int.natCast_add, Int.natCast_mul, Int.add_sub_cancel, List.length_nil, Int.cast_ofNat_Int, and_true, true_and]) (by simp (disch := first | omega | simp (disch := omega) only [aF, aL, aN]) only [aW, aX, aV, aB, aN, aL, aP, aH, aF, Int.natCast_add, Int.natCast_mul, Int.add_sub_cancel, List.length_nil, Int.cast_ofNat_Int, and_true, true_and])
  rintro ⟨c, d⟩ ⟨h1, h2, h3, h4⟩
  simp only at h1 h2 h3 h4
  by_cases hlt : c < d
  · have eh : (((Pr.length + c : Nat) : Int) + ((Pr.length + d : Nat) : Int)) / 2 = ((Pr.length + (c + d) / 2 : Nat) : Int) := by omega
    have hm : (c + d) / 2 < L.length := by omega
    have hg := hCL _ hm
    have hx := hr _ (mem_getD hm)
    have hb1 := hq y.toNat (by omega)
    have hb2 := hq (L.getD ((c + d) / 2) 0).toNat (by omega)
    have hb3 : kq q y = q.getD y.toNat 0 := rfl
    have hb4 : kq q (L.getD ((c + d) / 2) 0) = q.getD (L.getD ((c + d) / 2) 0).toNat 0 := rfl
    simp (disch := ((try simp only [List.length_set, List.length_replicate, List.length_append, List.length_cons, List.length_nil]); omega)) only [aW, aX, aV, aB, aN, aL, aP, aH, s_half, wrap_u64, eh, Int.toNat_natCast, hg, hCy]
    refine ⟨by kernel_rfl, ?_⟩
    refine cmpH p q C hq y _ hy hx (aret_of ?_)
    unfold HS
    simp (disch := ((try simp only [List.length_set, List.length_replicate, List.length_append, List.length_cons, List.length_nil]); omega)) only [aW, aX, aV, aB, aN, aL, aP, aH]
    refine ib_intro (fun h5 => ?_) (fun h5 => ?_)
    · simp (disch := ((try simp only [List.length_set, List.length_replicate, List.length_append, List.length_cons, List.length_nil]); omega)) only [aW, aX, aV, aB, aN, aL, aP, aH]
      refine ⟨((c + d) / 2 + 1, d), ⟨by simp only; omega, h2, .inr ?_, h4⟩, by simp only; omega, ?_⟩
      · simp only [Nat.add_sub_cancel]; omega
      · exact Cut.of' 4 rfl (by omega) (by simp (disch := first | omega | simp (disch := omega) only [aF, aL, aN]) only [aW, aX, aV, aB, aN, aL, aP, aH, aF, Int.natCast_add, Int.natCast_mul, Int.add_sub_cancel, List.length_nil, Int.cast_ofNat_Int, and_true, true_and]) (by simp (disch := first | omega | simp (disch := omega) only [aF, aL, aN]) only [aW, aX, aV, aB, aN, aL, aP, aH, aF, Int.natCast_add, Int.natCast_mul, Int.add_sub_cancel, List.length_nil, Int.cast_ofNat_Int, and_true, true_and, Int.add_assoc])
    · simp (disch := ((try simp only [List.length_set, List.length_replicate, List.length_append, List.length_cons, List.length_nil]); omega)) only [aW, aX, aV, aB, aN, aL, aP, aH]
      refine ⟨(c, (c + d) / 2), ⟨by simp only; omega, by simp only; omega, h3, .inr ?_⟩, by simp only; omega, ?_⟩
      · simp only; omega
      · exact Cut.of' 4 rfl (by omega) (by simp (disch := first | omega | simp (disch := omega) only [aF, aL, aN]) only [aW, aX, aV, aB, aN, aL, aP, aH, aF, Int.natCast_add, Int.natCast_mul, Int.add_sub_cancel, List.length_nil, Int.cast_ofNat_Int, and_true, true_and]) (by simp (disch := first | omega | simp (disch := omega) only [aF, aL, aN]) only [aW, aX, aV, aB, aN, aL, aP, aH, aF, Int.natCast_add, Int.natCast_mul, Int.add_sub_cancel, List.length_nil, Int.cast_ofNat_Int, and_true, true_and])
  · have hcd : c = d := by omega
    subst hcd
    have hT : (L.take c ++ y :: L.drop c).Pairwise (ltO q) := by
      obtain ⟨a1, a2, a3⟩ := pw_take hs c
      refine List.pairwise_append.2 ⟨a1, List.pairwise_cons.2 ⟨fun z hz => ?_, a2⟩, fun z hz u hu => ?_⟩
      · have h6 : c < L.length := by
          apply Nat.lt_of_not_le; intro hcc
          rw [List.drop_of_length_le hcc] at hz; cases hz
        have := drop_le hs h6 z hz
        have := h4.resolve_left (by omega)
        unfold ltO; omega
      · rcases List.mem_cons.1 hu with rfl | hu
        · have h6 : 0 < c := by
            apply Nat.pos_of_ne_zero; rintro rfl
            simp at hz
          have := take_ge hs h6 h2 z hz
          have := hc z (List.mem_of_mem_take hz)
          have := h3.resolve_left (by omega)
          unfold ltO; omega
        · exact a3 z hz u hu
    have hP : (L.take c ++ y :: L.drop c).Perm (L ++ [y]) := by
      refine List.perm_middle.trans ?_
      rw [List.take_append_drop]; exact List.perm_append_comm (l₁ := [y])
    clear hlt h1 h3 h4 hCy hCL
    simp (disch := ((try simp only [List.length_set, List.length_replicate, List.length_append, List.length_cons, List.length_nil]); omega)) only [aW, aX, aV, aB, aN, aL, aP, aH]
    refine AWP.loopP (α := List Int × List Int) g_slices_symMergeCmpFunc_3 (fun s => s.1 ++ s.2 = L ∧ c ≤ s.1.length) (fun s => [(12, .v (.int .i64 ((Pr.length + s.1.length : Nat) : Int)))]) (fun s => [(2, ⟨0, ints (Pr ++ (s.1 ++ (y :: (s.2 ++ S))))⟩)]) (fun s => s.1.length) (L, []) ⟨by simp, h2⟩ ?_ ?_
    · rw [hC]
      simp only [List.nil_append, List.cons_append]
      try simp (disch := ((try simp only [List.length_set, List.length_replicate, List.length_append, List.length_cons, List.length_nil]); omega)) only [aW, aX, aV, aB, aN, aL, aP, aH]
      exact Cut.of' 4 rfl (by omega) (by simp (disch := first | omega | simp (disch := omega) only [aF, aL, aN]) only [aW, aX, aV, aB, aN, aL, aP, aH, aF, Int.natCast_add, Int.natCast_mul, Int.add_sub_cancel, List.length_nil, Int.cast_ofNat_Int, and_true, true_and]) (by simp (disch := first | omega | simp (disch := omega) only [aF, aL, aN]) only [aW, aX, aV, aB, aN, aL, aP, aH, aF, Int.natCast_add, Int.natCast_mul, Int.add_sub_cancel, List.length_nil, Int.cast_ofNat_Int, and_true, true_and])
    rintro ⟨A, B⟩ ⟨e2, e3⟩
    simp only at e2 e3
    have hAB : A.length + B.length = L.length := by rw [← e2, List.length_append]
    by_cases hAc : c < A.length
    · rcases List.eq_nil_or_concat A with rfl | ⟨A', u, rfl⟩
      · simp at hAc
      · rw [List.concat_eq_append] at *
        have hlA : (A' ++ [u]).length = A'.length + 1 := by simp
        rw [hlA] at hAB hAc e3 ⊢
        have e5 : Pr ++ ((A' ++ [u]) ++ (y :: (B ++ S))) = Pr ++ (A' ++ (u :: y :: (B ++ S))) := by simp
        have g1 := get_at Pr A' (y :: (B ++ S)) u
        have g2 := get_at1 Pr A' (B ++ S) u y
        have g3 := swap_adj' Pr A' (B ++ S) u y
        have t1 : ((Pr.length + (A'.length + 1) : Nat) : Int).toNat = Pr.length + A'.length + 1 := by omega
        have t2 : ((Pr.length + (A'.length + 1) : Nat) : Int) - 1 = (Pr.length + A'.length : Nat) := by omega
        have hCl2 : (Pr ++ (A' ++ (u :: y :: (B ++ S)))).length = q.length := by simp only [List.length_append, List.length_cons]; omega
        rw [e5]
        obtain ⟨D, hD⟩ : ∃ D, D = Pr ++ (A' ++ (u :: y :: (B ++ S))) := ⟨_, rfl⟩
        rw [← hD] at g1 g2 g3 hCl2 ⊢
        simp (disch := ((try simp only [List.length_set, List.length_replicate, List.length_append, List.length_cons, List.length_nil]); omega)) only [aW, aX, aV, aB, aN, aL, aP, aH, t1, t2, Int.toNat_natCast, g1, g2, g3]
        refine ⟨(A', u :: B), ⟨by rw [← e2]; simp, by simp only; omega⟩, by simp, ?_⟩
        simp only [List.cons_append]
        try simp (disch := ((try simp only [List.length_set, List.length_replicate, List.length_append, List.length_cons, List.length_nil]); omega)) only [aW, aX, aV, aB, aN, aL, aP, aH]
        exact Cut.of' 4 rfl (by omega) (by simp (disch := first | omega | simp (disch := omega) only [aF, aL, aN]) only [aW, aX, aV, aB, aN, aL, aP, aH, aF, Int.natCast_add, Int.natCast_mul, Int.add_sub_cancel, List.length_nil, Int.cast_ofNat_Int, and_true, true_and]) (by simp (disch := first | omega | simp (disch := omega) only [aF, aL, aN]) only [aW, aX, aV, aB, aN, aL, aP, aH, aF, Int.natCast_add, Int.natCast_mul, Int.add_sub_cancel, List.length_nil, Int.cast_ofNat_Int, and_true, true_and, Int.add_assoc])
    · have hA : A = L.take c := by
        rw [← e2, List.take_append_of_le_length (by omega), List.take_of_length_le (by omega)]
      have hB : B = L.drop c := by
        rw [← e2, List.drop_append_of_le_length (by omega), List.drop_of_length_le (by omega), List.nil_append]
      simp (disch := ((try simp only [List.length_set, List.length_replicate, List.length_append, List.length_cons, List.length_nil]); omega)) only [aW, aX, aV, aB, aN, aL, aP, aH, r_slices_symMergeCmpFunc]
      refine post2 ⟨rfl, L.take c ++ y :: L.drop c, hP, hT, ?_⟩
      rw [hA, hB]; simp [HS]
end Go.Proofs.Ytnpbnlafaoldcaa
