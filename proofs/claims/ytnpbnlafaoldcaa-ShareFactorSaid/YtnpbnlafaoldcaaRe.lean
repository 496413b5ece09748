/- Merging two sorted parts (continued), and the whole sort. No statement is claimed here. -/
import Derived.Test.YtnpbnlafaoldcaaRd
namespace Go.Proofs.Ytnpbnlafaoldcaa
open Go Go.Lft
set_option linter.unusedSimpArgs false
set_option linter.unusedVariables false
attribute [local congr] ob_congr bw_congr ib_congr ck_congr iwA_congr itA_congr aw_congr awp_congr sqA_congr bkA_congr vr_congr gd_congr

theorem getD_last {L : List Int} {k : Nat} (h0 : 0 < k) (hk : k ≤ L.length) : L.getD (k - 1) 0 ∈ L.take k := by
  have : (L.take k).getD (k - 1) 0 = L.getD (k - 1) 0 := by simp [List.getD_eq_getElem?_getD, List.getElem?_take, show k - 1 < k by omega]
  rw [← this]; exact mem_getD (by rw [List.length_take]; omega)
theorem getD_first {L : List Int} {k : Nat} (hk : k < L.length) : L.getD k 0 ∈ L.drop k := by
  have : (L.drop k).getD 0 0 = L.getD k 0 := by simp [List.getD_eq_getElem?_getD]
  rw [← this]; exact mem_getD (by rw [List.length_drop]; omega)
theorem tk_cross {q L R : List Int} (hL : L.Pairwise (ltO q)) (hR : R.Pairwise (ltO q)) (hc : ∀ x ∈ L, ∀ y ∈ R, x < y) {c d : Nat} (hcl : c ≤ L.length) (hdl : d ≤ R.length) (h : c = 0 ∨ d = R.length ∨ ¬ kq q (L.getD (c - 1) 0) < kq q (R.getD d 0)) :
    ∀ x ∈ L.take c, ∀ y ∈ R.drop d, ltO q x y := fun x hx y hy => by
  have h1 : 0 < c := by apply Nat.pos_of_ne_zero; rintro rfl; simp at hx
  have h2 : d < R.length := by
    apply Nat.lt_of_not_le; intro hcc
    rw [List.drop_of_length_le hcc] at hy; cases hy
  have h3 := (h.resolve_left (by omega)).resolve_left (by omega)
  have h4 := take_ge hL h1 hcl x hx
  have h5 := drop_le hR h2 y hy
  have h6 := hc x (List.mem_of_mem_take hx) y (List.mem_of_mem_drop hy)
  unfold ltO; omega
theorem dt_cross {q L R : List Int} (hL : L.Pairwise (ltO q)) (hR : R.Pairwise (ltO q)) {c d : Nat} (hcl : c ≤ L.length) (hdl : d ≤ R.length) (h : c = L.length ∨ d = 0 ∨ kq q (L.getD c 0) < kq q (R.getD (d - 1) 0)) :
    ∀ x ∈ R.take d, ∀ y ∈ L.drop c, ltO q x y := fun x hx y hy => by
  have h1 : 0 < d := by apply Nat.pos_of_ne_zero; rintro rfl; simp at hx
  have h2 : c < L.length := by
    apply Nat.lt_of_not_le; intro hcc
    rw [List.drop_of_length_le hcc] at hy; cases hy
  have h3 := (h.resolve_left (by omega)).resolve_left (by omega)
  have h4 := take_ge hR h1 hdl x hx
  have h5 := drop_le hL h2 y hy
  unfold ltO; omega

theorem symMerge_vr {p q : List Int} (hq : QOk q) (hl : q.length < 1000000) : ∀ (N : Nat) (Pr L R S : List Int), L.length + R.length ≤ N → 0 < L.length → 0 < R.length → q.length = (Pr ++ (L ++ (R ++ S))).length → InR q.length L → InR q.length R → L.Pairwise (ltO q) → R.Pairwise (ltO q) → (∀ x ∈ L, ∀ y ∈ R, x < y) →
    VR P false n_slices_symMergeCmpFunc [dataA q.length, .v (.int .i64 Pr.length), .v (.int .i64 (Pr.length + L.length : Nat)), .v (.int .i64 (Pr.length + L.length + R.length : Nat)), cmpA] (HS p q (Pr ++ (L ++ (R ++ S)))) (Merged p q Pr L R S) := by
  intro N
  induction N with
  | zero => intro Pr L R S h1 h2; omega
  | succ N ih =>
    intro Pr L R S hN hL0 hR0 hn hLr hRr hLs hRs hc
    by_cases hL1 : L.length = 1
    · match L, hL1 with
      | [x], _ => exact merge_left hq hl Pr R S x hR0 hn (hLr x (by simp)) hRr hRs fun y hy => hc x (by simp) y hy
    by_cases hR1 : R.length = 1
    · match R, hR1 with
      | [y], _ => exact merge_right hq hl Pr L S y (by omega) hn (hRr y (by simp)) hLr hLs fun x hx => hc x hx y (by simp)
    refine vr_slices_symMergeCmpFunc (by simp) (.inl rfl) fun _ _ => ?_
    obtain ⟨C, hC⟩ : ∃ C, C = Pr ++ (L ++ (R ++ S)) := ⟨_, rfl⟩
    have hCl : C.length = q.length := by rw [hC, hn]
    simp only [List.length_append] at hn
    have hCL : ∀ i, i < L.length → C.getD (Pr.length + i) 0 = L.getD i 0 := fun i hi => by rw [hC]; exact get_L Pr L (R ++ S) i hi
    have hCR : ∀ i, i < R.length → C.getD (Pr.length + L.length + i) 0 = R.getD i 0 := fun i hi => by rw [hC]; exact get_R Pr L R S i hi
    rw [← hC]
    unfold HS
    have e0 : ((Pr.length + L.length : Nat) : Int) - Pr.length = L.length := by omega
    have e1 : ((Pr.length + L.length + R.length : Nat) : Int) - ((Pr.length + L.length : Nat) : Int) = R.length := by omega
    obtain ⟨mid, hmid⟩ : ∃ mid, mid = (Pr.length + (Pr.length + L.length + R.length)) / 2 := ⟨_, rfl⟩
    have e2 : ((Pr.length : Int) + ((Pr.length + L.length + R.length : Nat) : Int)) / 2 = (mid : Nat) := by omega
    -- where the search begins and ends
    obtain ⟨s0, hs0⟩ : ∃ s0, s0 = if mid < Pr.length + L.length then mid + L.length + Pr.length - (Pr.length + L.length + R.length) else Pr.length := ⟨_, rfl⟩
    obtain ⟨r0, hr0⟩ : ∃ r0, r0 = if mid < Pr.length + L.length then mid else Pr.length + L.length := ⟨_, rfl⟩
    have hsr : s0 ≤ r0 ∧ Pr.length ≤ s0 ∧ r0 ≤ mid ∧ r0 ≤ Pr.length + L.length ∧ mid ≤ s0 + R.length := by
      by_cases hmm : mid < Pr.length + L.length
      · rw [if_pos hmm] at hs0 hr0; omega
      · rw [if_neg hmm] at hs0 hr0; omega
    have hb0 : s0 = Pr.length ∨ s0 + R.length = mid := by
      by_cases hmm : mid < Pr.length + L.length
      · rw [if_pos hmm] at hs0; omega
      · rw [if_neg hmm] at hs0; omega
    have hb1 : r0 = mid ∨ r0 = Pr.length + L.length := by
      by_cases hmm : mid < Pr.length + L.length
      · rw [if_pos hmm] at hr0; omega
      · rw [if_neg hmm] at hr0; omega
    simp (disch := ((try simp only [List.length_set, List.length_replicate, List.length_append, List.length_cons, List.length_nil]); omega)) only [aW, aX, aV, aB, aN, aL, aP, aH, s_slices_symMergeCmpFunc, v_slices_symMergeCmpFunc, e0, e1, s_half, wrap_u64, e2]
    refine aif_merge2 (fun e' => e' = [dataA q.length, .v (.int .i64 Pr.length), .v (.int .i64 (Pr.length + L.length : Nat)), .v (.int .i64 (Pr.length + L.length + R.length : Nat)), cmpA, .any, .any, .any, .any, .any, .any, .any, .any, .v (.int .i64 mid), .v (.int .i64 (mid + (Pr.length + L.length : Nat))), .v (.int .i64 s0), .v (.int .i64 r0), .any, .any, .any, .any, .any, .any, .any, .any]) ?_ ?_ ?_
    · intro ht
      have hmm : mid < Pr.length + L.length := by have := of_decide_eq_true ht; omega
      rw [if_pos hmm] at hs0 hr0
      have e3 : (mid : Int) + ((Pr.length + L.length : Nat) : Int) - ((Pr.length + L.length + R.length : Nat) : Int) = (s0 : Nat) := by omega
      simp (disch := ((try simp only [List.length_set, List.length_replicate, List.length_append, List.length_cons, List.length_nil]); omega)) only [aW, aX, aV, aB, aN, aL, aP, aH, e3]
      refine ⟨trivial, trivial, ?_⟩
      rw [hr0]
    · intro ht
      have hmm : ¬ mid < Pr.length + L.length := by have := of_decide_eq_false ht; omega
      rw [if_neg hmm] at hs0 hr0
      simp (disch := ((try simp only [List.length_set, List.length_replicate, List.length_append, List.length_cons, List.length_nil]); omega)) only [aW, aX, aV, aB, aN, aL, aP, aH]
      refine ⟨trivial, trivial, ?_⟩
      rw [hr0, hs0]
    rintro e' rfl
    clear hs0 hr0
    simp (disch := ((try simp only [List.length_set, List.length_replicate, List.length_append, List.length_cons, List.length_nil]); omega)) only [aW, aX, aV, aB, aN, aL, aP, aH]
    refine AWP.loopP (α := Nat × Nat) g_slices_symMergeCmpFunc_4 (fun s => s.1 ≤ s.2 ∧ s0 ≤ s.1 ∧ s.2 ≤ r0 ∧ (s.1 = s0 ∨ ¬ kq q (L.getD (s.1 - 1 - Pr.length) 0) < kq q (R.getD (mid - s.1) 0)) ∧ (s.2 = r0 ∨ kq q (L.getD (s.2 - Pr.length) 0) < kq q (R.getD (mid - 1 - s.2) 0)))
      (fun s => [(15, .v (.int .i64 s.1)), (16, .v (.int .i64 s.2))]) (fun _ => []) (fun s => s.2 - s.1) (s0, r0) ⟨by omega, Nat.le_refl _, Nat.le_refl _, .inl rfl, .inl rfl⟩ ?_ ?_
    · exact Cut.of' 4 rfl (by omega) (by simp (disch := first | omega | simp (disch := omega) only [aF, aL, aN]) only [aW, aX, aV, aB, aN, aL, aP, aH, aF, Int.natCast_add, Int.natCast_mul, Int.add_sub_cancel, List.length_nil, Int.cast_ofNat_Int, and_true, true_and]) (by simp (disch := first | omega | simp (disch := omega) only [aF, aL, aN]) only [aW, aX, aV, aB, aN, aL, aP, aH, aF, Int.natCast_add, Int.natCast_mul, Int.add_sub_cancel, List.length_nil, Int.cast_ofNat_Int, and_true, true_and])
    rintro ⟨st, r⟩ ⟨h1, h2, h3, h4, h5⟩
    simp only at h1 h2 h3 h4 h5
    by_cases hlt : st < r
    · have eh : ((st : Int) + r) / 2 = ((st + r) / 2 : Nat) := by omega
      obtain ⟨c, hcc⟩ : ∃ c, c = (st + r) / 2 := ⟨_, rfl⟩
      rw [← hcc] at eh
      have hcL : c - Pr.length < L.length := by omega
      have hcR : mid - 1 - c < R.length := by omega
      have g1 := hCL _ hcL
      have g2 := hCR _ hcR
      rw [show Pr.length + (c - Pr.length) = c by omega] at g1
      rw [show Pr.length + L.length + (mid - 1 - c) = mid + (Pr.length + L.length) - 1 - c by omega] at g2
      have t1 : (mid : Int) + ((Pr.length + L.length : Nat) : Int) - 1 - c = (mid + (Pr.length + L.length) - 1 - c : Nat) := by omega
      have hx := hLr _ (mem_getD hcL)
      have hy := hRr _ (mem_getD hcR)
      have hb1 := hq (L.getD (c - Pr.length) 0).toNat (by omega)
      have hb2 := hq (R.getD (mid - 1 - c) 0).toNat (by omega)
      have hb3 : kq q (L.getD (c - Pr.length) 0) = q.getD (L.getD (c - Pr.length) 0).toNat 0 := rfl
      have hb4 : kq q (R.getD (mid - 1 - c) 0) = q.getD (R.getD (mid - 1 - c) 0).toNat 0 := rfl
      simp (disch := ((try simp only [List.length_set, List.length_replicate, List.length_append, List.length_cons, List.length_nil]); omega)) only [aW, aX, aV, aB, aN, aL, aP, aH, s_half, wrap_u64, eh, t1, Int.toNat_natCast, g1, g2]
      refine ⟨by kernel_rfl, ?_⟩
      refine cmpH p q C hq _ _ hy hx (aret_of ?_)
      unfold HS
      simp (disch := ((try simp only [List.length_set, List.length_replicate, List.length_append, List.length_cons, List.length_nil]); omega)) only [aW, aX, aV, aB, aN, aL, aP, aH]
      refine ib_intro (fun h6 => ?_) (fun h6 => ?_)
      · simp (disch := ((try simp only [List.length_set, List.length_replicate, List.length_append, List.length_cons, List.length_nil]); omega)) only [aW, aX, aV, aB, aN, aL, aP, aH]
        refine ⟨(c + 1, r), ⟨by simp only; omega, by simp only; omega, h3, .inr ?_, h5⟩, by simp only; omega, ?_⟩
        · simp only [Nat.add_sub_cancel]
          rw [show mid - (c + 1) = mid - 1 - c by omega]
          omega
        · exact Cut.of' 4 rfl (by omega) (by simp (disch := first | omega | simp (disch := omega) only [aF, aL, aN]) only [aW, aX, aV, aB, aN, aL, aP, aH, aF, Int.natCast_add, Int.natCast_mul, Int.add_sub_cancel, List.length_nil, Int.cast_ofNat_Int, and_true, true_and]) (by simp (disch := first | omega | simp (disch := omega) only [aF, aL, aN]) only [aW, aX, aV, aB, aN, aL, aP, aH, aF, Int.natCast_add, Int.natCast_mul, Int.add_sub_cancel, List.length_nil, Int.cast_ofNat_Int, and_true, true_and])
      · simp (disch := ((try simp only [List.length_set, List.length_replicate, List.length_append, List.length_cons, List.length_nil]); omega)) only [aW, aX, aV, aB, aN, aL, aP, aH]
        refine ⟨(st, c), ⟨by simp only; omega, h2, by simp only; omega, h4, .inr ?_⟩, by simp only; omega, ?_⟩
        · simp only; omega
        · exact Cut.of' 4 rfl (by omega) (by simp (disch := first | omega | simp (disch := omega) only [aF, aL, aN]) only [aW, aX, aV, aB, aN, aL, aP, aH, aF, Int.natCast_add, Int.natCast_mul, Int.add_sub_cancel, List.length_nil, Int.cast_ofNat_Int, and_true, true_and]) (by simp (disch := first | omega | simp (disch := omega) only [aF, aL, aN]) only [aW, aX, aV, aB, aN, aL, aP, aH, aF, Int.natCast_add, Int.natCast_mul, Int.add_sub_cancel, List.length_nil, Int.cast_ofNat_Int, and_true, true_and])
    have hsr2 : st = r := by omega
    subst hsr2
    obtain ⟨c, hc0⟩ : ∃ c, c = st - Pr.length := ⟨_, rfl⟩
    obtain ⟨d, hd0⟩ : ∃ d, d = mid - st := ⟨_, rfl⟩
    have hcl : c ≤ L.length := by omega
    have hdl : d ≤ R.length := by omega
    have X1 := tk_cross hLs hRs hc hcl hdl (by
      rcases h4 with h4 | h4
      · rcases hb0 with hb0 | hb0
        · exact .inl (by omega)
        · exact .inr (.inl (by omega))
      · exact .inr (.inr (by rwa [hc0, hd0, show st - Pr.length - 1 = st - 1 - Pr.length by omega])))
    have X2 := dt_cross hLs hRs hcl hdl (by
      rcases h5 with h5 | h5
      · rcases hb1 with hb1 | hb1
        · exact .inr (.inl (by omega))
        · exact .inl (by omega)
      · exact .inr (.inr (by rwa [hc0, hd0, show mid - st - 1 = mid - 1 - st by omega])))
    obtain ⟨l1, l2, l3⟩ := pw_take hLs c
    obtain ⟨r1, r2, r3⟩ := pw_take hRs d
    have hLt := List.take_append_drop c L
    have hRt := List.take_append_drop d R
    have k1 : (L.take c).length = c := by rw [List.length_take]; omega
    have k2 : (L.drop c).length = L.length - c := List.length_drop
    have k3 : (R.take d).length = d := by rw [List.length_take]; omega
    have k4 : (R.drop d).length = R.length - d := List.length_drop
    have m1 : ∀ x ∈ L.take c, x ∈ L := fun x hx => List.mem_of_mem_take hx
    have m2 : ∀ x ∈ L.drop c, x ∈ L := fun x hx => List.mem_of_mem_drop hx
    have m3 : ∀ x ∈ R.take d, x ∈ R := fun x hx => List.mem_of_mem_take hx
    have m4 : ∀ x ∈ R.drop d, x ∈ R := fun x hx => List.mem_of_mem_drop hx
    generalize L.take c = L1 at *
    generalize L.drop c = L2 at *
    generalize R.take d = R1 at *
    generalize R.drop d = R2 at *
    subst hLt
    subst hRt
    clear h4 h5 hCL hCR
    simp only [List.length_append] at *
    have est : st = Pr.length + L1.length := by omega
    have emid : mid = Pr.length + L1.length + R1.length := by omega
    have een : (mid : Int) + ((Pr.length + (L1.length + L2.length) : Nat) : Int) - (st : Nat) = (Pr.length + L1.length + L2.length + R1.length : Nat) := by omega
    simp (disch := ((try simp only [List.length_set, List.length_replicate, List.length_append, List.length_cons, List.length_nil]); omega)) only [aW, aX, aV, aB, aN, aL, aP, aH, een]
    -- the turn
    refine aif_merge (fun H' => H' = HS p q (Pr ++ (L1 ++ (R1 ++ (L2 ++ (R2 ++ S)))))) ?_ ?_ ?_
    · intro ht
      simp only [Bool.and_eq_true, decide_eq_true_eq] at ht
      have hrot := rotate_vr p q q.length hl (Pr ++ L1) L2 R1 (R2 ++ S) (by simp only [List.length_append]; omega) (by omega) (by omega)
      simp only [List.length_append] at hrot
      have eC : (Pr ++ L1) ++ (L2 ++ (R1 ++ (R2 ++ S))) = C := by rw [hC]; simp
      have a1 : (st : Int) = (Pr.length + L1.length : Nat) := by omega
      have a2 : ((Pr.length + (L1.length + L2.length) : Nat) : Int) = (Pr.length + L1.length + L2.length : Nat) := by omega
      rw [eC] at hrot
      simp (disch := ((try simp only [List.length_set, List.length_replicate, List.length_append, List.length_cons, List.length_nil]); omega)) only [aW, aX, aV, aB, aN, aL, aP, aH, a1, a2]
      refine hrot.mono ?_
      rintro r H' ⟨rfl, rfl⟩
      refine aret_of ?_
      simp (disch := ((try simp only [List.length_set, List.length_replicate, List.length_append, List.length_cons, List.length_nil]); omega)) only [aW, aX, aV, aB, aN, aL, aP, aH]
      refine ⟨trivial, trivial, ?_⟩
      simp [HS]
    · intro ht
      simp (disch := ((try simp only [List.length_set, List.length_replicate, List.length_append, List.length_cons, List.length_nil]); omega)) only [aW, aX, aV, aB, aN, aL, aP, aH]
      refine ⟨trivial, trivial, ?_⟩
      have hor : L2 = [] ∨ R1 = [] := by
        have ht := of_decide_eq_false ht
        by_cases hz : L2.length = 0
        · exact .inl (List.eq_nil_of_length_eq_zero hz)
        · exact .inr (List.eq_nil_of_length_eq_zero (by omega))
      rw [hC]
      rcases hor with rfl | rfl <;> simp [HS]
    rintro H' rfl
    unfold HS
    simp (disch := ((try simp only [List.length_set, List.length_replicate, List.length_append, List.length_cons, List.length_nil]); omega)) only [aW, aX, aV, aB, aN, aL, aP, aH]
    -- the front
    refine aif_merge (fun H' => ∃ T : List Int, T.Perm (L1 ++ R1) ∧ T.Pairwise (ltO q) ∧ H' = HS p q (Pr ++ (T ++ (L2 ++ (R2 ++ S))))) ?_ ?_ ?_
    · intro ht
      simp only [Bool.and_eq_true, decide_eq_true_eq] at ht
      have hm := ih Pr L1 R1 (L2 ++ (R2 ++ S)) (by omega) (by omega) (by omega) (by simp only [List.length_append]; omega) (fun x hx => hLr x (m1 x hx)) (fun x hx => hRr x (m3 x hx)) l1 r1 (fun x hx y hy => hc x (m1 x hx) y (m3 y hy))
      rw [← emid, ← est] at hm
      simp (disch := ((try simp only [List.length_set, List.length_replicate, List.length_append, List.length_cons, List.length_nil]); omega)) only [aW, aX, aV, aB, aN, aL, aP, aH]
      refine hm.mono ?_
      rintro r H' ⟨rfl, T, t1, t2, rfl⟩
      refine aret_of ?_
      simp (disch := ((try simp only [List.length_set, List.length_replicate, List.length_append, List.length_cons, List.length_nil]); omega)) only [aW, aX, aV, aB, aN, aL, aP, aH]
      exact ⟨trivial, trivial, T, t1, t2, rfl⟩
    · intro ht
      simp (disch := ((try simp only [List.length_set, List.length_replicate, List.length_append, List.length_cons, List.length_nil]); omega)) only [aW, aX, aV, aB, aN, aL, aP, aH]
      refine ⟨trivial, trivial, L1 ++ R1, List.Perm.refl _, ?_, by simp [HS]⟩
      have ht := of_decide_eq_false ht
      by_cases hz : L1.length = 0
      · have : L1 = [] := List.eq_nil_of_length_eq_zero hz
        subst this; simpa using r1
      · have : R1 = [] := List.eq_nil_of_length_eq_zero (by omega)
        subst this; simpa using l1
    rintro H' ⟨T, t1, t2, rfl⟩
    have tl := t1.length_eq
    rw [List.length_append] at tl
    unfold HS
    simp (disch := ((try simp only [List.length_set, List.length_replicate, List.length_append, List.length_cons, List.length_nil]); omega)) only [aW, aX, aV, aB, aN, aL, aP, aH]
    -- the back
    refine aif_merge (fun H' => ∃ U : List Int, U.Perm (L2 ++ R2) ∧ U.Pairwise (ltO q) ∧ H' = HS p q (Pr ++ (T ++ (U ++ S)))) ?_ ?_ ?_
    · intro ht
      simp only [Bool.and_eq_true, decide_eq_true_eq] at ht
      have hm := ih (Pr ++ T) L2 R2 S (by omega) (by omega) (by omega) (by simp only [List.length_append]; omega) (fun x hx => hLr x (m2 x hx)) (fun x hx => hRr x (m4 x hx)) l2 r2 (fun x hx y hy => hc x (m2 x hx) y (m4 y hy))
      simp only [List.length_append, List.append_assoc] at hm
      have a1 : Pr.length + T.length = mid := by omega
      have a2 : mid + L2.length = Pr.length + L1.length + L2.length + R1.length := by omega
      have a3 : Pr.length + L1.length + L2.length + R1.length + R2.length = Pr.length + (L1.length + L2.length) + (R1.length + R2.length) := by omega
      rw [a1, a2, a3] at hm
      simp (disch := ((try simp only [List.length_set, List.length_replicate, List.length_append, List.length_cons, List.length_nil]); omega)) only [aW, aX, aV, aB, aN, aL, aP, aH]
      refine hm.mono ?_
      rintro r H' ⟨rfl, U, u1, u2, rfl⟩
      refine aret_of ?_
      simp (disch := ((try simp only [List.length_set, List.length_replicate, List.length_append, List.length_cons, List.length_nil]); omega)) only [aW, aX, aV, aB, aN, aL, aP, aH]
      exact ⟨trivial, trivial, U, u1, u2, by simp [HS]⟩
    · intro ht
      simp (disch := ((try simp only [List.length_set, List.length_replicate, List.length_append, List.length_cons, List.length_nil]); omega)) only [aW, aX, aV, aB, aN, aL, aP, aH]
      refine ⟨trivial, trivial, L2 ++ R2, List.Perm.refl _, ?_, by simp [HS]⟩
      have ht := of_decide_eq_false ht
      by_cases hz : L2.length = 0
      · have : L2 = [] := List.eq_nil_of_length_eq_zero hz
        subst this; simpa using r2
      · have : R2 = [] := List.eq_nil_of_length_eq_zero (by omega)
        subst this; simpa using l2
    rintro H' ⟨U, u1, u2, rfl⟩
    unfold HS
    simp (disch := ((try simp only [List.length_set, List.length_replicate, List.length_append, List.length_cons, List.length_nil]); omega)) only [aW, aX, aV, aB, aN, aL, aP, aH, r_slices_symMergeCmpFunc]
    refine post2 ⟨rfl, T ++ U, ?_, List.pairwise_append.2 ⟨t2, u2, fun x hx y hy => ?_⟩, by simp [HS]⟩
    · have h7 : (T ++ U).Perm ((L1 ++ R1) ++ (L2 ++ R2)) := t1.append u1
      refine h7.trans ?_
      simp only [List.append_assoc]
      refine List.Perm.append_left L1 ?_
      rw [← List.append_assoc, ← List.append_assoc]
      exact List.Perm.append_right R2 List.perm_append_comm
    · have hx' := t1.mem_iff.1 hx
      have hy' := u1.mem_iff.1 hy
      rcases List.mem_append.1 hx' with hx' | hx' <;> rcases List.mem_append.1 hy' with hy' | hy'
      · exact l3 x hx' y hy'
      · exact X1 x hx' y hy'
      · exact X2 x hx' y hy'
      · exact r3 x hx' y hy'
end Go.Proofs.Ytnpbnlafaoldcaa
