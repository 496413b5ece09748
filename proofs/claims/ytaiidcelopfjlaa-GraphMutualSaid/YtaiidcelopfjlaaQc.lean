/- The priority queue: what its functions do to memory. No statement is claimed here. -/
import Derived.Test.YtaiidcelopfjlaaQb
namespace Go.Proofs.Ytaiidcelopfjlaa
open Go Go.Lft
set_option linter.unusedSimpArgs false
set_option linter.unusedVariables false
attribute [local congr] ob_congr bw_congr ib_congr ck_congr iwA_congr itA_congr aw_congr awp_congr sqA_congr bkA_congr vr_congr gd_congr

/-- Block i is a queue whose items are the first n of block j. -/
structure QS (H : List Blk) (i j ver f : Nat) (ys : List IP) (n : Nat) (c : Int) : Prop where
  qi : blkAt H i 0 = some [.fn f [], .sl j ver 2 0 n, .v (.int .i64 c)]
  qj : blkAt H j ver = some (pcells ys)
  le : n ≤ ys.length
  ne : i ≠ j
  sm : n < 1000000000
theorem QS.ld {H : List Blk} {i j ver f : Nat} {ys : List IP} {n : Nat} {c : Int} (h : QS H i j ver f ys n c) : Ld H (.lp i 0 0) (qA false false f (ys.take n) c) := by
  have h1 := Ld.lp (o := 0) h.qi (r := [.fn f [], .fs false (pairs (ys.take n)), .v (.int .i64 c)]) ⟨Ld.refl rfl, ld_slPt H j ver n ys h.le h.qj, Ld.refl rfl, trivial⟩ (by simp)
  exact h1
theorem QS.set {H : List Blk} {i j ver f : Nat} {ys : List IP} {n : Nat} {c : Int} (h : QS H i j ver f ys n c) (zs : List IP) (hz : n ≤ zs.length) : QS (H.set j ⟨ver, pcells zs⟩) i j ver f zs n c :=
  ⟨by rw [blkAt_set_ne _ _ _ _ _ h.ne]; exact h.qi, blkAt_set_same _ _ _ _ (blkAt_lt h.qj), hz, h.ne, h.sm⟩
theorem set_self {H : List Blk} {j ver : Nat} {l : List A} (h : blkAt H j ver = some l) : H.set j ⟨ver, l⟩ = H := by
  obtain ⟨B, h1, h2, h3⟩ := blkAt_iff.1 h
  have : B = ⟨ver, l⟩ := by cases B; simp at h2 h3; subst h2; subst h3; rfl
  subst this
  apply List.ext_getElem?
  intro k
  rw [List.getElem?_set]
  split
  · rename_i hk; subst hk; rw [if_pos (blkAt_lt h), h1]
  · rfl

theorem qswap_vr {H : List Blk} {i j ver f : Nat} {ys : List IP} {n : Nat} {c : Int} (h : QS H i j ver f ys n c) (a b : Int) (h1 : 0 ≤ a) (h2 : a < n) (h3 : 0 ≤ b) (h4 : b < n) :
    VR P false n_pqueue_Queue_swap [.lp i 0 0, .v (.int .i64 a), .v (.int .i64 b)] H (fun r H' => H' = H.set j ⟨ver, pcells (swapL ys a.toNat b.toNat)⟩) := by
  refine vr_pqueue_Queue_swap (by simp) (.inl rfl) fun _ _ => ?_
  have qi := h.qi
  have qj := h.qj
  have ne := h.ne
  have le := h.le
  have lt := blkAt_lt h.qj
  have e1 : (ys.getD a.toNat ipd).1 = (ys.getD a.toNat (0, 0)).1 := rfl
  simp (disch := ((try simp only [List.length_set, List.length_replicate, List.length_append, List.length_cons, List.length_nil]); omega)) only [aW, aX, aV, aB, aN, aL, aP, aH, s_pqueue_Queue_swap, v_pqueue_Queue_swap, r_pqueue_Queue_swap, qi, qj, List.length_set]
  exact post2 (R := fun _ H' => H' = H.set j ⟨ver, pcells (swapL ys a.toNat b.toNat)⟩) rfl

/-- The order of a sift. -/
theorem lenT {ys : List IP} {n : Nat} (h : n ≤ ys.length) : (ys.take n).length = n := by simp; omega

theorem qsink_vr {H : List Blk} {i j ver f : Nat} {ys : List IP} {n : Nat} {c : Int} (hf : IsLt f) (h : QS H i j ver f ys n c) (hd : HeapDn (ys.take n) 0) :
    VR P false n_pqueue_Queue_sink [.lp i 0 0] H (fun r H' => ∃ zs, zs.length = ys.length ∧ (zs.take n).Perm (ys.take n) ∧ zs.drop n = ys.drop n ∧ Heap2 (zs.take n) ∧ H' = H.set j ⟨ver, pcells zs⟩) := by
  refine vr_pqueue_Queue_sink (by simp) (.inl rfl) fun hb _ => ?_
  have qi := h.qi
  have qj := h.qj
  have ne := h.ne
  have le := h.le
  have sm := h.sm
  have lt := blkAt_lt h.qj
  have lti := blkAt_lt h.qi
  simp (disch := ((try simp only [List.length_set, List.length_replicate, List.length_append, List.length_cons, List.length_nil]); omega)) only [aW, aX, aV, aB, aN, aL, aP, aH, s_pqueue_Queue_sink, v_pqueue_Queue_sink]
  refine AWP.loopP (α := Nat × List IP) g_pqueue_Queue_sink_0 (fun p => p.2.length = ys.length ∧ (p.2.take n).Perm (ys.take n) ∧ p.2.drop n = ys.drop n ∧ HeapDn (p.2.take n) p.1 ∧ (p.1 < n ∨ p.1 = 0))
    (fun p => [(1, .v (.int .i64 p.1))]) (fun p => [(j, ⟨ver, pcells p.2⟩)]) (fun p => n - p.1) (0, ys) ⟨rfl, List.Perm.refl _, rfl, hd, .inr rfl⟩ ?_ ?_
  · simp (disch := ((try simp only [List.length_set, List.length_replicate, List.length_append, List.length_cons, List.length_nil]); omega)) only [aW, aX, aV, aB, aN, aL, aP, aH, set_self qj]
    exact Cut.same (Nat.le_refl _) hb (by simp (disch := first | omega | simp (disch := omega) only [aF, aL, aN]) only [aW, aX, aV, aB, aN, aL, aP, aH, aF, Int.natCast_add, Int.natCast_mul, Int.add_sub_cancel, List.length_nil, Int.cast_ofNat_Int, and_true, true_and])
  rintro ⟨m, zs⟩ ⟨z1, z2, z3, z4, z5⟩
  simp only at z1 z2 z3 z4 z5
  have hq := h.set zs (by omega)
  have hqi := hq.qi
  have hl := lenT (ys := zs) (n := n) (by omega)
  have hb' : okB (H.set j ⟨ver, pcells zs⟩).length (H.set j ⟨ver, pcells zs⟩) := by rw [List.length_set]; exact okB.set hb (pc_bd _ _)
  simp (disch := ((try simp only [List.length_set, List.length_replicate, List.length_append, List.length_cons, List.length_nil]); omega)) only [aW, aX, aV, aB, aN, aL, aP, aH]
  refine AWP.loopP (α := Nat × Nat) g_pqueue_Queue_sink_1 (fun p => (2 * m + 1 ≤ p.1 ∧ p.1 ≤ 2 * m + 3) ∧ (p.2 = m ∨ (par p.2 = m ∧ 0 < p.2 ∧ p.2 < n ∧ p.2 < p.1 ∧ qlt ((zs.take n).getD p.2 ipd) ((zs.take n).getD m ipd))) ∧ ∀ k, 2 * m + 1 ≤ k → k < p.1 → k < n → ¬ qlt ((zs.take n).getD k ipd) ((zs.take n).getD p.2 ipd))
    (fun p => [(2, .v (.int .i64 p.2)), (3, .v (.int .i64 p.1))]) (fun p => []) (fun p => 2 * m + 3 - p.1) (2 * m + 1, m) ⟨by simp only; omega, .inl rfl, fun k h1 h2 => by simp only at h2; omega⟩ ?_ ?_
  · simp (disch := ((try simp only [List.length_set, List.length_replicate, List.length_append, List.length_cons, List.length_nil]); omega)) only [aW, aX, aV, aB, aN, aL, aP, aH]
    exact Cut.same (by rw [List.length_set]; exact Nat.le_refl _) hb' (by simp (disch := first | omega | simp (disch := omega) only [aF, aL, aN]) only [aW, aX, aV, aB, aN, aL, aP, aH, aF, Int.natCast_add, Int.natCast_mul, Int.add_sub_cancel, List.length_nil, Int.cast_ofNat_Int, and_true, true_and])
  rintro ⟨k, q⟩ ⟨⟨k1, k2⟩, k3, k4⟩
  simp only at k1 k2 k3 k4
  by_cases hk : k ≤ 2 * m + 2 ∧ k < n
  · obtain ⟨hk1, hk2⟩ := hk
    have hqn : q < n := by rcases k3 with k3 | k3 <;> omega
    simp (disch := ((try simp only [List.length_set, List.length_replicate, List.length_append, List.length_cons, List.length_nil]); omega)) only [aW, aX, aV, aB, aN, aL, aP, aH, hqi]
    refine (qbefore_vr hf (zs.take n) c k q (by omega) (by omega) (by omega) (by omega)).use ⟨hq.ld, Ld.refl rfl, Ld.refl rfl, trivial⟩ rfl (aret_of ?_)
    simp (disch := ((try simp only [List.length_set, List.length_replicate, List.length_append, List.length_cons, List.length_nil]); omega)) only [aW, aX, aV, aB, aN, aL, aP, aH]
    refine ib_intro (fun h1 => ?_) (fun h1 => ?_)
    · simp (disch := ((try simp only [List.length_set, List.length_replicate, List.length_append, List.length_cons, List.length_nil]); omega)) only [aW, aX, aV, aB, aN, aL, aP, aH]
      refine ⟨(k + 1, k), ⟨by simp only; omega, .inr ⟨by unfold par; simp only; omega, by simp only; omega, hk2, by simp only; omega, ?_⟩, fun k' g1 g2 g3 => ?_⟩, by simp only; omega, ?_⟩
      · rcases k3 with rfl | ⟨_, _, _, _, k5⟩
        · exact h1
        · exact qlt_trans h1 k5
      · simp only at g2 ⊢
        by_cases hkk : k' = k
        · subst hkk; exact qlt_irr _
        · exact fun hc => k4 k' g1 (by omega) g3 (qlt_trans hc h1)
      · simp (disch := ((try simp only [List.length_set, List.length_replicate, List.length_append, List.length_cons, List.length_nil]); omega)) only [aW, aX, aV, aB, aN, aL, aP, aH]
        exact Cut.same (by rw [List.length_set]; exact Nat.le_refl _) hb' (by simp (disch := first | omega | simp (disch := omega) only [aF, aL, aN]) only [aW, aX, aV, aB, aN, aL, aP, aH, aF, Int.natCast_add, Int.natCast_mul, Int.add_sub_cancel, List.length_nil, Int.cast_ofNat_Int, and_true, true_and])
    · simp (disch := ((try simp only [List.length_set, List.length_replicate, List.length_append, List.length_cons, List.length_nil]); omega)) only [aW, aX, aV, aB, aN, aL, aP, aH]
      refine ⟨(k + 1, q), ⟨by simp only; omega, ?_, fun k' g1 g2 g3 => ?_⟩, by simp only; omega, ?_⟩
      · rcases k3 with k3 | ⟨g1, g2, g3, g4, k5⟩
        · exact .inl k3
        · exact .inr ⟨g1, g2, g3, by simp only; omega, k5⟩
      · simp only at g2 ⊢
        by_cases hkk : k' = k
        · subst hkk; exact h1
        · exact k4 k' g1 (by omega) g3
      · simp (disch := ((try simp only [List.length_set, List.length_replicate, List.length_append, List.length_cons, List.length_nil]); omega)) only [aW, aX, aV, aB, aN, aL, aP, aH]
        exact Cut.same (by rw [List.length_set]; exact Nat.le_refl _) hb' (by simp (disch := first | omega | simp (disch := omega) only [aF, aL, aN]) only [aW, aX, aV, aB, aN, aL, aP, aH, aF, Int.natCast_add, Int.natCast_mul, Int.add_sub_cancel, List.length_nil, Int.cast_ofNat_Int, and_true, true_and])
  · have hall : ∀ k', 0 < k' → k' < n → par k' = m → ¬ qlt ((zs.take n).getD k' ipd) ((zs.take n).getD q ipd) := fun k' g1 g2 g3 => k4 k' (by unfold par at g3; omega) (by unfold par at g3; omega) g2
    simp (disch := ((try simp only [List.length_set, List.length_replicate, List.length_append, List.length_cons, List.length_nil]); omega)) only [aW, aX, aV, aB, aN, aL, aP, aH, hqi]
    rcases k3 with rfl | ⟨k31, k32, k33, k34, k35⟩
    · simp (disch := ((try simp only [List.length_set, List.length_replicate, List.length_append, List.length_cons, List.length_nil]); omega)) only [aW, aX, aV, aB, aN, aL, aP, aH, r_pqueue_Queue_sink]
      refine post2 (R := fun r H' => _) ⟨zs, z1, z2, z3, dn_done z4 (fun k' g1 g2 g3 => hall k' g1 (by omega) g3), rfl⟩
    · have hne : ¬ (q : Int) = m := by unfold par at k31; omega
      have hmn : m < n := by unfold par at k31; omega
      simp (disch := ((try simp only [List.length_set, List.length_replicate, List.length_append, List.length_cons, List.length_nil]); omega)) only [aW, aX, aV, aB, aN, aL, aP, aH]
      refine (qswap_vr hq m q (by omega) (by omega) (by omega) (by omega)).mono ?_
      rintro r H' rfl
      refine aret_of ?_
      simp (disch := ((try simp only [List.length_set, List.length_replicate, List.length_append, List.length_cons, List.length_nil]); omega)) only [aW, aX, aV, aB, aN, aL, aP, aH]
      have hstep := dn_step z4 k31 k32 (by omega) k35 (fun k' g1 g2 g3 => hall k' g1 (by omega) g3)
      rw [← swapL_take zs n m q hmn k33 (by omega)] at hstep
      refine ⟨(q, swapL zs m q), ⟨by simp only [swapL_len]; exact z1, ?_, ?_, hstep, .inl k33⟩, by simp only; unfold par at k31; omega, ?_⟩
      · simp only
        rw [swapL_take zs n m q hmn k33 (by omega)]
        exact (swapL_perm _ _ _ (by omega) (by omega)).trans z2
      · simp only
        rw [← z3]
        unfold swapL
        rw [List.drop_set_of_lt (by omega), List.drop_set_of_lt (by omega)]
      · simp (disch := ((try simp only [List.length_set, List.length_replicate, List.length_append, List.length_cons, List.length_nil]); omega)) only [aW, aX, aV, aB, aN, aL, aP, aH]
        have hb2 : okB (H.set j ⟨ver, pcells (swapL zs m q)⟩).length (H.set j ⟨ver, pcells (swapL zs m q)⟩) := by rw [List.length_set]; exact okB.set hb (pc_bd _ _)
        exact Cut.same (by rw [List.length_set]; exact Nat.le_refl _) hb2 (by simp (disch := first | omega | simp (disch := omega) only [aF, aL, aN]) only [aW, aX, aV, aB, aN, aL, aP, aH, aF, Int.natCast_add, Int.natCast_mul, Int.add_sub_cancel, List.length_nil, Int.cast_ofNat_Int, and_true, true_and])
/-- Taking the first item off. -/
theorem qpop_vr {H : List Blk} {i j ver f : Nat} {ys : List IP} {n : Nat} {c : Int} (hf : IsLt f) (h : QS H i j ver f ys n c) (hn : 0 < n) (hh : Heap2 (ys.take n)) :
    VR P false n_pqueue_Queue_Pop [.lp i 0 0] H (fun r H' => r = .tup [.v (.int .i64 (ys.getD 0 ipd).1), .v (.bool true)] ∧ ∃ zs, zs.length = ys.length ∧ (ys.getD 0 ipd :: zs.take (n - 1)).Perm (ys.take n) ∧ Heap2 (zs.take (n - 1)) ∧
      H' = (H.set j ⟨ver, pcells zs⟩).set i ⟨0, [.fn f [], .sl j ver 2 0 (n - 1), .v (.int .i64 c)]⟩) := by
  refine vr_pqueue_Queue_Pop (by simp) (.inl rfl) fun hb _ => ?_
  have qi := h.qi
  have qj := h.qj
  have ne := h.ne
  have le := h.le
  have sm := h.sm
  have lt := blkAt_lt h.qj
  have lti := blkAt_lt h.qi
  have hl := lenT le
  simp (disch := ((try simp only [List.length_set, List.length_replicate, List.length_append, List.length_cons, List.length_nil]); omega)) only [aW, aX, aV, aB, aN, aL, aP, aH, s_pqueue_Queue_Pop, v_pqueue_Queue_Pop]
  refine (qpeek_vr f (ys.take n) c).use ⟨h.ld, trivial⟩ rfl (aret_of ?_)
  have h0 : decide (0 < (ys.take n).length) = true := by rw [hl]; simpa using hn
  simp (disch := ((try simp only [List.length_set, List.length_replicate, List.length_append, List.length_cons, List.length_nil]); omega)) only [aW, aX, aV, aB, aN, aL, aP, aH, h0, qi]
  refine (qswap_vr h 0 (n - 1) (by omega) (by omega) (by omega) (by omega)).mono ?_
  rintro r H' rfl
  refine aret_of ?_
  have e1 : ((n : Int) - 1).toNat = n - 1 := by omega
  have hq := h.set (swapL ys 0 (n - 1)) (by rw [swapL_len]; exact le)
  have hqi := hq.qi
  have hqj := hq.qj
  have hsl := swapL_len ys 0 (n - 1)
  have e2 : n - (n - 1) = 1 := by omega
  simp (disch := ((try simp only [List.length_set, List.length_replicate, List.length_append, List.length_cons, List.length_nil]); omega)) only [aW, aX, aV, aB, aN, aL, aP, aH, e1, e2, qi, hqi, hqj]
  generalize hy2 : (swapL ys 0 (n - 1)).set (n - 1) (0, 0) = ys2
  have hl2 : ys2.length = ys.length := by rw [← hy2, List.length_set, hsl]
  have ht2 : ys2.take (n - 1) = (swapL (ys.take n) 0 ((ys.take n).length - 1)).take ((ys.take n).length - 1) := by
    rw [hl, ← hy2, List.take_set_of_le (by omega), ← swapL_take ys n 0 (n - 1) (by omega) (by omega) le, List.take_take, Nat.min_eq_left (by omega)]
  have hq2 : QS ((H.set j ⟨ver, pcells ys2⟩).set i ⟨0, [.fn f [], .sl j ver 2 0 (n - 1), .v (.int .i64 c)]⟩) i j ver f ys2 (n - 1) c :=
    ⟨blkAt_set_same _ _ _ _ (by rw [List.length_set]; exact lti), by rw [blkAt_set_ne _ _ _ _ _ (Ne.symm ne)]; exact blkAt_set_same _ _ _ _ lt, by omega, ne, by omega⟩
  refine (qsink_vr hf hq2 (by rw [ht2]; exact dn_start hh (by omega))).mono ?_
  rintro r H' ⟨zs, w1, w2, w3, w4, rfl⟩
  refine aret_of ?_
  simp (disch := ((try simp only [List.length_set, List.length_replicate, List.length_append, List.length_cons, List.length_nil]); omega)) only [aW, aX, aV, aB, aN, aL, aP, aH, r_pqueue_Queue_Pop]
  have e3 : (ys.take n).getD 0 (0, 0) = ys.getD 0 ipd := by simp [List.getD_eq_getElem?_getD, List.getElem?_take, hn]
  rw [e3]
  refine post2 (R := fun r H' => _) ⟨rfl, zs, by omega, ?_, w4, ?_⟩
  · have g1 := pop_perm (l := ys.take n) (by omega)
    rw [← ht2, show (ys.take n).getD 0 ipd = ys.getD 0 ipd from e3] at g1
    exact (List.Perm.cons _ w2).trans g1
  · rw [List.set_comm _ _ (Ne.symm ne), List.set_set, List.set_comm _ _ ne]
theorem qpop0_vr {H : List Blk} {i f : Nat} {v : A} {c : Int} (hi : blkAt H i 0 = some [.fn f [], v, .v (.int .i64 c)]) (hv : Ld H v (.fs false (pairs []))) :
    VR P false n_pqueue_Queue_Pop [.lp i 0 0] H (fun r H' => r = .tup [.v (.int .i64 0), .v (.bool false)] ∧ H' = H) := by
  refine vr_pqueue_Queue_Pop (by simp) (.inl rfl) fun hb _ => ?_
  simp (disch := ((try simp only [List.length_set, List.length_replicate, List.length_append, List.length_cons, List.length_nil]); omega)) only [aW, aX, aV, aB, aN, aL, aP, aH, s_pqueue_Queue_Pop, v_pqueue_Queue_Pop]
  refine (qpeek_vr (w := false) (v := false) f [] c).use ⟨?_, trivial⟩ rfl (aret_of ?_)
  · have h1 := Ld.lp (o := 0) hi (r := [.fn f [], .fs false (pairs []), .v (.int .i64 c)]) ⟨Ld.refl rfl, hv, Ld.refl rfl, trivial⟩ (by simp)
    exact h1
  · have h0 : decide (0 < ([] : List IP).length) = false := rfl
    simp (disch := ((try simp only [List.length_set, List.length_replicate, List.length_append, List.length_cons, List.length_nil]); omega)) only [aW, aX, aV, aB, aN, aL, aP, aH, h0, r_pqueue_Queue_Pop]
    exact post2 (R := fun r H' => _) ⟨rfl, rfl⟩

/-- Adding an item. -/
theorem qpush_vr {H : List Blk} {i j ver f : Nat} {ys : List IP} {n : Nat} {c : Int} (hf : IsLt f) (h : QS H i j ver f ys n c) (hh : Heap2 (ys.take n)) (x : Int) (hc : 0 ≤ c) (hc2 : c < 1000000000) (hn : n + 1 < 1000000000) :
    VR P false n_pqueue_Queue_Push [.lp i 0 0, .v (.int .i64 x)] H (fun r H' => ∃ zs, zs.length = n + 1 ∧ zs.Perm (ys.take n ++ [(x, c)]) ∧ Heap2 zs ∧
      H' = (H.set j ⟨ver + 1, pcells zs⟩).set i ⟨0, [.fn f [], .sl j (ver + 1) 2 0 (n + 1), .v (.int .i64 (c + 1))]⟩) := by
  refine vr_pqueue_Queue_Push (by simp) (.inl rfl) fun hb _ => ?_
  have qi := h.qi
  have qj := h.qj
  have ne := h.ne
  have le := h.le
  have sm := h.sm
  have lt := blkAt_lt h.qj
  have lti := blkAt_lt h.qi
  have hl := lenT le
  simp (disch := ((try simp only [List.length_set, List.length_replicate, List.length_append, List.length_cons, List.length_nil]); omega)) only [aW, aX, aV, aB, aN, aL, aP, aH, s_pqueue_Queue_Push, v_pqueue_Queue_Push, qi, qj]
  have mem : ∀ zs : List IP, ((H.set j ⟨ver + 1, pcells zs⟩).set i ⟨0, [.fn f [], .sl j (ver + 1) 2 0 (n + 1), .v (.int .i64 (c + 1))]⟩).length = H.length := fun zs => by simp
  have okm : ∀ zs : List IP, okB H.length ((H.set j ⟨ver + 1, pcells zs⟩).set i ⟨0, [.fn f [], .sl j (ver + 1) 2 0 (n + 1), .v (.int .i64 (c + 1))]⟩) := fun zs => okB.set (okB.set hb (pc_bd _ _)) (by simp (disch := first | omega | simp (disch := omega) only [aF, aL, aN]) only [aW, aX, aV, aB, aN, aL, aP, aH, aF, Int.natCast_add, Int.natCast_mul, Int.add_sub_cancel, List.length_nil, Int.cast_ofNat_Int, and_true, true_and])
  refine AWP.loop (α := Nat × List IP) (fun p => p.2.length = n + 1 ∧ p.2.Perm (ys.take n ++ [(x, c)]) ∧ HeapUp p.2 p.1 ∧ p.1 < n + 1)
    (fun p => [.lp i 0 0, .v (.int .i64 x), .v (.int .i64 p.1), .any, .any, .any, .any]) (fun p => (H.set j ⟨ver + 1, pcells p.2⟩).set i ⟨0, [.fn f [], .sl j (ver + 1) 2 0 (n + 1), .v (.int .i64 (c + 1))]⟩) (fun p => p.1) (n, ys.take n ++ [(x, c)])
    ⟨by simp [hl], List.Perm.refl _, by have := up_start (x, c) hh; rw [hl] at this; exact this, by simp⟩ ?_ ?_
  · simp (disch := ((try simp only [List.length_set, List.length_replicate, List.length_append, List.length_cons, List.length_nil]); omega)) only [aW, aX, aV, aB, aN, aL, aP, aH]
    exact Cut.app (by rw [mem]; exact Nat.le_refl _) (by rw [mem]; exact okm _) (by rw [mem]; simp (disch := first | omega | simp (disch := omega) only [aF, aL, aN]) only [aW, aX, aV, aB, aN, aL, aP, aH, aF, Int.natCast_add, Int.natCast_mul, Int.add_sub_cancel, List.length_nil, Int.cast_ofNat_Int, and_true, true_and])
  rintro ⟨m, zs⟩ ⟨z1, z2, z3, z4⟩
  simp only at z1 z2 z3 z4
  refine aw_sound ?_
  have hq : QS ((H.set j ⟨ver + 1, pcells zs⟩).set i ⟨0, [.fn f [], .sl j (ver + 1) 2 0 (n + 1), .v (.int .i64 (c + 1))]⟩) i j (ver + 1) f zs (n + 1) (c + 1) :=
    ⟨blkAt_set_same _ _ _ _ (by rw [List.length_set]; exact lti), by rw [blkAt_set_ne _ _ _ _ _ (Ne.symm ne)]; exact blkAt_set_same _ _ _ _ lt, by omega, ne, hn⟩
  have ht : zs.take (n + 1) = zs := List.take_of_length_le (by omega)
  have hld := hq.ld
  rw [ht] at hld
  by_cases h0 : 0 < m
  · have hp : ((m : Int) - 1).tdiv 2 = (par m : Nat) := by
      rw [Int.tdiv_eq_ediv_of_nonneg (by omega)]; unfold par; omega
    have hpm : par m < m := by unfold par; omega
    have hp2 : ((m : Int) - 1) / 2 = (par m : Nat) := by unfold par; omega
    simp (disch := ((try simp only [List.length_set, List.length_replicate, List.length_append, List.length_cons, List.length_nil]); omega)) only [aW, aX, aV, aB, aN, aL, aP, aH, hp, hp2]
    refine (qbefore_vr hf zs (c + 1) m (par m : Nat) (by omega) (by omega) (by omega) (by omega)).use ⟨hld, Ld.refl rfl, Ld.refl rfl, trivial⟩ rfl (aret_of ?_)
    simp (disch := ((try simp only [List.length_set, List.length_replicate, List.length_append, List.length_cons, List.length_nil]); omega)) only [aW, aX, aV, aB, aN, aL, aP, aH]
    refine ib_intro (fun h1 => ?_) (fun h1 => ?_)
    · simp (disch := ((try simp only [List.length_set, List.length_replicate, List.length_append, List.length_cons, List.length_nil]); omega)) only [aW, aX, aV, aB, aN, aL, aP, aH, r_pqueue_Queue_Push]
      exact post2 (R := fun r H' => _) ⟨zs, z1, z2, up_done z3 (.inr h1), rfl⟩
    · have h1 : qlt (zs.getD m ipd) (zs.getD (par m) ipd) := Classical.not_not.1 h1
      simp (disch := ((try simp only [List.length_set, List.length_replicate, List.length_append, List.length_cons, List.length_nil]); omega)) only [aW, aX, aV, aB, aN, aL, aP, aH]
      refine (qswap_vr hq m (par m : Nat) (by omega) (by omega) (by omega) (by omega)).mono ?_
      rintro r H' rfl
      refine aret_of ?_
      have hsw : ∀ zs' : List IP, ((H.set j ⟨ver + 1, pcells zs⟩).set i ⟨0, [.fn f [], .sl j (ver + 1) 2 0 (n + 1), .v (.int .i64 (c + 1))]⟩).set j ⟨ver + 1, pcells zs'⟩ = (H.set j ⟨ver + 1, pcells zs'⟩).set i ⟨0, [.fn f [], .sl j (ver + 1) 2 0 (n + 1), .v (.int .i64 (c + 1))]⟩ := fun zs' => by
        rw [List.set_comm _ _ ne, List.set_set]
      simp (disch := ((try simp only [List.length_set, List.length_replicate, List.length_append, List.length_cons, List.length_nil]); omega)) only [aW, aX, aV, aB, aN, aL, aP, aH, hsw]
      refine ⟨(par m, swapL zs m (par m)), ⟨by simp only [swapL_len]; exact z1, (swapL_perm _ _ _ (by omega) (by omega)).trans z2, up_step z3 h0 (by omega) h1, by simp only; omega⟩, by simp only; omega, ?_⟩
      exact Cut.same (by rw [mem]; exact Nat.le_refl _) (by rw [mem]; exact okm _) (by rw [mem]; simp (disch := first | omega | simp (disch := omega) only [aF, aL, aN]) only [aW, aX, aV, aB, aN, aL, aP, aH, aF, Int.natCast_add, Int.natCast_mul, Int.add_sub_cancel, List.length_nil, Int.cast_ofNat_Int, and_true, true_and])
  · have h0 : m = 0 := by omega
    subst h0
    simp (disch := ((try simp only [List.length_set, List.length_replicate, List.length_append, List.length_cons, List.length_nil]); omega)) only [aW, aX, aV, aB, aN, aL, aP, aH, r_pqueue_Queue_Push]
    exact post2 (R := fun r H' => _) ⟨zs, z1, z2, up_done z3 (.inl rfl), rfl⟩
/-- Adding the first item. -/
theorem qpush0_vr {H : List Blk} {i f : Nat} {c : Int} (hi : blkAt H i 0 = some [.fn f [], .v (.slice none 0 0), .v (.int .i64 c)]) (x : Int) (hc : 0 ≤ c) (hc2 : c < 1000000000) :
    VR P false n_pqueue_Queue_Push [.lp i 0 0, .v (.int .i64 x)] H (fun r H' => H' = (H.set i ⟨0, [.fn f [], .sl (H.length + 1) 0 2 0 1, .v (.int .i64 (c + 1))]⟩) ++ [⟨0, pcells [(x, c)]⟩, ⟨0, pcells [(x, c)]⟩]) := by
  refine vr_pqueue_Queue_Push (by simp) (.inl rfl) fun hb _ => ?_
  have lti := blkAt_lt hi
  have e1 : ((1 : Nat) : Int) - 1 = 0 := rfl
  simp (disch := ((try simp only [List.length_set, List.length_replicate, List.length_append, List.length_cons, List.length_nil]); omega)) only [aW, aX, aV, aB, aN, aL, aP, aH, s_pqueue_Queue_Push, v_pqueue_Queue_Push, hi, e1]
  refine AWP.once ?_
  simp (disch := ((try simp only [List.length_set, List.length_replicate, List.length_append, List.length_cons, List.length_nil]); omega)) only [aW, aX, aV, aB, aN, aL, aP, aH, r_pqueue_Queue_Push]
  exact post2 (R := fun r H' => _) rfl
end Go.Proofs.Ytaiidcelopfjlaa
