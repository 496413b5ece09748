/- The topological order: what it is; the reference. No statement is claimed here. -/
import Derived.Test.YtaiidcelopfjlaaGf
namespace Go.Proofs.Ytaiidcelopfjlaa
open Go Go.Lft
set_option linter.unusedSimpArgs false
set_option linter.unusedVariables false
attribute [local congr] ob_congr bw_congr ib_congr ck_congr iwA_congr itA_congr aw_congr awp_congr sqA_congr bkA_congr vr_congr gd_congr

/-- The least number from j on, of m, with p; or -1. -/
def low (p : Nat → Bool) : Nat → Nat → Int
  | _, 0 => -1
  | j, m + 1 => if p j then (j : Int) else low p (j + 1) m
theorem low_cases (p : Nat → Bool) : ∀ (m j : Nat), (low p j m = -1 ∧ ∀ i, j ≤ i → i < j + m → p i = false) ∨ ∃ i : Nat, low p j m = i ∧ j ≤ i ∧ i < j + m ∧ p i = true ∧ ∀ i', j ≤ i' → i' < i → p i' = false
  | 0, j => .inl ⟨rfl, fun i h1 h2 => by omega⟩
  | m + 1, j => by
    unfold low
    by_cases h : p j = true
    · rw [if_pos h]; exact .inr ⟨j, rfl, Nat.le_refl _, by omega, h, fun i' h1 h2 => by omega⟩
    · rw [if_neg h]
      have h : p j = false := by simpa using h
      rcases low_cases p m (j + 1) with ⟨h1, h2⟩ | ⟨i, h1, h2, h3, h4, h5⟩
      · refine .inl ⟨h1, fun i g1 g2 => ?_⟩
        by_cases hij : i = j
        · subst hij; exact h
        · exact h2 i (by omega) (by omega)
      · refine .inr ⟨i, h1, by omega, by omega, h4, fun i' g1 g2 => ?_⟩
        by_cases hij : i' = j
        · subst hij; exact h
        · exact h5 i' (by omega) g2

/-- Node v may come next. -/
def avail (l : Arcs) (D : Nat → Bool) (v : Nat) : Bool := !D v && l.all fun a => a.2 != (v : Int) || D a.1.toNat
def nextO (n : Int) (l : Arcs) (D : Nat → Bool) : Int := low (avail l D) 0 n.toNat
/-- What was taken, and the order, after k nodes. -/
def ost (n : Int) (l : Arcs) : Nat → (Nat → Bool) × List Int
  | 0 => (fun _ => false, [])
  | k + 1 => if nextO n l (ost n l k).1 < 0 then ost n l k else (fun j => (ost n l k).1 j || j == (nextO n l (ost n l k).1).toNat, (ost n l k).2 ++ [nextO n l (ost n l k).1])
def orderR (n : Int) (l : Arcs) : List Int × Int := if gcheck n l ≠ 0 then ([], gcheck n l) else if (ost n l n.toNat).2.length < n.toNat then ([], 11) else ((ost n l n.toNat).2, 0)
theorem ost_len (n : Int) (l : Arcs) (k : Nat) : (ost n l k).2.length ≤ k := by
  induction k with
  | zero => simp [ost]
  | succ k ih => simp only [ost]; split
                 · omega
                 · simp; omega
theorem ost_stop (n : Int) (l : Arcs) {k : Nat} (h : nextO n l (ost n l k).1 < 0) : ∀ m, ost n l (k + m) = ost n l k
  | 0 => rfl
  | m + 1 => by
    have ih := ost_stop n l h m
    rw [show k + (m + 1) = (k + m) + 1 by omega]
    simp only [ost]
    rw [ih, if_pos h]
theorem ost_end (n : Int) (l : Arcs) {k N : Nat} (hk : k ≤ N) (h : nextO n l (ost n l k).1 < 0) : ost n l N = ost n l k := by
  have := ost_stop n l h (N - k)
  rwa [show k + (N - k) = N by omega] at this

def freeB (l : Arcs) (T : List Bool) (v : Int) : Bool := !T.getD v.toNat false && l.all fun a => a.2 != v || T.getD a.1.toNat false
theorem all_take {l : Arcs} {p : Int × Int → Bool} (k : Nat) (hk : k < l.length) : (l.take (k + 1)).all p = ((l.take k).all p && p (l.getD k (0, 0))) := by
  rw [take_succ_get l k (0, 0) hk, List.all_append]; simp
theorem free_vr {w u : Bool} (n : Int) (l : Arcs) (hl : l.length < 1000000) (T : List Bool) (hr : inR n l) (hT : (T.length : Int) = n) (v : Int) (h0 : 0 ≤ v) (h1 : v < n) :
    VR P false n_ref09_free [graphA w n l, .fs u (bools T), .v (.int .i64 v)] [] (isR (.v (.bool (freeB l T v)))) := by
  refine vr_ref09_free (by simp) (.inr rfl) fun _ _ => ?_
  unfold graphA
  cases hv : T.getD v.toNat false with
  | true =>
    simp (disch := ((try simp only [List.length_set, List.length_replicate, List.length_append, List.length_cons, List.length_nil]); omega)) only [aW, aX, aV, aB, aN, aL, aP, aH, s_ref09_free, v_ref09_free, r_ref09_free, hv]
    exact post_v ⟨by simp only [freeB, hv]; rfl, rfl⟩
  | false =>
    simp (disch := ((try simp only [List.length_set, List.length_replicate, List.length_append, List.length_cons, List.length_nil]); omega)) only [aW, aX, aV, aB, aN, aL, aP, aH, s_ref09_free, v_ref09_free, hv]
    refine AWP.loopP g_ref09_free_0 (fun k : Nat => k ≤ l.length ∧ (l.take k).all (fun a => a.2 != v || T.getD a.1.toNat false) = true) (fun k => [(3, .v (.bool false)), (5, .v (.int .i64 k))]) (fun _ => []) (fun k => l.length - k) 0 ⟨by omega, rfl⟩ (by refine Cut.of' (1) ?_ (by omega) ?_ ?_ <;> simp (disch := first | omega | simp (disch := omega) only [aF, aL, aN]) only [aW, aX, aV, aB, aN, aL, aP, aH, aF, Int.natCast_add, Int.natCast_mul, Int.add_sub_cancel, List.length_nil, Int.cast_ofNat_Int, and_true, true_and]) ?_
    rintro k ⟨hk, ha⟩
    by_cases hlt : k < l.length
    · have hmem : l.getD k (0, 0) ∈ l := by simp [List.getD_eq_getElem?_getD, hlt]
      obtain ⟨⟨r1, r2⟩, r3, r4⟩ := hr _ hmem
      by_cases h2 : (l.getD k (0, 0)).2 = v
      · cases h3 : T.getD (l.getD k (0, 0)).1.toNat false with
        | true =>
          simp (disch := ((try simp only [List.length_set, List.length_replicate, List.length_append, List.length_cons, List.length_nil]); omega)) only [aW, aX, aV, aB, aN, aL, aP, aH, h3]
          exact ⟨k + 1, ⟨by omega, by rw [all_take k hlt, ha, h3]; simp⟩, by omega, (by refine Cut.of' (1) ?_ (by omega) ?_ ?_ <;> simp (disch := first | omega | simp (disch := omega) only [aF, aL, aN]) only [aW, aX, aV, aB, aN, aL, aP, aH, aF, Int.natCast_add, Int.natCast_mul, Int.add_sub_cancel, List.length_nil, Int.cast_ofNat_Int, and_true, true_and])⟩
        | false =>
          simp (disch := ((try simp only [List.length_set, List.length_replicate, List.length_append, List.length_cons, List.length_nil]); omega)) only [aW, aX, aV, aB, aN, aL, aP, aH, h3, r_ref09_free]
          refine post_v ⟨?_, rfl⟩
          have : freeB l T v = false := by
            unfold freeB
            rw [Bool.and_eq_false_iff]
            refine .inr ?_
            rw [← Bool.not_eq_true, List.all_eq_true]
            intro hall
            have := hall _ hmem
            rw [h3, h2] at this; simp at this
          rw [this]
      · simp (disch := ((try simp only [List.length_set, List.length_replicate, List.length_append, List.length_cons, List.length_nil]); omega)) only [aW, aX, aV, aB, aN, aL, aP, aH]
        have h4 : ((l.getD k (0, 0)).2 != v) = true := by simpa using h2
        exact ⟨k + 1, ⟨by omega, by rw [all_take k hlt, ha, h4]; rfl⟩, by omega, (by refine Cut.of' (1) ?_ (by omega) ?_ ?_ <;> simp (disch := first | omega | simp (disch := omega) only [aF, aL, aN]) only [aW, aX, aV, aB, aN, aL, aP, aH, aF, Int.natCast_add, Int.natCast_mul, Int.add_sub_cancel, List.length_nil, Int.cast_ofNat_Int, and_true, true_and])⟩
    · have hkl : k = l.length := by omega
      subst hkl
      rw [List.take_length] at ha
      simp (disch := ((try simp only [List.length_set, List.length_replicate, List.length_append, List.length_cons, List.length_nil]); omega)) only [aW, aX, aV, aB, aN, aL, aP, aH, r_ref09_free]
      exact post_v ⟨by simp only [freeB, hv, ha]; rfl, rfl⟩
theorem free_tab (n : Int) {l : Arcs} (hr : inR n l) (D : Nat → Bool) {v : Nat} (hv : v < n.toNat) : freeB l (tab n.toNat D) v = avail l D v := by
  unfold freeB avail
  rw [Int.toNat_natCast, tab_get _ _ _ hv]
  congr 1
  rw [Bool.eq_iff_iff, List.all_eq_true, List.all_eq_true]
  refine forall_congr' fun a => forall_congr' fun ha => ?_
  have := hr a ha
  rw [tab_get _ _ _ (by omega)]

theorem refOrder_vr {w : Bool} (n : Int) (l : Arcs) : VR P false n_ref09_Order [graphA w n l] [] (isR (.tup [.fs true (ints (orderR n l).1), .v (.int .i64 (orderR n l).2)])) := by
  refine vr_ref09_Order (by simp) (.inr rfl) fun _ _ => ?_
  unfold graphA
  simp (disch := ((try simp only [List.length_set, List.length_replicate, List.length_append, List.length_cons, List.length_nil]); omega)) only [aW, aX, aV, aB, aN, aL, aP, aH, s_ref09_Order, v_ref09_Order]
  refine (refCheck_vr (w := w) n l).same (by unfold graphA; simp (disch := first | omega | simp (disch := omega) only [aF, aL, aN]) only [aW, aX, aV, aB, aN, aL, aP, aH, aF, Int.natCast_add, Int.natCast_mul, Int.add_sub_cancel, List.length_nil, Int.cast_ofNat_Int, and_true, true_and]) rfl (aret_of ?_)
  simp (disch := ((try simp only [List.length_set, List.length_replicate, List.length_append, List.length_cons, List.length_nil]); omega)) only [aW, aX, aV, aB, aN, aL, aP, aH]
  refine ib_intro (fun h1 => ?_) (fun h1 => ?_)
  · simp (disch := ((try simp only [List.length_set, List.length_replicate, List.length_append, List.length_cons, List.length_nil]); omega)) only [aW, aX, aV, aB, aN, aL, aP, aH, r_ref09_Order]
    refine post_err ⟨?_, rfl⟩
    unfold orderR; rw [if_pos h1]; rfl
  have h1 : gcheck n l = 0 := Classical.not_not.1 h1
  obtain ⟨c1, c2, c3, c4⟩ := gcheck_ok h1
  simp (disch := ((try simp only [List.length_set, List.length_replicate, List.length_append, List.length_cons, List.length_nil]); omega)) only [aW, aX, aV, aB, aN, aL, aP, aH]
  refine AWP.cut (Cut.virt 6 1 rfl) ?_
  refine AWP.loopP (α := Nat × Nat) g_ref09_Order_0 (fun p => p.1 ≤ n.toNat ∧ (ost n l p.1).2.length = p.1) (fun p => [(1, .v (.slice none 0 0)), (2, .v (.int .i64 0)), (6, .vs 2 p.2 1 p.1)]) (fun p => [(1, ⟨0, bools (tab n.toNat (ost n l p.1).1)⟩), (2, ⟨p.2, ints (ost n l p.1).2⟩)]) (fun p => n.toNat - p.1) (0, 0) (by simp [ost]) ?_ ?_
  · simp (disch := ((try simp only [List.length_set, List.length_replicate, List.length_append, List.length_cons, List.length_nil]); omega)) only [aW, aX, aV, aB, aN, aL, aP, aH, tab_rep, ost]
    exact Cut.of' 3 rfl (by omega) (by simp (disch := first | omega | simp (disch := omega) only [aF, aL, aN]) only [aW, aX, aV, aB, aN, aL, aP, aH, aF, Int.natCast_add, Int.natCast_mul, Int.add_sub_cancel, List.length_nil, Int.cast_ofNat_Int, and_true, true_and, ii_nil]) (by simp (disch := first | omega | simp (disch := omega) only [aF, aL, aN]) only [aW, aX, aV, aB, aN, aL, aP, aH, aF, Int.natCast_add, Int.natCast_mul, Int.add_sub_cancel, List.length_nil, Int.cast_ofNat_Int, and_true, true_and])
  rintro ⟨k, ver⟩ ⟨hk, hol⟩
  simp only at hk hol
  by_cases hlt : k < n.toNat
  · simp (disch := ((try simp only [List.length_set, List.length_replicate, List.length_append, List.length_cons, List.length_nil]); omega)) only [aW, aX, aV, aB, aN, aL, aP, aH]
    refine AWP.loopP g_ref09_Order_1 (fun m : Nat => m ≤ n.toNat) (fun m => [(7, .v (.int .i64 (low (avail l (ost n l k).1) (n.toNat - m) m))), (8, .v (.int .i64 (n - 1 - m)))]) (fun _ => []) (fun m => n.toNat - m) 0 (by omega) ?_ ?_
    · simp (disch := ((try simp only [List.length_set, List.length_replicate, List.length_append, List.length_cons, List.length_nil]); omega)) only [aW, aX, aV, aB, aN, aL, aP, aH]
      exact Cut.of' 3 rfl (by omega) (by simp (disch := first | omega | simp (disch := omega) only [aF, aL, aN]) only [aW, aX, aV, aB, aN, aL, aP, aH, aF, Int.natCast_add, Int.natCast_mul, Int.add_sub_cancel, List.length_nil, Int.cast_ofNat_Int, and_true, true_and]) (by simp (disch := first | omega | simp (disch := omega) only [aF, aL, aN]) only [aW, aX, aV, aB, aN, aL, aP, aH, aF, Int.natCast_add, Int.natCast_mul, Int.add_sub_cancel, List.length_nil, Int.cast_ofNat_Int, and_true, true_and, low, Int.sub_zero, Int.natCast_zero])
    rintro m hm
    by_cases hmt : m < n.toNat
    · have htl := tab_len n.toNat (ost n l k).1
      simp (disch := ((try simp only [List.length_set, List.length_replicate, List.length_append, List.length_cons, List.length_nil]); omega)) only [aW, aX, aV, aB, aN, aL, aP, aH]
      refine (free_vr (w := w) (u := false) n l (by omega) (tab n.toNat (ost n l k).1) c4 (by omega) (n - 1 - m) (by omega) (by omega)).use ⟨Ld.refl (by simp (disch := first | omega | simp (disch := omega) only [aF, aL, aN]) only [aW, aX, aV, aB, aN, aL, aP, aH, aF, Int.natCast_add, Int.natCast_mul, Int.add_sub_cancel, List.length_nil, Int.cast_ofNat_Int, and_true, true_and]), ld_slB _ 1 0 _ _ (by omega) (by simp (disch := ((try simp only [List.length_set, List.length_replicate, List.length_append, List.length_cons, List.length_nil]); omega)) only [aW, aX, aV, aB, aN, aL, aP, aH]), Ld.refl rfl, trivial⟩ rfl (aret_of ?_)
      have hfv : freeB l (tab n.toNat (ost n l k).1) (n - 1 - m) = avail l (ost n l k).1 (n.toNat - 1 - m) := by
        rw [← free_tab n c4 _ (by omega)]; congr 1; omega
      rw [hfv]
      have hlow : low (avail l (ost n l k).1) (n.toNat - (m + 1)) (m + 1) = if avail l (ost n l k).1 (n.toNat - 1 - m) = true then n - 1 - m else low (avail l (ost n l k).1) (n.toNat - m) m := by
        show (if avail l (ost n l k).1 (n.toNat - (m + 1)) = true then ((n.toNat - (m + 1) : Nat) : Int) else low _ (n.toNat - (m + 1) + 1) m) = _
        rw [show n.toNat - (m + 1) = n.toNat - 1 - m by omega, show n.toNat - 1 - m + 1 = n.toNat - m by omega]
        split
        · omega
        · rfl
      have e1 : n - 1 - (m : Int) - 1 = n - 1 - ((m + 1 : Nat) : Int) := by omega
      simp (disch := ((try simp only [List.length_set, List.length_replicate, List.length_append, List.length_cons, List.length_nil]); omega)) only [aW, aX, aV, aB, aN, aL, aP, aH]
      refine ib_split (fun h3 => ?_) (fun h3 => ?_)
      · rw [h3, if_pos rfl] at hlow
        simp (disch := ((try simp only [List.length_set, List.length_replicate, List.length_append, List.length_cons, List.length_nil]); omega)) only [aW, aX, aV, aB, aN, aL, aP, aH]
        refine ⟨m + 1, by omega, by omega, ?_⟩
        rw [hlow, e1]
        exact Cut.of' 3 rfl (by omega) (by simp (disch := first | omega | simp (disch := omega) only [aF, aL, aN]) only [aW, aX, aV, aB, aN, aL, aP, aH, aF, Int.natCast_add, Int.natCast_mul, Int.add_sub_cancel, List.length_nil, Int.cast_ofNat_Int, and_true, true_and]) (by simp (disch := first | omega | simp (disch := omega) only [aF, aL, aN]) only [aW, aX, aV, aB, aN, aL, aP, aH, aF, Int.natCast_add, Int.natCast_mul, Int.add_sub_cancel, List.length_nil, Int.cast_ofNat_Int, and_true, true_and])
      · rw [h3, if_neg (by simp)] at hlow
        simp (disch := ((try simp only [List.length_set, List.length_replicate, List.length_append, List.length_cons, List.length_nil]); omega)) only [aW, aX, aV, aB, aN, aL, aP, aH]
        refine ⟨m + 1, by omega, by omega, ?_⟩
        rw [hlow, e1]
        exact Cut.of' 3 rfl (by omega) (by simp (disch := first | omega | simp (disch := omega) only [aF, aL, aN]) only [aW, aX, aV, aB, aN, aL, aP, aH, aF, Int.natCast_add, Int.natCast_mul, Int.add_sub_cancel, List.length_nil, Int.cast_ofNat_Int, and_true, true_and]) (by simp (disch := first | omega | simp (disch := omega) only [aF, aL, aN]) only [aW, aX, aV, aB, aN, aL, aP, aH, aF, Int.natCast_add, Int.natCast_mul, Int.add_sub_cancel, List.length_nil, Int.cast_ofNat_Int, and_true, true_and])
    · have hmn : m = n.toNat := by omega
      subst hmn
      have hnx : low (avail l (ost n l k).1) (n.toNat - n.toNat) n.toNat = nextO n l (ost n l k).1 := by rw [Nat.sub_self]; rfl
      rw [hnx]
      by_cases hneg : nextO n l (ost n l k).1 < 0
      · simp (disch := ((try simp only [List.length_set, List.length_replicate, List.length_append, List.length_cons, List.length_nil]); omega)) only [aW, aX, aV, aB, aN, aL, aP, aH, r_ref09_Order]
        refine post_err ⟨?_, rfl⟩
        unfold orderR; rw [if_neg (by simp [h1]), ost_end n l hk hneg, if_pos (by omega)]; rfl
      · have hx : 0 ≤ nextO n l (ost n l k).1 ∧ nextO n l (ost n l k).1 < n := by
          rcases low_cases (avail l (ost n l k).1) n.toNat 0 with ⟨g1, _⟩ | ⟨i, g1, g2, g3, _⟩
          · exact absurd (show nextO n l (ost n l k).1 < 0 by unfold nextO; omega) hneg
          · unfold nextO; omega
        have htl := tab_len n.toNat (ost n l k).1
        have e1 : ost n l (k + 1) = (fun j => (ost n l k).1 j || j == (nextO n l (ost n l k).1).toNat, (ost n l k).2 ++ [nextO n l (ost n l k).1]) := by simp only [ost]; rw [if_neg hneg]
        have e2 := tab_set n.toNat (ost n l k).1 (nextO n l (ost n l k).1).toNat (by omega)
        simp (disch := ((try simp only [List.length_set, List.length_replicate, List.length_append, List.length_cons, List.length_nil]); omega)) only [aW, aX, aV, aB, aN, aL, aP, aH]
        refine ⟨(k + 1, ver + 1), ⟨by simp only; omega, by simp only [e1]; simp [hol]⟩, by simp only; omega, ?_⟩
        simp only [e1, ← e2]
        exact Cut.of' 3 rfl (by omega) (by simp (disch := first | omega | simp (disch := omega) only [aF, aL, aN]) only [aW, aX, aV, aB, aN, aL, aP, aH, aF, Int.natCast_add, Int.natCast_mul, Int.add_sub_cancel, List.length_nil, Int.cast_ofNat_Int, and_true, true_and]) (by simp (disch := first | omega | simp (disch := omega) only [aF, aL, aN]) only [aW, aX, aV, aB, aN, aL, aP, aH, aF, Int.natCast_add, Int.natCast_mul, Int.add_sub_cancel, List.length_nil, Int.cast_ofNat_Int, and_true, true_and])
  · have hkn : k = n.toNat := by omega
    subst hkn
    simp (disch := ((try simp only [List.length_set, List.length_replicate, List.length_append, List.length_cons, List.length_nil]); omega)) only [aW, aX, aV, aB, aN, aL, aP, aH, r_ref09_Order]
    refine post0 (r := .tup [.fs true (ints (ost n l n.toNat).2), .v (.int .i64 0)]) (Fz.tup ⟨fz_vsI _ _ _ _ _ _ (by omega) hol.symm (by simp (disch := ((try simp only [List.length_set, List.length_replicate, List.length_append, List.length_cons, List.length_nil]); omega)) only [aW, aX, aV, aB, aN, aL, aP, aH]), Fz.refl rfl, trivial⟩) ⟨?_, rfl⟩
    unfold orderR; rw [if_neg (by simp [h1]), if_neg (by omega)]
end Go.Proofs.Ytaiidcelopfjlaa
