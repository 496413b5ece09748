/- Lemmas and walks that the proof of GraphMore uses. No statement is claimed here. -/
import Derived.Test.YtegnnfbmbnpgdaaGraphMoreZai
namespace Go.Proofs.Ytegnnfbmbnpgdaa
open Go Go.Lft
set_option linter.unusedSimpArgs false
set_option linter.unusedVariables false
attribute [local congr] ob_congr bw_congr ib_congr ck_congr iwA_congr itA_congr aw_congr awp_congr sqA_congr bkA_congr vr_congr gd_congr

theorem FzL.app {m : Nat} {H : List Blk} : ∀ {l r l' r' : List A}, FzL m H l l' → FzL m H r r' → FzL m H (l ++ r) (l' ++ r')
  | [], r, [], r', _, h => h
  | a :: l, r, b :: l', r', h, k => ⟨h.1, FzL.app h.2 k⟩
  | [], _, _ :: _, _, h, _ => h.elim
  | _ :: _, _, [], _, h, _ => h.elim

/-- Truth values by number. -/
def tab (N : Nat) (D : Nat → Bool) : List Bool := (List.range N).map D
theorem tab_len (N : Nat) (D : Nat → Bool) : (tab N D).length = N := by simp [tab]
theorem tab_get (N : Nat) (D : Nat → Bool) (k : Nat) (h : k < N) : (tab N D).getD k false = D k := by simp [tab, List.getD_eq_getElem?_getD, h]
theorem tab_ext {N : Nat} {D E : Nat → Bool} (h : ∀ k, k < N → D k = E k) : tab N D = tab N E := by
  unfold tab; exact List.map_congr_left fun k hk => h k (List.mem_range.1 hk)
theorem tab_set (N : Nat) (D : Nat → Bool) (k : Nat) (h : k < N) : (tab N D).set k true = tab N (fun j => D j || j == k) := by
  apply List.ext_getElem (by simp [tab])
  intro i h1 h2
  simp only [tab, List.length_set, List.length_map, List.length_range] at h1
  rw [List.getElem_set]
  by_cases hk : k = i
  · subst hk; simp [tab]
  · have : (i == k) = false := by simpa using Ne.symm hk
    simp [tab, hk, this]
theorem tab_rep (N : Nat) : List.replicate N false = tab N fun _ => false := by
  apply List.ext_getElem (by simp [tab])
  intro i h1 h2
  simp [tab]

/-- Both ways lead. -/
def both (n : Int) (l : Arcs) (v k : Nat) : Bool := (reachL n l v).getD k false && (reachL n (backL l) v).getD k false
/-- The nodes from a to b - 1 that go with v. -/
def memb (n : Int) (l : Arcs) (v a b : Nat) : List Int := ((List.range b).filter fun j => decide (a ≤ j) && both n l v j).map Int.ofNat
theorem memb_succ (n : Int) (l : Arcs) (v a b : Nat) : memb n l v a (b + 1) = if a ≤ b ∧ both n l v b = true then memb n l v a b ++ [(b : Int)] else memb n l v a b := by
  unfold memb
  rw [List.range_succ, List.filter_append]
  by_cases h : a ≤ b ∧ both n l v b = true
  · simp [h]
  · rw [if_neg h]
    by_cases h1 : a ≤ b
    · have h2 : both n l v b = false := by simpa [h1] using h
      simp [h2]
    · simp [h1]
/-- What was done, and the groups, before node v. -/
def gst (n : Int) (l : Arcs) : Nat → (Nat → Bool) × List (List Int)
  | 0 => (fun _ => false, [])
  | v + 1 => if (gst n l v).1 v then gst n l v else (fun j => (gst n l v).1 j || both n l v j, (gst n l v).2 ++ [memb n l v 0 n.toNat])
def groupsR (n : Int) (l : Arcs) : List (List Int) × Int := if gcheck n l ≠ 0 then ([], gcheck n l) else ((gst n l n.toNat).2, 0)

theorem memb_len (n : Int) (l : Arcs) (v a b : Nat) : (memb n l v a b).length ≤ b := by
  unfold memb
  have := List.length_filter_le (fun j => decide (a ≤ j) && both n l v j) (List.range b)
  simpa using this
theorem gst_len (n : Int) (l : Arcs) (v : Nat) : (gst n l v).2.length ≤ v := by
  induction v with
  | zero => simp [gst]
  | succ v ih => simp only [gst]; split
                 · omega
                 · simp; omega

theorem groups_vr {w : Bool} (n : Int) (l : Arcs) : VR P false n_graph_Groups [graphA w n l] [] (isR (.tup [.fs true (rows true (groupsR n l).1), .v (.int .i64 (groupsR n l).2)])) := by
  refine vr_graph_Groups (by simp) (.inr rfl) fun _ _ => ?_
  unfold graphA
  simp (disch := ((try simp only [List.length_set, List.length_replicate, List.length_append, List.length_cons, List.length_nil]); omega)) only [aW, aX, aV, aB, aN, aL, aP, aH, s_graph_Groups, v_graph_Groups]
  refine (check_vr (w := w) n l).same (by unfold graphA; simp (disch := first | omega | simp (disch := omega) only [aF, aL, aN]) only [aW, aX, aV, aB, aN, aL, aP, aH, aF, Int.natCast_add, Int.natCast_mul, Int.add_sub_cancel, List.length_nil, Int.cast_ofNat_Int, and_true, true_and]) rfl (aret_of ?_)
  simp (disch := ((try simp only [List.length_set, List.length_replicate, List.length_append, List.length_cons, List.length_nil]); omega)) only [aW, aX, aV, aB, aN, aL, aP, aH]
  refine ib_intro (fun h1 => ?_) (fun h1 => ?_)
  · simp (disch := ((try simp only [List.length_set, List.length_replicate, List.length_append, List.length_cons, List.length_nil]); omega)) only [aW, aX, aV, aB, aN, aL, aP, aH, r_graph_Groups]
    refine post_err ⟨?_, rfl⟩
    unfold groupsR; rw [if_pos h1]; rfl
  have h1 : gcheck n l = 0 := Classical.not_not.1 h1
  obtain ⟨c1, c2, c3, c4⟩ := gcheck_ok h1
  simp (disch := ((try simp only [List.length_set, List.length_replicate, List.length_append, List.length_cons, List.length_nil]); omega)) only [aW, aX, aV, aB, aN, aL, aP, aH]
  refine AWP.cut (Cut.virt 5 1 rfl) ?_
  refine AWP.loopP (α := Nat × Nat) g_graph_Groups_0 (fun p => p.1 ≤ n.toNat) (fun p => [(5, .vs 2 p.2 1 (gst n l p.1).2.length), (7, .v (.int .i64 p.1))]) (fun p => [(1, ⟨0, bools (tab n.toNat (gst n l p.1).1)⟩), (2, ⟨p.2, rows true (gst n l p.1).2⟩)]) (fun p => n.toNat - p.1) (0, 0) (by simp) ?_ ?_
  · simp (disch := ((try simp only [List.length_set, List.length_replicate, List.length_append, List.length_cons, List.length_nil]); omega)) only [aW, aX, aV, aB, aN, aL, aP, aH, tab_rep, gst]
    exact Cut.of' 3 rfl (by omega) (by simp (disch := first | omega | simp (disch := omega) only [aF, aL, aN]) only [aW, aX, aV, aB, aN, aL, aP, aH, aF, Int.natCast_add, Int.natCast_mul, Int.add_sub_cancel, List.length_nil, Int.cast_ofNat_Int, and_true, true_and, r_nil]) (by simp (disch := first | omega | simp (disch := omega) only [aF, aL, aN]) only [aW, aX, aV, aB, aN, aL, aP, aH, aF, Int.natCast_add, Int.natCast_mul, Int.add_sub_cancel, List.length_nil, Int.cast_ofNat_Int, and_true, true_and])
  rintro ⟨v, ver⟩ hv
  simp only at hv
  have hol := gst_len n l v
  have htl := tab_len n.toNat (gst n l v).1
  by_cases hlt : v < n.toNat
  · have hg := tab_get n.toNat (gst n l v).1 v hlt
    cases hd : (gst n l v).1 v with
    | true =>
      simp (disch := ((try simp only [List.length_set, List.length_replicate, List.length_append, List.length_cons, List.length_nil]); omega)) only [aW, aX, aV, aB, aN, aL, aP, aH, hg, hd]
      refine ⟨(v + 1, ver), by simp only; omega, by simp only; omega, ?_⟩
      simp only [gst, hd, if_true]
      exact Cut.of' 3 rfl (by omega) (by simp (disch := first | omega | simp (disch := omega) only [aF, aL, aN]) only [aW, aX, aV, aB, aN, aL, aP, aH, aF, Int.natCast_add, Int.natCast_mul, Int.add_sub_cancel, List.length_nil, Int.cast_ofNat_Int, and_true, true_and]) (by simp (disch := first | omega | simp (disch := omega) only [aF, aL, aN]) only [aW, aX, aV, aB, aN, aL, aP, aH, aF, Int.natCast_add, Int.natCast_mul, Int.add_sub_cancel, List.length_nil, Int.cast_ofNat_Int, and_true, true_and])
    | false =>
      have vr : ∀ es, visitR n l es v = (reachL n es v, 0) := fun es => by unfold visitR; rw [if_neg (by simp [h1]), if_neg (by omega)]
      have hv1 := reach_vr (w := w) n l v
      have hv2 := back_vr (w := w) n l v
      rw [vr] at hv1 hv2
      have rl1 := reachL_len n l v
      have rl2 := reachL_len n (backL l) v
      simp (disch := ((try simp only [List.length_set, List.length_replicate, List.length_append, List.length_cons, List.length_nil]); omega)) only [aW, aX, aV, aB, aN, aL, aP, aH, hg, hd]
      refine hv1.same (by unfold graphA; simp (disch := first | omega | simp (disch := omega) only [aF, aL, aN]) only [aW, aX, aV, aB, aN, aL, aP, aH, aF, Int.natCast_add, Int.natCast_mul, Int.add_sub_cancel, List.length_nil, Int.cast_ofNat_Int, and_true, true_and]) (by simp (disch := first | omega | simp (disch := omega) only [aF, aL, aN]) only [aW, aX, aV, aB, aN, aL, aP, aH, aF, Int.natCast_add, Int.natCast_mul, Int.add_sub_cancel, List.length_nil, Int.cast_ofNat_Int, and_true, true_and]) (aret_of ?_)
      simp (disch := ((try simp only [List.length_set, List.length_replicate, List.length_append, List.length_cons, List.length_nil]); omega)) only [aW, aX, aV, aB, aN, aL, aP, aH]
      refine hv2.same (by unfold graphA; simp (disch := first | omega | simp (disch := omega) only [aF, aL, aN]) only [aW, aX, aV, aB, aN, aL, aP, aH, aF, Int.natCast_add, Int.natCast_mul, Int.add_sub_cancel, List.length_nil, Int.cast_ofNat_Int, and_true, true_and]) (by simp (disch := first | omega | simp (disch := omega) only [aF, aL, aN]) only [aW, aX, aV, aB, aN, aL, aP, aH, aF, Int.natCast_add, Int.natCast_mul, Int.add_sub_cancel, List.length_nil, Int.cast_ofNat_Int, and_true, true_and]) (aret_of ?_)
      simp (disch := ((try simp only [List.length_set, List.length_replicate, List.length_append, List.length_cons, List.length_nil]); omega)) only [aW, aX, aV, aB, aN, aL, aP, aH]
      refine AWP.cut (Cut.virt 15 1 rfl) ?_
      refine AWP.loopP (α := Nat × Nat) g_graph_Groups_1 (fun p => p.1 ≤ n.toNat) (fun p => [(15, .vs 3 p.2 1 (memb n l v 0 p.1).length), (16, .v (.int .i64 p.1))]) (fun p => [(1, ⟨0, bools (tab n.toNat (fun j => (gst n l v).1 j || (decide (j < p.1) && both n l v j)))⟩), (3, ⟨p.2, ints (memb n l v 0 p.1)⟩)]) (fun p => n.toNat - p.1) (0, 0) (by simp) ?_ ?_
      · have e0 : (fun j => (gst n l v).1 j || (decide (j < 0) && both n l v j)) = (gst n l v).1 := by funext j; simp
        have e1 : memb n l v 0 0 = [] := rfl
        simp (disch := ((try simp only [List.length_set, List.length_replicate, List.length_append, List.length_cons, List.length_nil]); omega)) only [aW, aX, aV, aB, aN, aL, aP, aH]
        exact Cut.of' 4 rfl (by omega) (by simp (disch := first | omega | simp (disch := omega) only [aF, aL, aN]) only [aW, aX, aV, aB, aN, aL, aP, aH, aF, Int.natCast_add, Int.natCast_mul, Int.add_sub_cancel, List.length_nil, Int.cast_ofNat_Int, and_true, true_and, e0, e1, ii_nil]) (by simp (disch := first | omega | simp (disch := omega) only [aF, aL, aN]) only [aW, aX, aV, aB, aN, aL, aP, aH, aF, Int.natCast_add, Int.natCast_mul, Int.add_sub_cancel, List.length_nil, Int.cast_ofNat_Int, and_true, true_and, e1])
      rintro ⟨k, vk⟩ hk
      simp only at hk
      have hml := memb_len n l v 0 k
      have htk := tab_len n.toNat (fun j => (gst n l v).1 j || (decide (j < k) && both n l v j))
      by_cases hkt : k < n.toNat
      · simp (disch := ((try simp only [List.length_set, List.length_replicate, List.length_append, List.length_cons, List.length_nil]); omega)) only [aW, aX, aV, aB, aN, aL, aP, aH]
        refine ib_split (fun h3 => ?_) (fun h3 => ?_)
        · have h3' : both n l v k = true := h3
          simp (disch := ((try simp only [List.length_set, List.length_replicate, List.length_append, List.length_cons, List.length_nil]); omega)) only [aW, aX, aV, aB, aN, aL, aP, aH]
          refine ⟨(k + 1, vk + 1), by simp only; omega, by simp only; omega, ?_⟩
          have e1 : memb n l v 0 (k + 1) = memb n l v 0 k ++ [(k : Int)] := by rw [memb_succ, if_pos ⟨by omega, h3'⟩]
          have e2 : tab n.toNat (fun j => (gst n l v).1 j || (decide (j < k + 1) && both n l v j)) = (tab n.toNat (fun j => (gst n l v).1 j || (decide (j < k) && both n l v j))).set k true := by
            rw [tab_set _ _ _ hkt]
            refine tab_ext fun j _ => ?_
            by_cases hjk : j = k
            · subst hjk; simp [h3']
            · simp only [show (decide (j < k + 1)) = decide (j < k) by simp; omega, show (j == k) = false by simpa using hjk, Bool.or_false]
          simp only [e1, e2]
          try simp (disch := ((try simp only [List.length_set, List.length_replicate, List.length_append, List.length_cons, List.length_nil]); omega)) only [aW, aX, aV, aB, aN, aL, aP, aH]
          exact Cut.of' 4 rfl (by omega) (by simp (disch := first | omega | simp (disch := omega) only [aF, aL, aN]) only [aW, aX, aV, aB, aN, aL, aP, aH, aF, Int.natCast_add, Int.natCast_mul, Int.add_sub_cancel, List.length_nil, Int.cast_ofNat_Int, and_true, true_and]) (by simp (disch := first | omega | simp (disch := omega) only [aF, aL, aN]) only [aW, aX, aV, aB, aN, aL, aP, aH, aF, Int.natCast_add, Int.natCast_mul, Int.add_sub_cancel, List.length_nil, Int.cast_ofNat_Int, and_true, true_and])
        · have h3' : both n l v k = false := h3
          simp (disch := ((try simp only [List.length_set, List.length_replicate, List.length_append, List.length_cons, List.length_nil]); omega)) only [aW, aX, aV, aB, aN, aL, aP, aH]
          refine ⟨(k + 1, vk), by simp only; omega, by simp only; omega, ?_⟩
          have e1 : memb n l v 0 (k + 1) = memb n l v 0 k := by rw [memb_succ, if_neg (by simp [h3'])]
          have e2 : tab n.toNat (fun j => (gst n l v).1 j || (decide (j < k + 1) && both n l v j)) = tab n.toNat (fun j => (gst n l v).1 j || (decide (j < k) && both n l v j)) := by
            refine tab_ext fun j _ => ?_
            by_cases hjk : j = k
            · subst hjk; simp [h3']
            · simp only [show (decide (j < k + 1)) = decide (j < k) by simp; omega]
          simp only [e1, e2]
          try simp (disch := ((try simp only [List.length_set, List.length_replicate, List.length_append, List.length_cons, List.length_nil]); omega)) only [aW, aX, aV, aB, aN, aL, aP, aH]
          exact Cut.of' 4 rfl (by omega) (by simp (disch := first | omega | simp (disch := omega) only [aF, aL, aN]) only [aW, aX, aV, aB, aN, aL, aP, aH, aF, Int.natCast_add, Int.natCast_mul, Int.add_sub_cancel, List.length_nil, Int.cast_ofNat_Int, and_true, true_and]) (by simp (disch := first | omega | simp (disch := omega) only [aF, aL, aN]) only [aW, aX, aV, aB, aN, aL, aP, aH, aF, Int.natCast_add, Int.natCast_mul, Int.add_sub_cancel, List.length_nil, Int.cast_ofNat_Int, and_true, true_and])
      · have hkn : k = n.toNat := by omega
        subst hkn
        simp (disch := ((try simp only [List.length_set, List.length_replicate, List.length_append, List.length_cons, List.length_nil]); omega)) only [aW, aX, aV, aB, aN, aL, aP, aH]
        refine ⟨(v + 1, ver + 1), by simp only; omega, by simp only; omega, ?_⟩
        have e1 : gst n l (v + 1) = (fun j => (gst n l v).1 j || both n l v j, (gst n l v).2 ++ [memb n l v 0 n.toNat]) := by simp [gst, hd]
        have e2 : tab n.toNat (fun j => (gst n l v).1 j || both n l v j) = tab n.toNat (fun j => (gst n l v).1 j || (decide (j < n.toNat) && both n l v j)) := tab_ext fun j hj => by simp [hj]
        simp only [e1, e2]
        try simp (disch := ((try simp only [List.length_set, List.length_replicate, List.length_append, List.length_cons, List.length_nil]); omega)) only [aW, aX, aV, aB, aN, aL, aP, aH]
        have z : ∀ H : List Blk, blkAt H 3 vk = some (ints (memb n l v 0 n.toNat)) → FzL 3 H (rows true (gst n l v).2 ++ [.vs 3 vk 1 (memb n l v 0 n.toNat).length]) (rows true ((gst n l v).2 ++ [memb n l v 0 n.toNat])) := fun H hH => by
          rw [← r_app1]; exact FzL.app (FzL.refl (r_bd _ _ _)) ⟨fz_vsI _ _ _ _ _ _ (by omega) rfl hH, trivial⟩
        refine Cut.of' 3 rfl (by omega) ⟨rfl, by simp (disch := first | omega | simp (disch := omega) only [aF, aL, aN]) only [aW, aX, aV, aB, aN, aL, aP, aH, aF, Int.natCast_add, Int.natCast_mul, Int.add_sub_cancel, List.length_nil, Int.cast_ofNat_Int, and_true, true_and], rfl, by simp (disch := first | omega | simp (disch := omega) only [aF, aL, aN]) only [aW, aX, aV, aB, aN, aL, aP, aH, aF, Int.natCast_add, Int.natCast_mul, Int.add_sub_cancel, List.length_nil, Int.cast_ofNat_Int, and_true, true_and], rfl, z _ (by simp (disch := ((try simp only [List.length_set, List.length_replicate, List.length_append, List.length_cons, List.length_nil]); omega)) only [aW, aX, aV, aB, aN, aL, aP, aH]), trivial⟩ (by simp (disch := first | omega | simp (disch := omega) only [aF, aL, aN]) only [aW, aX, aV, aB, aN, aL, aP, aH, aF, Int.natCast_add, Int.natCast_mul, Int.add_sub_cancel, List.length_nil, Int.cast_ofNat_Int, and_true, true_and])
  · have hvn : v = n.toNat := by omega
    subst hvn
    simp (disch := ((try simp only [List.length_set, List.length_replicate, List.length_append, List.length_cons, List.length_nil]); omega)) only [aW, aX, aV, aB, aN, aL, aP, aH, r_graph_Groups]
    refine post0 (r := .tup [.fs true (rows true (gst n l n.toNat).2), .v (.int .i64 0)]) (Fz.tup ⟨fz_vsR _ _ _ _ _ _ (by omega) rfl (by simp (disch := ((try simp only [List.length_set, List.length_replicate, List.length_append, List.length_cons, List.length_nil]); omega)) only [aW, aX, aV, aB, aN, aL, aP, aH]), Fz.refl rfl, trivial⟩) ⟨?_, rfl⟩
    unfold groupsR; rw [if_neg (by simp [h1])]
end Go.Proofs.Ytegnnfbmbnpgdaa
namespace Go.Proofs.Ytegnnfbmbnpgdaa
open Go Go.Lft
set_option linter.unusedSimpArgs false
set_option linter.unusedVariables false
attribute [local congr] ob_congr bw_congr ib_congr ck_congr iwA_congr itA_congr aw_congr awp_congr sqA_congr bkA_congr vr_congr gd_congr

/-- The least number from j on, of m, with p; or -1. -/
def low (p : Nat → Bool) : Nat → Nat → Int
  | _, 0 => -1
  | j, m + 1 => if p j then (j : Int) else low p (j + 1) m
theorem low_cases (p : Nat → Bool) : ∀ (m j : Nat), (low p j m = -1 ∧ ∀ i, j ≤ i → i < j + m → p i = false) ∨ ∃ i : Nat, low p j m = i ∧ j ≤ i ∧ i < j + m ∧ p i = true ∧ ∀ i', j ≤ i' → i' < i → p i' = false
  | 0, j => .inl ⟨rfl, fun i h1 h2 => by omega⟩
  | m + 1, j => by
    unfold low
    by_cases h : p j = true
    · rw [if_pos h]; exact .inr ⟨j, rfl, Nat.le_refl _, by omega, h, fun i' h1 h2 => by omega⟩
    · rw [if_neg h]
      have h : p j = false := by simpa using h
      rcases low_cases p m (j + 1) with ⟨h1, h2⟩ | ⟨i, h1, h2, h3, h4, h5⟩
      · refine .inl ⟨h1, fun i g1 g2 => ?_⟩
        by_cases hij : i = j
        · subst hij; exact h
        · exact h2 i (by omega) (by omega)
      · refine .inr ⟨i, h1, by omega, by omega, h4, fun i' g1 g2 => ?_⟩
        by_cases hij : i' = j
        · subst hij; exact h
        · exact h5 i' (by omega) g2

/-- Node v may come next. -/
def avail (l : Arcs) (D : Nat → Bool) (v : Nat) : Bool := !D v && l.all fun a => a.2 != (v : Int) || D a.1.toNat
def nextO (n : Int) (l : Arcs) (D : Nat → Bool) : Int := low (avail l D) 0 n.toNat
/-- What was taken, and the order, after k nodes. -/
def ost (n : Int) (l : Arcs) : Nat → (Nat → Bool) × List Int
  | 0 => (fun _ => false, [])
  | k + 1 => if nextO n l (ost n l k).1 < 0 then ost n l k else (fun j => (ost n l k).1 j || j == (nextO n l (ost n l k).1).toNat, (ost n l k).2 ++ [nextO n l (ost n l k).1])
def orderR (n : Int) (l : Arcs) : List Int × Int := if gcheck n l ≠ 0 then ([], gcheck n l) else if (ost n l n.toNat).2.length < n.toNat then ([], 11) else ((ost n l n.toNat).2, 0)
theorem ost_len (n : Int) (l : Arcs) (k : Nat) : (ost n l k).2.length ≤ k := by
  induction k with
  | zero => simp [ost]
  | succ k ih => simp only [ost]; split
                 · omega
                 · simp; omega
theorem ost_stop (n : Int) (l : Arcs) {k : Nat} (h : nextO n l (ost n l k).1 < 0) : ∀ m, ost n l (k + m) = ost n l k
  | 0 => rfl
  | m + 1 => by
    have ih := ost_stop n l h m
    rw [show k + (m + 1) = (k + m) + 1 by omega]
    simp only [ost]
    rw [ih, if_pos h]
theorem ost_end (n : Int) (l : Arcs) {k N : Nat} (hk : k ≤ N) (h : nextO n l (ost n l k).1 < 0) : ost n l N = ost n l k := by
  have := ost_stop n l h (N - k)
  rwa [show k + (N - k) = N by omega] at this

end Go.Proofs.Ytegnnfbmbnpgdaa
namespace Go.Proofs.Ytegnnfbmbnpgdaa
open Go Go.Lft
set_option linter.unusedSimpArgs false
attribute [local congr] ob_congr bw_congr ib_congr ck_congr iwA_congr itA_congr aw_congr awp_congr sqA_congr bkA_congr vr_congr gd_congr

abbrev IP := Int × Int
def qlt (a b : IP) : Prop := a.1 < b.1 ∨ (a.2 < b.2 ∧ ¬ b.1 < a.1)
instance (a b : IP) : Decidable (qlt a b) := inferInstanceAs (Decidable (a.1 < b.1 ∨ (a.2 < b.2 ∧ ¬ b.1 < a.1)))
/-- f is the order '<' of numbers. -/
def IsLt (f : Nat) : Prop := bodied P f = true ∧ ∀ (a b : Int), VR P false f [.v (.int .i64 a), .v (.int .i64 b)] [] (isR (.v (.bool (decide (a < b)))))

theorem order1_vr (a b : Int) : VR P false n_graph_Order_1 [.v (.int .i64 a), .v (.int .i64 b)] [] (isR (.v (.bool (decide (a < b))))) := by
  refine vr_graph_Order_1 (by simp) (.inr rfl) fun _ _ => ?_
  simp (disch := ((try simp only [List.length_set, List.length_replicate, List.length_append, List.length_cons, List.length_nil]); omega)) only [aW, aX, aV, aB, aN, aL, aP, aH, s_graph_Order_1, v_graph_Order_1, r_graph_Order_1]
  exact post_v ⟨rfl, rfl⟩
theorem order1_lt : IsLt n_graph_Order_1 := ⟨by kernel_rfl, fun a b => order1_vr a b⟩

/-- A queue that is only read. -/
def qA (w v : Bool) (f : Nat) (hs : List IP) (c : Int) : A := .fp w [.fn f [], .fs v (pairs hs), .v (.int .i64 c)]

theorem qlen_vr {w v : Bool} (f : Nat) (hs : List IP) (c : Int) : VR P false n_pqueue_Queue_Len [qA w v f hs c] [] (isR (.v (.int .i64 hs.length))) := by
  refine vr_pqueue_Queue_Len (by simp) (.inr rfl) fun _ _ => ?_
  unfold qA
  simp (disch := ((try simp only [List.length_set, List.length_replicate, List.length_append, List.length_cons, List.length_nil]); omega)) only [aW, aX, aV, aB, aN, aL, aP, aH, s_pqueue_Queue_Len, v_pqueue_Queue_Len, r_pqueue_Queue_Len]
  exact post_v ⟨rfl, rfl⟩

theorem qpeek_vr {w v : Bool} (f : Nat) (hs : List IP) (c : Int) : VR P false n_pqueue_Queue_Peek [qA w v f hs c] [] (isR (.tup [.v (.int .i64 (hs.getD 0 (0, 0)).1), .v (.bool (decide (0 < hs.length)))])) := by
  refine vr_pqueue_Queue_Peek (by simp) (.inr rfl) fun _ _ => ?_
  simp (disch := ((try simp only [List.length_set, List.length_replicate, List.length_append, List.length_cons, List.length_nil]); omega)) only [aW, aX, aV, aB, aN, aL, aP, aH, s_pqueue_Queue_Peek, v_pqueue_Queue_Peek]
  refine (qlen_vr f hs c).same (by unfold qA; simp (disch := first | omega | simp (disch := omega) only [aF, aL, aN]) only [aW, aX, aV, aB, aN, aL, aP, aH, aF, Int.natCast_add, Int.natCast_mul, Int.add_sub_cancel, List.length_nil, Int.cast_ofNat_Int, and_true, true_and]) rfl (aret_of ?_)
  unfold qA
  simp (disch := ((try simp only [List.length_set, List.length_replicate, List.length_append, List.length_cons, List.length_nil]); omega)) only [aW, aX, aV, aB, aN, aL, aP, aH]
  refine ib_intro (fun h1 => ?_) (fun h1 => ?_)
  · have h0 : hs = [] := List.length_eq_zero_iff.1 (by omega)
    subst h0
    simp (disch := ((try simp only [List.length_set, List.length_replicate, List.length_append, List.length_cons, List.length_nil]); omega)) only [aW, aX, aV, aB, aN, aL, aP, aH, r_pqueue_Queue_Peek]
    exact post0 (Fz.refl rfl) ⟨rfl, rfl⟩
  · have h0 : decide (0 < hs.length) = true := by simp; omega
    simp (disch := ((try simp only [List.length_set, List.length_replicate, List.length_append, List.length_cons, List.length_nil]); omega)) only [aW, aX, aV, aB, aN, aL, aP, aH, r_pqueue_Queue_Peek, h0]
    exact post0 (Fz.refl rfl) ⟨rfl, rfl⟩

theorem qbefore_vr {w v : Bool} {f : Nat} (hf : IsLt f) (hs : List IP) (c : Int) (i k : Int) (h1 : 0 ≤ i) (h2 : i < hs.length) (h3 : 0 ≤ k) (h4 : k < hs.length) :
    VR P false n_pqueue_Queue_before [qA w v f hs c, .v (.int .i64 i), .v (.int .i64 k)] [] (isR (.v (.bool (decide (qlt (hs.getD i.toNat (0, 0)) (hs.getD k.toNat (0, 0))))))) := by
  refine vr_pqueue_Queue_before (by simp) (.inr rfl) fun _ _ => ?_
  unfold qA
  simp (disch := ((try simp only [List.length_set, List.length_replicate, List.length_append, List.length_cons, List.length_nil]); omega)) only [aW, aX, aV, aB, aN, aL, aP, aH, s_pqueue_Queue_before, v_pqueue_Queue_before]
  refine ⟨⟨⟨hf.1, ?_⟩, ⟨hf.1, ?_⟩⟩, ⟨hf.1, ?_⟩⟩
  all_goals
    refine (hf.2 _ _).same (by simp (disch := first | omega | simp (disch := omega) only [aF, aL, aN]) only [aW, aX, aV, aB, aN, aL, aP, aH, aF, Int.natCast_add, Int.natCast_mul, Int.add_sub_cancel, List.length_nil, Int.cast_ofNat_Int, and_true, true_and]) rfl (aret_of ?_)
    simp (disch := ((try simp only [List.length_set, List.length_replicate, List.length_append, List.length_cons, List.length_nil]); omega)) only [aW, aX, aV, aB, aN, aL, aP, aH]
    refine ib_intro (fun h5 => ?_) (fun h5 => ?_)
    · simp (disch := ((try simp only [List.length_set, List.length_replicate, List.length_append, List.length_cons, List.length_nil]); omega)) only [aW, aX, aV, aB, aN, aL, aP, aH, r_pqueue_Queue_before]
      exact post_v ⟨vtrue (.inl h5), rfl⟩
    · simp (disch := ((try simp only [List.length_set, List.length_replicate, List.length_append, List.length_cons, List.length_nil]); omega)) only [aW, aX, aV, aB, aN, aL, aP, aH]
      refine ib_intro (fun h6 => ?_) (fun h6 => ?_)
      · simp (disch := ((try simp only [List.length_set, List.length_replicate, List.length_append, List.length_cons, List.length_nil]); omega)) only [aW, aX, aV, aB, aN, aL, aP, aH]
        refine ⟨hf.1, (hf.2 _ _).same (by simp (disch := first | omega | simp (disch := omega) only [aF, aL, aN]) only [aW, aX, aV, aB, aN, aL, aP, aH, aF, Int.natCast_add, Int.natCast_mul, Int.add_sub_cancel, List.length_nil, Int.cast_ofNat_Int, and_true, true_and]) rfl (aret_of ?_)⟩
        simp (disch := ((try simp only [List.length_set, List.length_replicate, List.length_append, List.length_cons, List.length_nil]); omega)) only [aW, aX, aV, aB, aN, aL, aP, aH, r_pqueue_Queue_before]
        exact post_v ⟨vdec (by simp only [qlt, h5, h6, false_or, true_and]), rfl⟩
      · simp (disch := ((try simp only [List.length_set, List.length_replicate, List.length_append, List.length_cons, List.length_nil]); omega)) only [aW, aX, aV, aB, aN, aL, aP, aH, r_pqueue_Queue_before]
        exact post_v ⟨vfalse (by simp only [qlt, h5, h6, false_or, false_and, not_false_eq_true]), rfl⟩
end Go.Proofs.Ytegnnfbmbnpgdaa
namespace Go.Proofs.Ytegnnfbmbnpgdaa
open Go Go.Lft
set_option linter.unusedSimpArgs false
set_option linter.unusedVariables false

abbrev ipd : IP := (0, 0)
def swapL (l : List IP) (a b : Nat) : List IP := (l.set a (l.getD b ipd)).set b (l.getD a ipd)
theorem swapL_len (l : List IP) (a b : Nat) : (swapL l a b).length = l.length := by simp [swapL]
theorem getD_setP (l : List IP) (i j : Nat) (y : IP) (hi : i < l.length) : (l.set i y).getD j ipd = if i = j then y else l.getD j ipd := by
  simp only [List.getD_eq_getElem?_getD, List.getElem?_set]
  split
  · simp [hi]
  · rfl
theorem swapL_get (l : List IP) (a b k : Nat) (ha : a < l.length) (hb : b < l.length) : (swapL l a b).getD k ipd = if b = k then l.getD a ipd else if a = k then l.getD b ipd else l.getD k ipd := by
  unfold swapL
  rw [getD_setP _ _ _ _ (by simpa using hb), getD_setP _ _ _ _ ha]
theorem swapL_perm (l : List IP) (a b : Nat) (ha : a < l.length) (hb : b < l.length) : (swapL l a b).Perm l := by
  have h := Array.perm_iff_toList_perm.1 (Array.swap_perm (xs := l.toArray) (i := a) (j := b) (by simpa using ha) (by simpa using hb))
  rw [Array.toList_swap] at h
  simpa [swapL, ha, hb] using h
theorem swapL_take (l : List IP) (n a b : Nat) (ha : a < n) (hb : b < n) (hn : n ≤ l.length) : (swapL l a b).take n = swapL (l.take n) a b := by
  unfold swapL
  have h1 : (l.take n).getD b ipd = l.getD b ipd := by simp [List.getD_eq_getElem?_getD, List.getElem?_take, hb]
  have h2 : (l.take n).getD a ipd = l.getD a ipd := by simp [List.getD_eq_getElem?_getD, List.getElem?_take, ha]
  rw [h1, h2, List.take_set, List.take_set]

theorem qlt_trans {a b c : IP} (h : qlt a b) (k : qlt b c) : qlt a c := by unfold qlt at *; omega
theorem qlt_tri {a b c : IP} (h : ¬ qlt a b) (k : ¬ qlt b c) : ¬ qlt a c := by unfold qlt at *; omega
theorem qlt_irr (a : IP) : ¬ qlt a a := by unfold qlt; omega
theorem qlt_asymm {a b : IP} (h : qlt a b) : ¬ qlt b a := by unfold qlt at *; omega

def par (k : Nat) : Nat := (k - 1) / 2
def Heap2 (l : List IP) : Prop := ∀ k, 0 < k → k < l.length → ¬ qlt (l.getD k ipd) (l.getD (par k) ipd)
/-- A heap but for what lies above m. -/
def HeapUp (l : List IP) (m : Nat) : Prop := (∀ k, 0 < k → k < l.length → k ≠ m → ¬ qlt (l.getD k ipd) (l.getD (par k) ipd)) ∧ ∀ k, 0 < k → k < l.length → par k = m → 0 < m → ¬ qlt (l.getD k ipd) (l.getD (par m) ipd)
theorem up_done {l : List IP} {m : Nat} (h : HeapUp l m) (hm : m = 0 ∨ ¬ qlt (l.getD m ipd) (l.getD (par m) ipd)) : Heap2 l := fun k h1 h2 => by
  by_cases hk : k = m
  · subst hk; rcases hm with hm | hm
    · omega
    · exact hm
  · exact h.1 k h1 h2 hk
theorem up_step {l : List IP} {m : Nat} (h : HeapUp l m) (h0 : 0 < m) (hm : m < l.length) (hlt : qlt (l.getD m ipd) (l.getD (par m) ipd)) : HeapUp (swapL l m (par m)) (par m) := by
  have hp : par m < m := by unfold par; omega
  have g := fun k => swapL_get l m (par m) k hm (by omega)
  refine ⟨fun k h1 h2 h3 => ?_, fun k h1 h2 h3 h4 => ?_⟩
  · rw [swapL_len] at h2
    rw [g k, g (par k)]
    have hpk : par k < k := by unfold par; omega
    by_cases hk : m = k
    · subst hk
      rw [if_neg (by omega), if_pos rfl, if_pos rfl]
      exact qlt_asymm hlt
    · rw [if_neg (Ne.symm h3), if_neg hk]
      by_cases h5 : par m = par k
      · rw [if_pos h5]
        intro hc
        have h6 := h.1 k h1 h2 (Ne.symm hk)
        rw [← h5] at h6
        exact h6 (qlt_trans hc hlt)
      · rw [if_neg h5]
        by_cases h6 : m = par k
        · rw [if_pos h6]; exact h.2 k h1 h2 h6.symm h0
        · rw [if_neg h6]; exact h.1 k h1 h2 (Ne.symm hk)
  · rw [swapL_len] at h2
    have hpp : par (par m) < par m := by unfold par at *; omega
    have h7 := h.1 (par m) h4 (by omega) (by omega)
    rw [g k, g (par (par m)), if_neg (by omega : par m ≠ par (par m)), if_neg (by omega : m ≠ par (par m))]
    by_cases hk : m = k
    · subst hk
      rw [if_neg (by omega), if_pos rfl]; exact h7
    · have hpk : par k < k := by unfold par; omega
      rw [if_neg (by omega), if_neg hk]
      have h8 := h.1 k h1 h2 (Ne.symm hk)
      rw [h3] at h8
      exact qlt_tri h8 h7
theorem up_start {l : List IP} (x : IP) (h : Heap2 l) : HeapUp (l ++ [x]) l.length := by
  have g : ∀ k, k < l.length → (l ++ [x]).getD k ipd = l.getD k ipd := fun k hk => by simp [List.getD_eq_getElem?_getD, List.getElem?_append_left hk]
  refine ⟨fun k h1 h2 h3 => ?_, fun k h1 h2 h3 h4 => ?_⟩
  · simp at h2
    have hk : k < l.length := by omega
    rw [g k hk, g (par k) (by unfold par; omega)]
    exact h k h1 hk
  · simp at h2; unfold par at h3; omega

/-- A heap but for what lies below m. -/
def HeapDn (l : List IP) (m : Nat) : Prop := (∀ k, 0 < k → k < l.length → par k ≠ m → ¬ qlt (l.getD k ipd) (l.getD (par k) ipd)) ∧ ∀ k, 0 < k → k < l.length → par k = m → 0 < m → ¬ qlt (l.getD k ipd) (l.getD (par m) ipd)
theorem dn_done {l : List IP} {m : Nat} (h : HeapDn l m) (hm : ∀ k, 0 < k → k < l.length → par k = m → ¬ qlt (l.getD k ipd) (l.getD m ipd)) : Heap2 l := fun k h1 h2 => by
  by_cases hk : par k = m
  · rw [hk]; exact hm k h1 h2 hk
  · exact h.1 k h1 h2 hk
theorem dn_step {l : List IP} {m q : Nat} (h : HeapDn l m) (hq : par q = m) (h0 : 0 < q) (hl : q < l.length) (hlt : qlt (l.getD q ipd) (l.getD m ipd))
    (hm : ∀ k, 0 < k → k < l.length → par k = m → ¬ qlt (l.getD k ipd) (l.getD q ipd)) : HeapDn (swapL l m q) q := by
  have hp : m < q := by unfold par at hq; omega
  have g := fun k => swapL_get l m q k (by omega) hl
  refine ⟨fun k h1 h2 h3 => ?_, fun k h1 h2 h3 h4 => ?_⟩
  · rw [swapL_len] at h2
    rw [g k, g (par k), if_neg (Ne.symm h3)]
    have hpk : par k < k := by unfold par; omega
    by_cases hk : q = k
    · subst hk
      rw [if_pos rfl, if_pos hq.symm]; exact qlt_asymm hlt
    · rw [if_neg hk]
      by_cases hkm : m = k
      · subst hkm
        rw [if_pos rfl, if_neg (by omega)]
        exact h.2 q h0 hl hq h1
      · rw [if_neg hkm]
        by_cases h5 : m = par k
        · rw [if_pos h5]; exact hm k h1 h2 h5.symm
        · rw [if_neg h5]; exact h.1 k h1 h2 (Ne.symm h5)
  · rw [swapL_len] at h2
    have hpk : par k < k := by unfold par; omega
    rw [g k, g (par q), if_neg (by omega), if_neg (by omega), hq, if_neg (by omega), if_pos rfl]
    have := h.1 k h1 h2 (by omega)
    rw [h3] at this; exact this
/-- The first and the last are exchanged, and the last is taken off. -/
theorem dn_start {l : List IP} (h : Heap2 l) (h0 : 0 < l.length) : HeapDn ((swapL l 0 (l.length - 1)).take (l.length - 1)) 0 := by
  have g := fun k => swapL_get l 0 (l.length - 1) k h0 (by omega)
  have gt : ∀ k, k < l.length - 1 → ((swapL l 0 (l.length - 1)).take (l.length - 1)).getD k ipd = (swapL l 0 (l.length - 1)).getD k ipd := fun k hk => by simp [List.getD_eq_getElem?_getD, List.getElem?_take, hk]
  refine ⟨fun k h1 h2 h3 => ?_, fun k h1 h2 h3 h4 => by omega⟩
  simp [swapL_len] at h2
  have hpk : par k < k := by unfold par; omega
  rw [gt k (by omega), gt (par k) (by omega), g k, g (par k), if_neg (by omega), if_neg (by omega), if_neg (by omega), if_neg (Ne.symm h3)]
  exact h k h1 (by omega)
theorem heap_min {l : List IP} (h : Heap2 l) : ∀ k, k < l.length → ¬ qlt (l.getD k ipd) (l.getD 0 ipd) := by
  intro k
  induction k using Nat.strongRecOn with
  | _ k ih =>
    intro hk
    by_cases h0 : k = 0
    · subst h0; exact qlt_irr _
    · have hpk : par k < k := by unfold par; omega
      exact qlt_tri (h k (by omega) hk) (ih (par k) hpk (by omega))
theorem pop_perm {l : List IP} (h0 : 0 < l.length) : (l.getD 0 ipd :: (swapL l 0 (l.length - 1)).take (l.length - 1)).Perm l := by
  have h1 := swapL_perm l 0 (l.length - 1) h0 (by omega)
  have h2 : (swapL l 0 (l.length - 1)) = (swapL l 0 (l.length - 1)).take (l.length - 1) ++ [l.getD 0 ipd] := by
    have hl := swapL_len l 0 (l.length - 1)
    have hg := swapL_get l 0 (l.length - 1) (l.length - 1) h0 (by omega)
    rw [if_pos rfl] at hg
    have hlast := List.take_append_getElem (l := swapL l 0 (l.length - 1)) (i := l.length - 1) (by omega)
    rw [← hg]
    have : (swapL l 0 (l.length - 1)).getD (l.length - 1) ipd = (swapL l 0 (l.length - 1))[l.length - 1]'(by omega) := by rw [List.getD_eq_getElem?_getD, List.getElem?_eq_getElem (by omega)]; rfl
    rw [this, hlast, List.take_of_length_le (by omega)]
  have h3 : (l.getD 0 ipd :: (swapL l 0 (l.length - 1)).take (l.length - 1)).Perm ((swapL l 0 (l.length - 1)).take (l.length - 1) ++ [l.getD 0 ipd]) := (List.perm_append_singleton _ _).symm
  rw [← h2] at h3
  exact h3.trans h1
end Go.Proofs.Ytegnnfbmbnpgdaa
namespace Go.Proofs.Ytegnnfbmbnpgdaa
open Go Go.Lft
set_option linter.unusedSimpArgs false
set_option linter.unusedVariables false
attribute [local congr] ob_congr bw_congr ib_congr ck_congr iwA_congr itA_congr aw_congr awp_congr sqA_congr bkA_congr vr_congr gd_congr

/-- Block i is a queue whose items are the first n of block j. -/
structure QS (H : List Blk) (i j ver f : Nat) (ys : List IP) (n : Nat) (c : Int) : Prop where
  qi : blkAt H i 0 = some [.fn f [], .sl j ver 2 0 n, .v (.int .i64 c)]
  qj : blkAt H j ver = some (pcells ys)
  le : n ≤ ys.length
  ne : i ≠ j
  sm : n < 1000000000
theorem QS.ld {H : List Blk} {i j ver f : Nat} {ys : List IP} {n : Nat} {c : Int} (h : QS H i j ver f ys n c) : Ld H (.lp i 0 0) (qA false false f (ys.take n) c) := by
  have h1 := Ld.lp (o := 0) h.qi (r := [.fn f [], .fs false (pairs (ys.take n)), .v (.int .i64 c)]) ⟨Ld.refl rfl, ld_slPt H j ver n ys h.le h.qj, Ld.refl rfl, trivial⟩ (by simp)
  exact h1
theorem QS.set {H : List Blk} {i j ver f : Nat} {ys : List IP} {n : Nat} {c : Int} (h : QS H i j ver f ys n c) (zs : List IP) (hz : n ≤ zs.length) : QS (H.set j ⟨ver, pcells zs⟩) i j ver f zs n c :=
  ⟨by rw [blkAt_set_ne _ _ _ _ _ h.ne]; exact h.qi, blkAt_set_same _ _ _ _ (blkAt_lt h.qj), hz, h.ne, h.sm⟩
theorem set_self {H : List Blk} {j ver : Nat} {l : List A} (h : blkAt H j ver = some l) : H.set j ⟨ver, l⟩ = H := by
  obtain ⟨B, h1, h2, h3⟩ := blkAt_iff.1 h
  have : B = ⟨ver, l⟩ := by cases B; simp at h2 h3; subst h2; subst h3; rfl
  subst this
  apply List.ext_getElem?
  intro k
  rw [List.getElem?_set]
  split
  · rename_i hk; subst hk; rw [if_pos (blkAt_lt h), h1]
  · rfl

theorem qswap_vr {H : List Blk} {i j ver f : Nat} {ys : List IP} {n : Nat} {c : Int} (h : QS H i j ver f ys n c) (a b : Int) (h1 : 0 ≤ a) (h2 : a < n) (h3 : 0 ≤ b) (h4 : b < n) :
    VR P false n_pqueue_Queue_swap [.lp i 0 0, .v (.int .i64 a), .v (.int .i64 b)] H (fun r H' => H' = H.set j ⟨ver, pcells (swapL ys a.toNat b.toNat)⟩) := by
  refine vr_pqueue_Queue_swap (by simp) (.inl rfl) fun _ _ => ?_
  have qi := h.qi
  have qj := h.qj
  have ne := h.ne
  have le := h.le
  have lt := blkAt_lt h.qj
  have e1 : (ys.getD a.toNat ipd).1 = (ys.getD a.toNat (0, 0)).1 := rfl
  simp (disch := ((try simp only [List.length_set, List.length_replicate, List.length_append, List.length_cons, List.length_nil]); omega)) only [aW, aX, aV, aB, aN, aL, aP, aH, s_pqueue_Queue_swap, v_pqueue_Queue_swap, r_pqueue_Queue_swap, qi, qj, List.length_set]
  exact post2 (R := fun _ H' => H' = H.set j ⟨ver, pcells (swapL ys a.toNat b.toNat)⟩) rfl

/-- The order of a sift. -/
theorem lenT {ys : List IP} {n : Nat} (h : n ≤ ys.length) : (ys.take n).length = n := by simp; omega

theorem qsink_vr {H : List Blk} {i j ver f : Nat} {ys : List IP} {n : Nat} {c : Int} (hf : IsLt f) (h : QS H i j ver f ys n c) (hd : HeapDn (ys.take n) 0) :
    VR P false n_pqueue_Queue_sink [.lp i 0 0] H (fun r H' => ∃ zs, zs.length = ys.length ∧ (zs.take n).Perm (ys.take n) ∧ zs.drop n = ys.drop n ∧ Heap2 (zs.take n) ∧ H' = H.set j ⟨ver, pcells zs⟩) := by
  refine vr_pqueue_Queue_sink (by simp) (.inl rfl) fun hb _ => ?_
  have qi := h.qi
  have qj := h.qj
  have ne := h.ne
  have le := h.le
  have sm := h.sm
  have lt := blkAt_lt h.qj
  have lti := blkAt_lt h.qi
  simp (disch := ((try simp only [List.length_set, List.length_replicate, List.length_append, List.length_cons, List.length_nil]); omega)) only [aW, aX, aV, aB, aN, aL, aP, aH, s_pqueue_Queue_sink, v_pqueue_Queue_sink]
  refine AWP.loopP (α := Nat × List IP) g_pqueue_Queue_sink_0 (fun p => p.2.length = ys.length ∧ (p.2.take n).Perm (ys.take n) ∧ p.2.drop n = ys.drop n ∧ HeapDn (p.2.take n) p.1 ∧ (p.1 < n ∨ p.1 = 0))
    (fun p => [(1, .v (.int .i64 p.1))]) (fun p => [(j, ⟨ver, pcells p.2⟩)]) (fun p => n - p.1) (0, ys) ⟨rfl, List.Perm.refl _, rfl, hd, .inr rfl⟩ ?_ ?_
  · simp (disch := ((try simp only [List.length_set, List.length_replicate, List.length_append, List.length_cons, List.length_nil]); omega)) only [aW, aX, aV, aB, aN, aL, aP, aH, set_self qj]
    exact Cut.same (Nat.le_refl _) hb (by simp (disch := first | omega | simp (disch := omega) only [aF, aL, aN]) only [aW, aX, aV, aB, aN, aL, aP, aH, aF, Int.natCast_add, Int.natCast_mul, Int.add_sub_cancel, List.length_nil, Int.cast_ofNat_Int, and_true, true_and])
  rintro ⟨m, zs⟩ ⟨z1, z2, z3, z4, z5⟩
  simp only at z1 z2 z3 z4 z5
  have hq := h.set zs (by omega)
  have hqi := hq.qi
  have hl := lenT (ys := zs) (n := n) (by omega)
  have hb' : okB (H.set j ⟨ver, pcells zs⟩).length (H.set j ⟨ver, pcells zs⟩) := by rw [List.length_set]; exact okB.set hb (pc_bd _ _)
  simp (disch := ((try simp only [List.length_set, List.length_replicate, List.length_append, List.length_cons, List.length_nil]); omega)) only [aW, aX, aV, aB, aN, aL, aP, aH]
  refine AWP.loopP (α := Nat × Nat) g_pqueue_Queue_sink_1 (fun p => (2 * m + 1 ≤ p.1 ∧ p.1 ≤ 2 * m + 3) ∧ (p.2 = m ∨ (par p.2 = m ∧ 0 < p.2 ∧ p.2 < n ∧ p.2 < p.1 ∧ qlt ((zs.take n).getD p.2 ipd) ((zs.take n).getD m ipd))) ∧ ∀ k, 2 * m + 1 ≤ k → k < p.1 → k < n → ¬ qlt ((zs.take n).getD k ipd) ((zs.take n).getD p.2 ipd))
    (fun p => [(2, .v (.int .i64 p.2)), (3, .v (.int .i64 p.1))]) (fun p => []) (fun p => 2 * m + 3 - p.1) (2 * m + 1, m) ⟨by simp only; omega, .inl rfl, fun k h1 h2 => by simp only at h2; omega⟩ ?_ ?_
  · simp (disch := ((try simp only [List.length_set, List.length_replicate, List.length_append, List.length_cons, List.length_nil]); omega)) only [aW, aX, aV, aB, aN, aL, aP, aH]
    exact Cut.same (by rw [List.length_set]; exact Nat.le_refl _) hb' (by simp (disch := first | omega | simp (disch := omega) only [aF, aL, aN]) only [aW, aX, aV, aB, aN, aL, aP, aH, aF, Int.natCast_add, Int.natCast_mul, Int.add_sub_cancel, List.length_nil, Int.cast_ofNat_Int, and_true, true_and])
  rintro ⟨k, q⟩ ⟨⟨k1, k2⟩, k3, k4⟩
  simp only at k1 k2 k3 k4
  by_cases hk : k ≤ 2 * m + 2 ∧ k < n
  · obtain ⟨hk1, hk2⟩ := hk
    have hqn : q < n := by rcases k3 with k3 | k3 <;> omega
    simp (disch := ((try simp only [List.length_set, List.length_replicate, List.length_append, List.length_cons, List.length_nil]); omega)) only [aW, aX, aV, aB, aN, aL, aP, aH, hqi]
    refine (qbefore_vr hf (zs.take n) c k q (by omega) (by omega) (by omega) (by omega)).use ⟨hq.ld, Ld.refl rfl, Ld.refl rfl, trivial⟩ rfl (aret_of ?_)
    simp (disch := ((try simp only [List.length_set, List.length_replicate, List.length_append, List.length_cons, List.length_nil]); omega)) only [aW, aX, aV, aB, aN, aL, aP, aH]
    refine ib_intro (fun h1 => ?_) (fun h1 => ?_)
    · simp (disch := ((try simp only [List.length_set, List.length_replicate, List.length_append, List.length_cons, List.length_nil]); omega)) only [aW, aX, aV, aB, aN, aL, aP, aH]
      refine ⟨(k + 1, k), ⟨by simp only; omega, .inr ⟨by unfold par; simp only; omega, by simp only; omega, hk2, by simp only; omega, ?_⟩, fun k' g1 g2 g3 => ?_⟩, by simp only; omega, ?_⟩
      · rcases k3 with rfl | ⟨_, _, _, _, k5⟩
        · exact h1
        · exact qlt_trans h1 k5
      · simp only at g2 ⊢
        by_cases hkk : k' = k
        · subst hkk; exact qlt_irr _
        · exact fun hc => k4 k' g1 (by omega) g3 (qlt_trans hc h1)
      · simp (disch := ((try simp only [List.length_set, List.length_replicate, List.length_append, List.length_cons, List.length_nil]); omega)) only [aW, aX, aV, aB, aN, aL, aP, aH]
        exact Cut.same (by rw [List.length_set]; exact Nat.le_refl _) hb' (by simp (disch := first | omega | simp (disch := omega) only [aF, aL, aN]) only [aW, aX, aV, aB, aN, aL, aP, aH, aF, Int.natCast_add, Int.natCast_mul, Int.add_sub_cancel, List.length_nil, Int.cast_ofNat_Int, and_true, true_and])
    · simp (disch := ((try simp only [List.length_set, List.length_replicate, List.length_append, List.length_cons, List.length_nil]); omega)) only [aW, aX, aV, aB, aN, aL, aP, aH]
      refine ⟨(k + 1, q), ⟨by simp only; omega, ?_, fun k' g1 g2 g3 => ?_⟩, by simp only; omega, ?_⟩
      · rcases k3 with k3 | ⟨g1, g2, g3, g4, k5⟩
        · exact .inl k3
        · exact .inr ⟨g1, g2, g3, by simp only; omega, k5⟩
      · simp only at g2 ⊢
        by_cases hkk : k' = k
        · subst hkk; exact h1
        · exact k4 k' g1 (by omega) g3
      · simp (disch := ((try simp only [List.length_set, List.length_replicate, List.length_append, List.length_cons, List.length_nil]); omega)) only [aW, aX, aV, aB, aN, aL, aP, aH]
        exact Cut.same (by rw [List.length_set]; exact Nat.le_refl _) hb' (by simp (disch := first | omega | simp (disch := omega) only [aF, aL, aN]) only [aW, aX, aV, aB, aN, aL, aP, aH, aF, Int.natCast_add, Int.natCast_mul, Int.add_sub_cancel, List.length_nil, Int.cast_ofNat_Int, and_true, true_and])
  · have hall : ∀ k', 0 < k' → k' < n → par k' = m → ¬ qlt ((zs.take n).getD k' ipd) ((zs.take n).getD q ipd) := fun k' g1 g2 g3 => k4 k' (by unfold par at g3; omega) (by unfold par at g3; omega) g2
    simp (disch := ((try simp only [List.length_set, List.length_replicate, List.length_append, List.length_cons, List.length_nil]); omega)) only [aW, aX, aV, aB, aN, aL, aP, aH, hqi]
    rcases k3 with rfl | ⟨k31, k32, k33, k34, k35⟩
    · simp (disch := ((try simp only [List.length_set, List.length_replicate, List.length_append, List.length_cons, List.length_nil]); omega)) only [aW, aX, aV, aB, aN, aL, aP, aH, r_pqueue_Queue_sink]
      refine post2 (R := fun r H' => _) ⟨zs, z1, z2, z3, dn_done z4 (fun k' g1 g2 g3 => hall k' g1 (by omega) g3), rfl⟩
    · have hne : ¬ (q : Int) = m := by unfold par at k31; omega
      have hmn : m < n := by unfold par at k31; omega
      simp (disch := ((try simp only [List.length_set, List.length_replicate, List.length_append, List.length_cons, List.length_nil]); omega)) only [aW, aX, aV, aB, aN, aL, aP, aH]
      refine (qswap_vr hq m q (by omega) (by omega) (by omega) (by omega)).mono ?_
      rintro r H' rfl
      refine aret_of ?_
      simp (disch := ((try simp only [List.length_set, List.length_replicate, List.length_append, List.length_cons, List.length_nil]); omega)) only [aW, aX, aV, aB, aN, aL, aP, aH]
      have hstep := dn_step z4 k31 k32 (by omega) k35 (fun k' g1 g2 g3 => hall k' g1 (by omega) g3)
      rw [← swapL_take zs n m q hmn k33 (by omega)] at hstep
      refine ⟨(q, swapL zs m q), ⟨by simp only [swapL_len]; exact z1, ?_, ?_, hstep, .inl k33⟩, by simp only; unfold par at k31; omega, ?_⟩
      · simp only
        rw [swapL_take zs n m q hmn k33 (by omega)]
        exact (swapL_perm _ _ _ (by omega) (by omega)).trans z2
      · simp only
        rw [← z3]
        unfold swapL
        rw [List.drop_set_of_lt (by omega), List.drop_set_of_lt (by omega)]
      · simp (disch := ((try simp only [List.length_set, List.length_replicate, List.length_append, List.length_cons, List.length_nil]); omega)) only [aW, aX, aV, aB, aN, aL, aP, aH]
        have hb2 : okB (H.set j ⟨ver, pcells (swapL zs m q)⟩).length (H.set j ⟨ver, pcells (swapL zs m q)⟩) := by rw [List.length_set]; exact okB.set hb (pc_bd _ _)
        exact Cut.same (by rw [List.length_set]; exact Nat.le_refl _) hb2 (by simp (disch := first | omega | simp (disch := omega) only [aF, aL, aN]) only [aW, aX, aV, aB, aN, aL, aP, aH, aF, Int.natCast_add, Int.natCast_mul, Int.add_sub_cancel, List.length_nil, Int.cast_ofNat_Int, and_true, true_and])
/-- Taking the first item off. -/
theorem qpop_vr {H : List Blk} {i j ver f : Nat} {ys : List IP} {n : Nat} {c : Int} (hf : IsLt f) (h : QS H i j ver f ys n c) (hn : 0 < n) (hh : Heap2 (ys.take n)) :
    VR P false n_pqueue_Queue_Pop [.lp i 0 0] H (fun r H' => r = .tup [.v (.int .i64 (ys.getD 0 ipd).1), .v (.bool true)] ∧ ∃ zs, zs.length = ys.length ∧ (ys.getD 0 ipd :: zs.take (n - 1)).Perm (ys.take n) ∧ Heap2 (zs.take (n - 1)) ∧
      H' = (H.set j ⟨ver, pcells zs⟩).set i ⟨0, [.fn f [], .sl j ver 2 0 (n - 1), .v (.int .i64 c)]⟩) := by
  refine vr_pqueue_Queue_Pop (by simp) (.inl rfl) fun hb _ => ?_
  have qi := h.qi
  have qj := h.qj
  have ne := h.ne
  have le := h.le
  have sm := h.sm
  have lt := blkAt_lt h.qj
  have lti := blkAt_lt h.qi
  have hl := lenT le
  simp (disch := ((try simp only [List.length_set, List.length_replicate, List.length_append, List.length_cons, List.length_nil]); omega)) only [aW, aX, aV, aB, aN, aL, aP, aH, s_pqueue_Queue_Pop, v_pqueue_Queue_Pop]
  refine (qpeek_vr f (ys.take n) c).use ⟨h.ld, trivial⟩ rfl (aret_of ?_)
  have h0 : decide (0 < (ys.take n).length) = true := by rw [hl]; simpa using hn
  simp (disch := ((try simp only [List.length_set, List.length_replicate, List.length_append, List.length_cons, List.length_nil]); omega)) only [aW, aX, aV, aB, aN, aL, aP, aH, h0, qi]
  refine (qswap_vr h 0 (n - 1) (by omega) (by omega) (by omega) (by omega)).mono ?_
  rintro r H' rfl
  refine aret_of ?_
  have e1 : ((n : Int) - 1).toNat = n - 1 := by omega
  have hq := h.set (swapL ys 0 (n - 1)) (by rw [swapL_len]; exact le)
  have hqi := hq.qi
  have hqj := hq.qj
  have hsl := swapL_len ys 0 (n - 1)
  have e2 : n - (n - 1) = 1 := by omega
  simp (disch := ((try simp only [List.length_set, List.length_replicate, List.length_append, List.length_cons, List.length_nil]); omega)) only [aW, aX, aV, aB, aN, aL, aP, aH, e1, e2, qi, hqi, hqj]
  generalize hy2 : (swapL ys 0 (n - 1)).set (n - 1) (0, 0) = ys2
  have hl2 : ys2.length = ys.length := by rw [← hy2, List.length_set, hsl]
  have ht2 : ys2.take (n - 1) = (swapL (ys.take n) 0 ((ys.take n).length - 1)).take ((ys.take n).length - 1) := by
    rw [hl, ← hy2, List.take_set_of_le (by omega), ← swapL_take ys n 0 (n - 1) (by omega) (by omega) le, List.take_take, Nat.min_eq_left (by omega)]
  have hq2 : QS ((H.set j ⟨ver, pcells ys2⟩).set i ⟨0, [.fn f [], .sl j ver 2 0 (n - 1), .v (.int .i64 c)]⟩) i j ver f ys2 (n - 1) c :=
    ⟨blkAt_set_same _ _ _ _ (by rw [List.length_set]; exact lti), by rw [blkAt_set_ne _ _ _ _ _ (Ne.symm ne)]; exact blkAt_set_same _ _ _ _ lt, by omega, ne, by omega⟩
  refine (qsink_vr hf hq2 (by rw [ht2]; exact dn_start hh (by omega))).mono ?_
  rintro r H' ⟨zs, w1, w2, w3, w4, rfl⟩
  refine aret_of ?_
  simp (disch := ((try simp only [List.length_set, List.length_replicate, List.length_append, List.length_cons, List.length_nil]); omega)) only [aW, aX, aV, aB, aN, aL, aP, aH, r_pqueue_Queue_Pop]
  have e3 : (ys.take n).getD 0 (0, 0) = ys.getD 0 ipd := by simp [List.getD_eq_getElem?_getD, List.getElem?_take, hn]
  rw [e3]
  refine post2 (R := fun r H' => _) ⟨rfl, zs, by omega, ?_, w4, ?_⟩
  · have g1 := pop_perm (l := ys.take n) (by omega)
    rw [← ht2, show (ys.take n).getD 0 ipd = ys.getD 0 ipd from e3] at g1
    exact (List.Perm.cons _ w2).trans g1
  · rw [List.set_comm _ _ (Ne.symm ne), List.set_set, List.set_comm _ _ ne]
theorem qpop0_vr {H : List Blk} {i f : Nat} {v : A} {c : Int} (hi : blkAt H i 0 = some [.fn f [], v, .v (.int .i64 c)]) (hv : Ld H v (.fs false (pairs []))) :
    VR P false n_pqueue_Queue_Pop [.lp i 0 0] H (fun r H' => r = .tup [.v (.int .i64 0), .v (.bool false)] ∧ H' = H) := by
  refine vr_pqueue_Queue_Pop (by simp) (.inl rfl) fun hb _ => ?_
  simp (disch := ((try simp only [List.length_set, List.length_replicate, List.length_append, List.length_cons, List.length_nil]); omega)) only [aW, aX, aV, aB, aN, aL, aP, aH, s_pqueue_Queue_Pop, v_pqueue_Queue_Pop]
  refine (qpeek_vr (w := false) (v := false) f [] c).use ⟨?_, trivial⟩ rfl (aret_of ?_)
  · have h1 := Ld.lp (o := 0) hi (r := [.fn f [], .fs false (pairs []), .v (.int .i64 c)]) ⟨Ld.refl rfl, hv, Ld.refl rfl, trivial⟩ (by simp)
    exact h1
  · have h0 : decide (0 < ([] : List IP).length) = false := rfl
    simp (disch := ((try simp only [List.length_set, List.length_replicate, List.length_append, List.length_cons, List.length_nil]); omega)) only [aW, aX, aV, aB, aN, aL, aP, aH, h0, r_pqueue_Queue_Pop]
    exact post2 (R := fun r H' => _) ⟨rfl, rfl⟩

/-- Adding an item. -/
theorem qpush_vr {H : List Blk} {i j ver f : Nat} {ys : List IP} {n : Nat} {c : Int} (hf : IsLt f) (h : QS H i j ver f ys n c) (hh : Heap2 (ys.take n)) (x : Int) (hc : 0 ≤ c) (hc2 : c < 1000000000) (hn : n + 1 < 1000000000) :
    VR P false n_pqueue_Queue_Push [.lp i 0 0, .v (.int .i64 x)] H (fun r H' => ∃ zs, zs.length = n + 1 ∧ zs.Perm (ys.take n ++ [(x, c)]) ∧ Heap2 zs ∧
      H' = (H.set j ⟨ver + 1, pcells zs⟩).set i ⟨0, [.fn f [], .sl j (ver + 1) 2 0 (n + 1), .v (.int .i64 (c + 1))]⟩) := by
  refine vr_pqueue_Queue_Push (by simp) (.inl rfl) fun hb _ => ?_
  have qi := h.qi
  have qj := h.qj
  have ne := h.ne
  have le := h.le
  have sm := h.sm
  have lt := blkAt_lt h.qj
  have lti := blkAt_lt h.qi
  have hl := lenT le
  simp (disch := ((try simp only [List.length_set, List.length_replicate, List.length_append, List.length_cons, List.length_nil]); omega)) only [aW, aX, aV, aB, aN, aL, aP, aH, s_pqueue_Queue_Push, v_pqueue_Queue_Push, qi, qj]
  have mem : ∀ zs : List IP, ((H.set j ⟨ver + 1, pcells zs⟩).set i ⟨0, [.fn f [], .sl j (ver + 1) 2 0 (n + 1), .v (.int .i64 (c + 1))]⟩).length = H.length := fun zs => by simp
  have okm : ∀ zs : List IP, okB H.length ((H.set j ⟨ver + 1, pcells zs⟩).set i ⟨0, [.fn f [], .sl j (ver + 1) 2 0 (n + 1), .v (.int .i64 (c + 1))]⟩) := fun zs => okB.set (okB.set hb (pc_bd _ _)) (by simp (disch := first | omega | simp (disch := omega) only [aF, aL, aN]) only [aW, aX, aV, aB, aN, aL, aP, aH, aF, Int.natCast_add, Int.natCast_mul, Int.add_sub_cancel, List.length_nil, Int.cast_ofNat_Int, and_true, true_and])
  refine AWP.loop (α := Nat × List IP) (fun p => p.2.length = n + 1 ∧ p.2.Perm (ys.take n ++ [(x, c)]) ∧ HeapUp p.2 p.1 ∧ p.1 < n + 1)
    (fun p => [.lp i 0 0, .v (.int .i64 x), .v (.int .i64 p.1), .any, .any, .any, .any]) (fun p => (H.set j ⟨ver + 1, pcells p.2⟩).set i ⟨0, [.fn f [], .sl j (ver + 1) 2 0 (n + 1), .v (.int .i64 (c + 1))]⟩) (fun p => p.1) (n, ys.take n ++ [(x, c)])
    ⟨by simp [hl], List.Perm.refl _, by have := up_start (x, c) hh; rw [hl] at this; exact this, by simp⟩ ?_ ?_
  · simp (disch := ((try simp only [List.length_set, List.length_replicate, List.length_append, List.length_cons, List.length_nil]); omega)) only [aW, aX, aV, aB, aN, aL, aP, aH]
    exact Cut.app (by rw [mem]; exact Nat.le_refl _) (by rw [mem]; exact okm _) (by rw [mem]; simp (disch := first | omega | simp (disch := omega) only [aF, aL, aN]) only [aW, aX, aV, aB, aN, aL, aP, aH, aF, Int.natCast_add, Int.natCast_mul, Int.add_sub_cancel, List.length_nil, Int.cast_ofNat_Int, and_true, true_and])
  rintro ⟨m, zs⟩ ⟨z1, z2, z3, z4⟩
  simp only at z1 z2 z3 z4
  refine aw_sound ?_
  have hq : QS ((H.set j ⟨ver + 1, pcells zs⟩).set i ⟨0, [.fn f [], .sl j (ver + 1) 2 0 (n + 1), .v (.int .i64 (c + 1))]⟩) i j (ver + 1) f zs (n + 1) (c + 1) :=
    ⟨blkAt_set_same _ _ _ _ (by rw [List.length_set]; exact lti), by rw [blkAt_set_ne _ _ _ _ _ (Ne.symm ne)]; exact blkAt_set_same _ _ _ _ lt, by omega, ne, hn⟩
  have ht : zs.take (n + 1) = zs := List.take_of_length_le (by omega)
  have hld := hq.ld
  rw [ht] at hld
  by_cases h0 : 0 < m
  · have hp : ((m : Int) - 1).tdiv 2 = (par m : Nat) := by
      rw [Int.tdiv_eq_ediv_of_nonneg (by omega)]; unfold par; omega
    have hpm : par m < m := by unfold par; omega
    have hp2 : ((m : Int) - 1) / 2 = (par m : Nat) := by unfold par; omega
    simp (disch := ((try simp only [List.length_set, List.length_replicate, List.length_append, List.length_cons, List.length_nil]); omega)) only [aW, aX, aV, aB, aN, aL, aP, aH, hp, hp2]
    refine (qbefore_vr hf zs (c + 1) m (par m : Nat) (by omega) (by omega) (by omega) (by omega)).use ⟨hld, Ld.refl rfl, Ld.refl rfl, trivial⟩ rfl (aret_of ?_)
    simp (disch := ((try simp only [List.length_set, List.length_replicate, List.length_append, List.length_cons, List.length_nil]); omega)) only [aW, aX, aV, aB, aN, aL, aP, aH]
    refine ib_intro (fun h1 => ?_) (fun h1 => ?_)
    · simp (disch := ((try simp only [List.length_set, List.length_replicate, List.length_append, List.length_cons, List.length_nil]); omega)) only [aW, aX, aV, aB, aN, aL, aP, aH, r_pqueue_Queue_Push]
      exact post2 (R := fun r H' => _) ⟨zs, z1, z2, up_done z3 (.inr h1), rfl⟩
    · have h1 : qlt (zs.getD m ipd) (zs.getD (par m) ipd) := Classical.not_not.1 h1
      simp (disch := ((try simp only [List.length_set, List.length_replicate, List.length_append, List.length_cons, List.length_nil]); omega)) only [aW, aX, aV, aB, aN, aL, aP, aH]
      refine (qswap_vr hq m (par m : Nat) (by omega) (by omega) (by omega) (by omega)).mono ?_
      rintro r H' rfl
      refine aret_of ?_
      have hsw : ∀ zs' : List IP, ((H.set j ⟨ver + 1, pcells zs⟩).set i ⟨0, [.fn f [], .sl j (ver + 1) 2 0 (n + 1), .v (.int .i64 (c + 1))]⟩).set j ⟨ver + 1, pcells zs'⟩ = (H.set j ⟨ver + 1, pcells zs'⟩).set i ⟨0, [.fn f [], .sl j (ver + 1) 2 0 (n + 1), .v (.int .i64 (c + 1))]⟩ := fun zs' => by
        rw [List.set_comm _ _ ne, List.set_set]
      simp (disch := ((try simp only [List.length_set, List.length_replicate, List.length_append, List.length_cons, List.length_nil]); omega)) only [aW, aX, aV, aB, aN, aL, aP, aH, hsw]
      refine ⟨(par m, swapL zs m (par m)), ⟨by simp only [swapL_len]; exact z1, (swapL_perm _ _ _ (by omega) (by omega)).trans z2, up_step z3 h0 (by omega) h1, by simp only; omega⟩, by simp only; omega, ?_⟩
      exact Cut.same (by rw [mem]; exact Nat.le_refl _) (by rw [mem]; exact okm _) (by rw [mem]; simp (disch := first | omega | simp (disch := omega) only [aF, aL, aN]) only [aW, aX, aV, aB, aN, aL, aP, aH, aF, Int.natCast_add, Int.natCast_mul, Int.add_sub_cancel, List.length_nil, Int.cast_ofNat_Int, and_true, true_and])
  · have h0 : m = 0 := by omega
    subst h0
    simp (disch := ((try simp only [List.length_set, List.length_replicate, List.length_append, List.length_cons, List.length_nil]); omega)) only [aW, aX, aV, aB, aN, aL, aP, aH, r_pqueue_Queue_Push]
    exact post2 (R := fun r H' => _) ⟨zs, z1, z2, up_done z3 (.inl rfl), rfl⟩
/-- Adding the first item. -/
theorem qpush0_vr {H : List Blk} {i f : Nat} {c : Int} (hi : blkAt H i 0 = some [.fn f [], .v (.slice none 0 0), .v (.int .i64 c)]) (x : Int) (hc : 0 ≤ c) (hc2 : c < 1000000000) :
    VR P false n_pqueue_Queue_Push [.lp i 0 0, .v (.int .i64 x)] H (fun r H' => H' = (H.set i ⟨0, [.fn f [], .sl (H.length + 1) 0 2 0 1, .v (.int .i64 (c + 1))]⟩) ++ [⟨0, pcells [(x, c)]⟩, ⟨0, pcells [(x, c)]⟩]) := by
  refine vr_pqueue_Queue_Push (by simp) (.inl rfl) fun hb _ => ?_
  have lti := blkAt_lt hi
  have e1 : ((1 : Nat) : Int) - 1 = 0 := rfl
  simp (disch := ((try simp only [List.length_set, List.length_replicate, List.length_append, List.length_cons, List.length_nil]); omega)) only [aW, aX, aV, aB, aN, aL, aP, aH, s_pqueue_Queue_Push, v_pqueue_Queue_Push, hi, e1]
  refine AWP.once ?_
  simp (disch := ((try simp only [List.length_set, List.length_replicate, List.length_append, List.length_cons, List.length_nil]); omega)) only [aW, aX, aV, aB, aN, aL, aP, aH, r_pqueue_Queue_Push]
  exact post2 (R := fun r H' => _) rfl
end Go.Proofs.Ytegnnfbmbnpgdaa
namespace Go.Proofs.Ytegnnfbmbnpgdaa
open Go Go.Lft
set_option linter.unusedSimpArgs false
set_option linter.unusedVariables false
attribute [local congr] ob_congr bw_congr ib_congr ck_congr iwA_congr itA_congr aw_congr awp_congr sqA_congr bkA_congr vr_congr gd_congr

/-- Numbers by number. -/
def tabI (N : Nat) (F : Nat → Int) : List Int := (List.range N).map F
theorem tabI_len (N : Nat) (F : Nat → Int) : (tabI N F).length = N := by simp [tabI]
theorem tabI_get (N : Nat) (F : Nat → Int) (k : Nat) (h : k < N) : (tabI N F).getD k 0 = F k := by simp [tabI, List.getD_eq_getElem?_getD, h]
theorem tabI_ext {N : Nat} {D E : Nat → Int} (h : ∀ k, k < N → D k = E k) : tabI N D = tabI N E := List.map_congr_left fun k hk => h k (List.mem_range.1 hk)
theorem tabI_set (N : Nat) (D : Nat → Int) (k : Nat) (y : Int) (h : k < N) : (tabI N D).set k y = tabI N (fun j => if j = k then y else D j) := by
  apply List.ext_getElem (by simp [tabI])
  intro i h1 h2
  simp only [tabI, List.length_set, List.length_map, List.length_range] at h1
  rw [List.getElem_set]
  by_cases hk : k = i
  · subst hk; simp [tabI]
  · simp [tabI, hk, Ne.symm hk]
theorem tabI_rep (N : Nat) : List.replicate N (0 : Int) = tabI N fun _ => 0 := by
  apply List.ext_getElem (by simp [tabI])
  intro i h1 h2
  simp [tabI]

/-- The arcs to v from nodes that were not taken. -/
def cnt (l : Arcs) (D : Nat → Bool) (v : Nat) : Nat := (l.filter fun a => a.2 == (v : Int) && !D a.1.toNat).length
theorem cnt_app (l m : Arcs) (D : Nat → Bool) (v : Nat) : cnt (l ++ m) D v = cnt l D v + cnt m D v := by simp [cnt]
theorem cnt_one (a : Int × Int) (D : Nat → Bool) (v : Nat) : cnt [a] D v = if a.2 = v ∧ D a.1.toNat = false then 1 else 0 := by
  unfold cnt
  by_cases h : a.2 = v ∧ D a.1.toNat = false
  · simp [h]
  · rw [if_neg h, List.filter_cons_of_neg]
    · rfl
    · simpa using h
def mix (l : Arcs) (D E : Nat → Bool) (i v : Nat) : Nat := cnt (l.take i) E v + cnt (l.drop i) D v
theorem mix_zero (l : Arcs) (D E : Nat → Bool) (v : Nat) : mix l D E 0 v = cnt l D v := by simp [mix, cnt]
theorem mix_all (l : Arcs) (D E : Nat → Bool) (v : Nat) : mix l D E l.length v = cnt l E v := by simp [mix, cnt]
theorem mix_step (l : Arcs) (D E : Nat → Bool) {i : Nat} (hi : i < l.length) (v : Nat) :
    mix l D E (i + 1) v + cnt [l.getD i (0, 0)] D v = mix l D E i v + cnt [l.getD i (0, 0)] E v := by
  unfold mix
  have h1 : l.drop i = [l.getD i (0, 0)] ++ l.drop (i + 1) := by
    rw [List.drop_eq_getElem_cons hi]; simp [List.getD_eq_getElem?_getD, hi]
  rw [take_succ_get l i (0, 0) hi, cnt_app, h1, cnt_app]
  omega
theorem cnt_zero {l : Arcs} {D : Nat → Bool} {v : Nat} : cnt l D v = 0 ↔ ∀ a ∈ l, a.2 = v → D a.1.toNat = true := by
  unfold cnt
  rw [List.length_eq_zero_iff, List.filter_eq_nil_iff]
  refine forall_congr' fun a => forall_congr' fun ha => ?_
  simp
theorem avail_iff (l : Arcs) (D : Nat → Bool) (v : Nat) : avail l D v = true ↔ D v = false ∧ cnt l D v = 0 := by
  rw [cnt_zero]
  unfold avail
  rw [Bool.and_eq_true, List.all_eq_true]
  simp only [Bool.not_eq_true', Bool.or_eq_true, bne_iff_ne, ne_eq]
  refine and_congr_right fun _ => forall_congr' fun a => forall_congr' fun ha => ?_
  constructor
  · rintro (h | h) h2
    · exact absurd h2 h
    · exact h
  · intro h
    by_cases h2 : a.2 = v
    · exact .inr (h h2)
    · exact .inl h2
theorem cnt_le (l : Arcs) (D : Nat → Bool) (v : Nat) : cnt l D v ≤ l.length := by unfold cnt; exact List.length_filter_le _ _
theorem mix_le (l : Arcs) (D E : Nat → Bool) (i v : Nat) : mix l D E i v ≤ l.length := by
  unfold mix
  have h1 := cnt_le (l.take i) E v
  have h2 := cnt_le (l.drop i) D v
  simp at h1 h2
  omega

/-- What comes next was not taken, and all before it were. -/
theorem next_in {n : Int} {l : Arcs} {D : Nat → Bool} (h : ¬ nextO n l D < 0) : 0 ≤ nextO n l D ∧ (nextO n l D).toNat < n.toNat ∧ avail l D (nextO n l D).toNat = true ∧ ∀ v, v < n.toNat → avail l D v = true → (nextO n l D).toNat ≤ v := by
  rcases low_cases (avail l D) n.toNat 0 with ⟨h1, _⟩ | ⟨i, h1, h2, h3, h4, h5⟩
  · exact absurd (show nextO n l D < 0 by unfold nextO; omega) h
  · have : nextO n l D = i := h1
    rw [this]
    refine ⟨by omega, by omega, by simpa using h4, fun v hv ha => ?_⟩
    rw [Int.toNat_natCast]
    apply Nat.not_lt.1; intro hlt
    rw [h5 v (by omega) hlt] at ha; cases ha
theorem next_none {n : Int} {l : Arcs} {D : Nat → Bool} (h : ∀ v, v < n.toNat → avail l D v = false) : nextO n l D < 0 := by
  rcases low_cases (avail l D) n.toNat 0 with ⟨h1, _⟩ | ⟨i, h1, h2, h3, h4, h5⟩
  · unfold nextO; omega
  · rw [h i (by omega)] at h4; cases h4
theorem ost_clo (n : Int) (l : Arcs) (hr : inR n l) : ∀ k, ∀ a ∈ l, (ost n l k).1 a.2.toNat = true → (ost n l k).1 a.1.toNat = true
  | 0, a, _, h => by simp [ost] at h
  | k + 1, a, ha, h => by
    simp only [ost] at h ⊢
    split at h
    · rename_i hc; rw [if_pos hc]; exact ost_clo n l hr k a ha h
    · rename_i hc
      rw [if_neg hc]
      simp only [Bool.or_eq_true, beq_iff_eq] at h ⊢
      rcases h with h | h
      · exact .inl (ost_clo n l hr k a ha h)
      · obtain ⟨g1, g2, g3, _⟩ := next_in hc
        have := cnt_zero.1 ((avail_iff _ _ _).1 g3).2 a ha (by have := hr a ha; omega)
        exact .inl this

theorem qnew_vr (f : Nat) : VR P false n_pqueue_New [.fn f []] [] (ownR (.lp 0 0 0) [⟨0, [.fn f [], .v (.slice none 0 0), .v (.int .i64 0)]⟩]) := by
  refine vr_pqueue_New (by simp) (.inr rfl) fun _ _ => ?_
  simp (disch := ((try simp only [List.length_set, List.length_replicate, List.length_append, List.length_cons, List.length_nil]); omega)) only [aW, aX, aV, aB, aN, aL, aP, aH, s_pqueue_New, v_pqueue_New, r_pqueue_New]
  exact post2 (R := ownR _ _) ⟨rfl, rfl⟩

/-- The queue holds what may come next. -/
structure QI (n : Int) (D : Nat → Bool) (F : Nat → Nat) (hs : List IP) : Prop where
  heap : Heap2 hs
  mem : ∀ v : Int, v ∈ hs.map Prod.fst ↔ (0 ≤ v ∧ v < n) ∧ D v.toNat = false ∧ F v.toNat = 0
  nd : (hs.map Prod.fst).Nodup
theorem QI.push {n : Int} {D : Nat → Bool} {F F' : Nat → Nat} {hs zs : List IP} {x c : Int} (h : QI n D F hs) (hp : zs.Perm (hs ++ [(x, c)])) (hh : Heap2 zs) (hx : (0 ≤ x ∧ x < n) ∧ D x.toNat = false ∧ F' x.toNat = 0) (hF : F x.toNat ≠ 0) (he : ∀ v, v ≠ x.toNat → F' v = F v) : QI n D F' zs := by
  have hp' := hp.map Prod.fst
  rw [List.map_append] at hp'
  refine ⟨hh, fun v => ?_, ?_⟩
  · rw [hp'.mem_iff, List.mem_append, h.mem]
    simp only [List.map_cons, List.map_nil, List.mem_singleton]
    constructor
    · rintro (⟨h1, h2, h3⟩ | rfl)
      · exact ⟨h1, h2, by rw [he _ (fun hc => hF (by rw [← hc]; exact h3))]; exact h3⟩
      · exact hx
    · rintro ⟨h1, h2, h3⟩
      by_cases hv : v = x
      · exact .inr hv
      · exact .inl ⟨h1, h2, by rw [← he _ (by omega)]; exact h3⟩
  · rw [hp'.nodup_iff, List.nodup_append]
    refine ⟨h.nd, by simp, fun a ha b hb => ?_⟩
    simp at hb
    subst hb
    rintro rfl
    exact hF ((h.mem _).1 ha).2.2
theorem QI.grow {m : Nat} {D : Nat → Bool} {F : Nat → Nat} {hs zs : List IP} {c : Int} (h : QI m D F hs) (hp : zs.Perm (hs ++ [((m : Int), c)])) (hh : Heap2 zs) (hD : D m = false) (hF : F m = 0) : QI (m + 1 : Nat) D F zs := by
  have hp' := hp.map Prod.fst
  rw [List.map_append] at hp'
  refine ⟨hh, fun v => ?_, ?_⟩
  · rw [hp'.mem_iff, List.mem_append, h.mem]
    simp only [List.map_cons, List.map_nil, List.mem_singleton]
    constructor
    · rintro (⟨h1, h2, h3⟩ | rfl)
      · exact ⟨by omega, h2, h3⟩
      · exact ⟨by omega, by simpa using hD, by simpa using hF⟩
    · rintro ⟨h1, h2, h3⟩
      by_cases hv : v = m
      · exact .inr hv
      · exact .inl ⟨by omega, h2, h3⟩
  · rw [hp'.nodup_iff, List.nodup_append]
    refine ⟨h.nd, by simp, fun a ha b hb => ?_⟩
    simp at hb
    subst hb
    rintro rfl
    have := ((h.mem _).1 ha).1
    omega
theorem QI.skip {m : Nat} {D : Nat → Bool} {F : Nat → Nat} {hs : List IP} (h : QI m D F hs) (hF : F m ≠ 0) : QI (m + 1 : Nat) D F hs :=
  ⟨h.heap, fun v => by
    rw [h.mem]
    constructor
    · rintro ⟨h1, h2⟩; exact ⟨by omega, h2⟩
    · rintro ⟨h1, h2, h3⟩
      refine ⟨⟨h1.1, ?_⟩, h2, h3⟩
      apply Int.not_le.1; intro hc
      have : v = m := by omega
      subst this; simp at h3; exact hF h3, h.nd⟩
theorem QI.one {m : Nat} {D : Nat → Bool} {F : Nat → Nat} {c : Int} (h : ∀ v, v < m → F v ≠ 0) (hD : D m = false) (hF : F m = 0) : QI (m + 1 : Nat) D F [((m : Int), c)] :=
  ⟨fun k h1 h2 => by simp at h2; omega, fun v => by
    simp only [List.map_cons, List.map_nil, List.mem_singleton]
    constructor
    · rintro rfl; exact ⟨by omega, by simpa using hD, by simpa using hF⟩
    · rintro ⟨h1, h2, h3⟩
      apply Classical.byContradiction; intro hc
      exact h v.toNat (by omega) h3, by simp⟩
/-- The first of the queue is what comes next. -/
theorem QI.first {n : Int} {l : Arcs} {D : Nat → Bool} {hs : List IP} (h : QI n D (cnt l D) hs) (h0 : 0 < hs.length) : (hs.getD 0 ipd).1 = nextO n l D ∧ ¬ nextO n l D < 0 := by
  have hm : (hs.getD 0 ipd).1 ∈ hs.map Prod.fst := List.mem_map.2 ⟨hs.getD 0 ipd, by simp [List.getD_eq_getElem?_getD, h0], rfl⟩
  obtain ⟨h1, h2, h3⟩ := (h.mem _).1 hm
  have hav : avail l D (hs.getD 0 ipd).1.toNat = true := (avail_iff _ _ _).2 ⟨h2, h3⟩
  have hneg : ¬ nextO n l D < 0 := by
    intro hc
    rcases low_cases (avail l D) n.toNat 0 with ⟨g1, g2⟩ | ⟨i, g1, _⟩
    · rw [g2 _ (Nat.zero_le _) (by omega)] at hav; cases hav
    · unfold nextO at hc; omega
  obtain ⟨g1, g2, g3, g4⟩ := next_in hneg
  refine ⟨?_, hneg⟩
  have g5 := g4 _ (by omega) hav
  -- and it is not less
  obtain ⟨g6, g7⟩ := (avail_iff _ _ _).1 g3
  have hm2 := (h.mem (nextO n l D)).2 ⟨by omega, g6, g7⟩
  obtain ⟨p, hp, hpe⟩ := List.mem_map.1 hm2
  obtain ⟨k, hk, rfl⟩ := List.mem_iff_getElem.1 hp
  have := heap_min h.heap k hk
  have hg : hs.getD k ipd = hs[k] := by simp [List.getD_eq_getElem?_getD, hk]
  rw [hg] at this
  unfold qlt at this
  omega
/-- After the first was taken off. -/
theorem QI.pop {n : Int} {D : Nat → Bool} {F : Nat → Nat} {hs zs : List IP} (h : QI n D F hs) (h0 : 0 < hs.length) (hp : (hs.getD 0 ipd :: zs).Perm hs) (hh : Heap2 zs) : QI n (fun j => D j || j == (hs.getD 0 ipd).1.toNat) F zs := by
  have hm : (hs.getD 0 ipd).1 ∈ hs.map Prod.fst := List.mem_map.2 ⟨hs.getD 0 ipd, by simp [List.getD_eq_getElem?_getD, h0], rfl⟩
  have hx := (h.mem _).1 hm
  have hp' := hp.map Prod.fst
  have hnd := (hp'.nodup_iff).2 h.nd
  rw [List.map_cons, List.nodup_cons] at hnd
  refine ⟨hh, fun v => ?_, hnd.2⟩
  have h1 := (hp'.mem_iff (a := v)).symm.trans Iff.rfl
  rw [h.mem, List.map_cons, List.mem_cons] at h1
  constructor
  · intro hv
    obtain ⟨g1, g2, g3⟩ := h1.2 (.inr hv)
    refine ⟨g1, ?_, g3⟩
    have : v ≠ (hs.getD 0 ipd).1 := by rintro rfl; exact hnd.1 hv
    simp only [g2, Bool.false_or, beq_eq_false_iff_ne, ne_eq]
    omega
  · rintro ⟨g1, g2, g3⟩
    simp only [Bool.or_eq_false_iff, beq_eq_false_iff_ne, ne_eq] at g2
    rcases h1.1 ⟨g1, g2.1, g3⟩ with rfl | h4
    · exact absurd rfl g2.2
    · exact h4
end Go.Proofs.Ytegnnfbmbnpgdaa
namespace Go.Proofs.Ytegnnfbmbnpgdaa
open Go Go.Lft
set_option linter.unusedSimpArgs false
set_option linter.unusedVariables false
attribute [local congr] ob_congr bw_congr ib_congr ck_congr iwA_congr itA_congr aw_congr awp_congr sqA_congr bkA_congr vr_congr gd_congr

abbrev fN : Nat := n_graph_Order_1
/-- The memory: no queue yet; a queue. -/
abbrev om0 (w : Bool) (n : Int) (l : Arcs) (O : List Int) : List Blk := [⟨0, [.v (.int .i64 n), .fs w (pairs l)]⟩, ⟨0, ints O⟩, ⟨0, [.fn fN [], .v (.slice none 0 0), .v (.int .i64 0)]⟩]
abbrev om1 (w : Bool) (n : Int) (l : Arcs) (O : List Int) (x0 : Int) (qv nq : Nat) (ys : List IP) (c : Int) (T : List Blk) : List Blk :=
  ⟨0, [.v (.int .i64 n), .fs w (pairs l)]⟩ :: ⟨0, ints O⟩ :: ⟨0, [.fn fN [], .sl 4 qv 2 0 nq, .v (.int .i64 c)]⟩ :: ⟨0, pcells [(x0, 0)]⟩ :: ⟨qv, pcells ys⟩ :: T

theorem om1_qs {w : Bool} {n : Int} {l : Arcs} {O : List Int} {x0 : Int} {qv nq : Nat} {ys : List IP} {c : Int} {T : List Blk} (h1 : nq ≤ ys.length) (h2 : nq < 1000000000) : QS (om1 w n l O x0 qv nq ys c T) 2 4 qv fN ys nq c :=
  ⟨by simp (disch := ((try simp only [List.length_set, List.length_replicate, List.length_append, List.length_cons, List.length_nil]); omega)) only [aW, aX, aV, aB, aN, aL, aP, aH], by simp (disch := ((try simp only [List.length_set, List.length_replicate, List.length_append, List.length_cons, List.length_nil]); omega)) only [aW, aX, aV, aB, aN, aL, aP, aH], h1, by omega, h2⟩

structure OG where
  ys : List IP
  nq : Nat
  qv : Nat
  c : Int
structure OI (n : Int) (D : Nat → Bool) (F : Nat → Nat) (g : OG) (b : Int) : Prop where
  le : g.nq ≤ g.ys.length
  qi : QI n D F (g.ys.take g.nq)
  c0 : 0 ≤ g.c
  c1 : g.c ≤ b
  nc : g.nq ≤ g.c
def om2 (w : Bool) (n : Int) (l : Arcs) (O : List Int) : Option (OG × Int) → List Blk
  | none => om0 w n l O
  | some (g, x0) => om1 w n l O x0 g.qv g.nq g.ys g.c []

theorem ost_count (n : Int) (l : Arcs) : ∀ k, (ost n l k).2.length = k → (tab n.toNat (ost n l k).1).count false + k = n.toNat
  | 0, _ => by
    have : tab n.toNat (ost n l 0).1 = List.replicate n.toNat false := by
      rw [tab_rep]; rfl
    rw [this]; simp
  | k + 1, h => by
    have hs : ost n l (k + 1) = if nextO n l (ost n l k).1 < 0 then ost n l k else (fun j => (ost n l k).1 j || j == (nextO n l (ost n l k).1).toNat, (ost n l k).2 ++ [nextO n l (ost n l k).1]) := rfl
    rw [hs] at h ⊢
    by_cases hc : nextO n l (ost n l k).1 < 0
    · rw [if_pos hc] at h
      have := ost_len n l k
      omega
    · rw [if_neg hc] at h ⊢
      obtain ⟨n1, n2, n3, n4⟩ := next_in hc
      have hk : (ost n l k).2.length = k := by simpa using h
      have ih := ost_count n l k hk
      have hf := ((avail_iff _ _ _).1 n3).1
      have := count_set (tab n.toNat (ost n l k).1) (nextO n l (ost n l k).1).toNat (by rw [tab_len]; exact n2) (by rw [tab_get _ _ _ n2]; exact hf)
      rw [tab_set _ _ _ n2] at this
      simp only
      omega
theorem ost_lt (n : Int) (l : Arcs) (k : Nat) (h : (ost n l k).2.length = k) (hc : ¬ nextO n l (ost n l k).1 < 0) : k < n.toNat := by
  obtain ⟨n1, n2, n3, n4⟩ := next_in hc
  have ih := ost_count n l k h
  have hf := ((avail_iff _ _ _).1 n3).1
  have := count_set (tab n.toNat (ost n l k).1) (nextO n l (ost n l k).1).toNat (by rw [tab_len]; exact n2) (by rw [tab_get _ _ _ n2]; exact hf)
  omega
theorem mix_miss {l : Arcs} {D : Nat → Bool} {X i : Nat} (hi : i < l.length) (h : (l.getD i (0, 0)).1.toNat ≠ X) (v : Nat) : mix l D (fun j => D j || j == X) (i + 1) v = mix l D (fun j => D j || j == X) i v := by
  have := mix_step l D (fun j => D j || j == X) hi v
  rw [cnt_one, cnt_one] at this
  have h2 : ((l.getD i (0, 0)).1.toNat == X) = false := by simpa using h
  simp only [h2, Bool.or_false] at this
  omega
theorem mix_hit {l : Arcs} {D : Nat → Bool} {X i : Nat} (hi : i < l.length) (h : (l.getD i (0, 0)).1.toNat = X) (hD : D X = false) (v : Nat) : mix l D (fun j => D j || j == X) (i + 1) v + (if (l.getD i (0, 0)).2 = v then 1 else 0) = mix l D (fun j => D j || j == X) i v := by
  have := mix_step l D (fun j => D j || j == X) hi v
  rw [cnt_one, cnt_one, h] at this
  simp only [hD, beq_self_eq_true, Bool.or_true, and_true, reduceCtorEq, and_false, if_false] at this
  omega
theorem QI.same {n : Int} {D : Nat → Bool} {F F' : Nat → Nat} {hs : List IP} (h : QI n D F hs) (he : ∀ v, F' v = 0 ↔ F v = 0) : QI n D F' hs :=
  ⟨h.heap, fun v => by rw [h.mem, he], h.nd⟩

theorem order_vr {w : Bool} (n : Int) (l : Arcs) : VR P false n_graph_Order [graphA w n l] [] (isR (.tup [.fs true (ints (orderR n l).1), .v (.int .i64 (orderR n l).2)])) := by
  refine vr_graph_Order (by simp) (.inr rfl) fun _ _ => ?_
  unfold graphA
  simp (disch := ((try simp only [List.length_set, List.length_replicate, List.length_append, List.length_cons, List.length_nil]); omega)) only [aW, aX, aV, aB, aN, aL, aP, aH, s_graph_Order, v_graph_Order]
  refine (check_vr (w := w) n l).same (by unfold graphA; simp (disch := first | omega | simp (disch := omega) only [aF, aL, aN]) only [aW, aX, aV, aB, aN, aL, aP, aH, aF, Int.natCast_add, Int.natCast_mul, Int.add_sub_cancel, List.length_nil, Int.cast_ofNat_Int, and_true, true_and]) rfl (aret_of ?_)
  simp (disch := ((try simp only [List.length_set, List.length_replicate, List.length_append, List.length_cons, List.length_nil]); omega)) only [aW, aX, aV, aB, aN, aL, aP, aH]
  refine ib_intro (fun h1 => ?_) (fun h1 => ?_)
  · simp (disch := ((try simp only [List.length_set, List.length_replicate, List.length_append, List.length_cons, List.length_nil]); omega)) only [aW, aX, aV, aB, aN, aL, aP, aH, r_graph_Order]
    refine post_err ⟨?_, rfl⟩
    unfold orderR; rw [if_pos h1]; rfl
  have h1 : gcheck n l = 0 := Classical.not_not.1 h1
  obtain ⟨c1, c2, c3, c4⟩ := gcheck_ok h1
  simp (disch := ((try simp only [List.length_set, List.length_replicate, List.length_append, List.length_cons, List.length_nil]); omega)) only [aW, aX, aV, aB, aN, aL, aP, aH]
  refine AWP.loopP g_graph_Order_0 (fun i : Nat => i ≤ l.length) (fun i => [(5, .v (.int .i64 i))]) (fun i => [(1, ⟨0, ints (tabI 64 fun v => (cnt (l.take i) (fun _ => false) v : Int))⟩)]) (fun i => l.length - i) 0 (by omega) ?_ ?_
  · have e0 : tabI 64 (fun v => (cnt (l.take 0) (fun _ => false) v : Int)) = List.replicate 64 0 := by rw [tabI_rep]; rfl
    simp (disch := ((try simp only [List.length_set, List.length_replicate, List.length_append, List.length_cons, List.length_nil]); omega)) only [aW, aX, aV, aB, aN, aL, aP, aH, e0]
    exact Cut.of' 2 rfl (by omega) (by simp (disch := first | omega | simp (disch := omega) only [aF, aL, aN]) only [aW, aX, aV, aB, aN, aL, aP, aH, aF, Int.natCast_add, Int.natCast_mul, Int.add_sub_cancel, List.length_nil, Int.cast_ofNat_Int, and_true, true_and]) (by simp (disch := first | omega | simp (disch := omega) only [aF, aL, aN]) only [aW, aX, aV, aB, aN, aL, aP, aH, aF, Int.natCast_add, Int.natCast_mul, Int.add_sub_cancel, List.length_nil, Int.cast_ofNat_Int, and_true, true_and])
  rintro i hi
  by_cases hlt : i < l.length
  · have hmem : l.getD i (0, 0) ∈ l := by simp [List.getD_eq_getElem?_getD, hlt]
    obtain ⟨⟨r1, r2⟩, r3, r4⟩ := c4 _ hmem
    have hO := tabI_len 64 fun v => (cnt (l.take i) (fun _ => false) v : Int)
    have hOg := tabI_get 64 (fun v => (cnt (l.take i) (fun _ => false) v : Int)) (l.getD i (0, 0)).2.toNat (by omega)
    have hcb := cnt_le (l.take i) (fun _ => false) (l.getD i (0, 0)).2.toNat
    have hcb2 : (l.take i).length ≤ l.length := by simp; omega
    simp (disch := ((try simp only [List.length_set, List.length_replicate, List.length_append, List.length_cons, List.length_nil]); omega)) only [aW, aX, aV, aB, aN, aL, aP, aH, hOg]
    refine ⟨i + 1, by omega, by omega, ?_⟩
    have e1 : tabI 64 (fun v => (cnt (l.take (i + 1)) (fun _ => false) v : Int)) = (tabI 64 fun v => (cnt (l.take i) (fun _ => false) v : Int)).set (l.getD i (0, 0)).2.toNat (cnt (l.take i) (fun _ => false) (l.getD i (0, 0)).2.toNat + 1) := by
      rw [tabI_set _ _ _ _ (by omega)]
      refine tabI_ext fun v _ => ?_
      rw [take_succ_get l i (0, 0) hlt, cnt_app, cnt_one]
      by_cases hv : v = (l.getD i (0, 0)).2.toNat
      · subst hv; rw [if_pos (by constructor; omega; rfl), if_pos rfl]; omega
      · rw [if_neg (fun hc => hv (by omega)), if_neg hv]; omega
    simp only [e1]
    try simp (disch := ((try simp only [List.length_set, List.length_replicate, List.length_append, List.length_cons, List.length_nil]); omega)) only [aW, aX, aV, aB, aN, aL, aP, aH]
    exact Cut.of' 2 rfl (by omega) (by simp (disch := first | omega | simp (disch := omega) only [aF, aL, aN]) only [aW, aX, aV, aB, aN, aL, aP, aH, aF, Int.natCast_add, Int.natCast_mul, Int.add_sub_cancel, List.length_nil, Int.cast_ofNat_Int, and_true, true_and]) (by simp (disch := first | omega | simp (disch := omega) only [aF, aL, aN]) only [aW, aX, aV, aB, aN, aL, aP, aH, aF, Int.natCast_add, Int.natCast_mul, Int.add_sub_cancel, List.length_nil, Int.cast_ofNat_Int, and_true, true_and])
  have hil : i = l.length := by omega
  subst hil
  have hO := tabI_len 64 fun v => (cnt l (fun _ => false) v : Int)
  simp (disch := ((try simp only [List.length_set, List.length_replicate, List.length_append, List.length_cons, List.length_nil]); omega)) only [aW, aX, aV, aB, aN, aL, aP, aH, List.take_length]
  refine (qnew_vr fN).useO ⟨Ld.refl rfl, trivial⟩ (by rfl) (aret_of ?_)
  simp (disch := ((try simp only [List.length_set, List.length_replicate, List.length_append, List.length_cons, List.length_nil]); omega)) only [aW, aX, aV, aB, aN, aL, aP, aH, A.sh, A.shL, Blk.sh, List.map_cons, List.map_nil]
  have hzero : ∀ v, v < 64 → ((cnt l (fun _ => false) v : Int) = 0 ↔ cnt l (fun _ => false) v = 0) := fun v _ => by omega
  refine AWP.loopM (α := Nat × Option (OG × Int)) g_graph_Order_1 (fun p => p.1 ≤ n.toNat ∧ (match p.2 with | none => ∀ v, v < p.1 → cnt l (fun _ => false) v ≠ 0 | some (g, _) => OI p.1 (fun _ => false) (cnt l fun _ => false) g p.1))
    (fun p => [(12, .v (.int .i64 p.1))]) (fun p => om2 w n l (tabI 64 fun v => (cnt l (fun _ => false) v : Int)) p.2) (fun p => n.toNat - p.1) (0, none) ⟨by omega, fun v hv => by simp only at hv; omega⟩ ?_ ?_
  · simp (disch := ((try simp only [List.length_set, List.length_replicate, List.length_append, List.length_cons, List.length_nil]); omega)) only [aW, aX, aV, aB, aN, aL, aP, aH, om2, om0]
    exact Cut.of' 3 rfl (by omega) (by simp (disch := first | omega | simp (disch := omega) only [aF, aL, aN]) only [aW, aX, aV, aB, aN, aL, aP, aH, aF, Int.natCast_add, Int.natCast_mul, Int.add_sub_cancel, List.length_nil, Int.cast_ofNat_Int, and_true, true_and]) (by simp (disch := first | omega | simp (disch := omega) only [aF, aL, aN]) only [aW, aX, aV, aB, aN, aL, aP, aH, aF, Int.natCast_add, Int.natCast_mul, Int.add_sub_cancel, List.length_nil, Int.cast_ofNat_Int, and_true, true_and])
  rintro ⟨m, q⟩ ⟨hm, hq⟩
  simp only at hm hq
  by_cases hmt : m < n.toNat
  · have hg := tabI_get 64 (fun v => (cnt l (fun _ => false) v : Int)) m (by omega)
    cases q with
    | none =>
      simp only at hq
      by_cases h0 : cnt l (fun _ => false) m = 0
      · simp (disch := ((try simp only [List.length_set, List.length_replicate, List.length_append, List.length_cons, List.length_nil]); omega)) only [aW, aX, aV, aB, aN, aL, aP, aH, om2, om0, hg, h0]
        refine (qpush0_vr (H := om0 w n l (tabI 64 fun v => (cnt l (fun _ => false) v : Int))) (i := 2) (f := fN) (c := 0) (by simp (disch := ((try simp only [List.length_set, List.length_replicate, List.length_append, List.length_cons, List.length_nil]); omega)) only [aW, aX, aV, aB, aN, aL, aP, aH]) m (by omega) (by omega)).mono ?_
        rintro r H' rfl
        refine aret_of ?_
        simp (disch := ((try simp only [List.length_set, List.length_replicate, List.length_append, List.length_cons, List.length_nil]); omega)) only [aW, aX, aV, aB, aN, aL, aP, aH, om0]
        refine ⟨(m + 1, some (⟨[((m : Int), 0)], 1, 0, 0 + 1⟩, (m : Int))), ⟨by simp only; omega, ?_⟩, by simp only; omega, ?_⟩
        · exact ⟨by simp, QI.one hq rfl h0, by simp, by simp only; omega, by simp⟩
        · exact Cut.of' 5 rfl (by omega) (by simp (disch := first | omega | simp (disch := omega) only [aF, aL, aN]) only [aW, aX, aV, aB, aN, aL, aP, aH, aF, Int.natCast_add, Int.natCast_mul, Int.add_sub_cancel, List.length_nil, Int.cast_ofNat_Int, and_true, true_and, om2, om1]) (by simp (disch := first | omega | simp (disch := omega) only [aF, aL, aN]) only [aW, aX, aV, aB, aN, aL, aP, aH, aF, Int.natCast_add, Int.natCast_mul, Int.add_sub_cancel, List.length_nil, Int.cast_ofNat_Int, and_true, true_and])
      · simp (disch := ((try simp only [List.length_set, List.length_replicate, List.length_append, List.length_cons, List.length_nil]); omega)) only [aW, aX, aV, aB, aN, aL, aP, aH, om2, om0, hg, h0]
        refine ⟨(m + 1, none), ⟨by simp only; omega, fun v hv => ?_⟩, by simp only; omega, ?_⟩
        · simp only at hv
          by_cases hvm : v = m
          · subst hvm; exact h0
          · exact hq v (by omega)
        · exact Cut.of' 3 rfl (by omega) (by simp (disch := first | omega | simp (disch := omega) only [aF, aL, aN]) only [aW, aX, aV, aB, aN, aL, aP, aH, aF, Int.natCast_add, Int.natCast_mul, Int.add_sub_cancel, List.length_nil, Int.cast_ofNat_Int, and_true, true_and, om2, om0]) (by simp (disch := first | omega | simp (disch := omega) only [aF, aL, aN]) only [aW, aX, aV, aB, aN, aL, aP, aH, aF, Int.natCast_add, Int.natCast_mul, Int.add_sub_cancel, List.length_nil, Int.cast_ofNat_Int, and_true, true_and])
    | some gx =>
      obtain ⟨g, x0⟩ := gx
      simp only at hq
      have hc0 := hq.c0
      have hc1 := hq.c1
      have hnc := hq.nc
      by_cases h0 : cnt l (fun _ => false) m = 0
      · simp (disch := ((try simp only [List.length_set, List.length_replicate, List.length_append, List.length_cons, List.length_nil]); omega)) only [aW, aX, aV, aB, aN, aL, aP, aH, om2, om1, hg, h0]
        refine (qpush_vr order1_lt (om1_qs (w := w) (n := n) (l := l) (O := tabI 64 fun v => (cnt l (fun _ => false) v : Int)) (x0 := x0) (T := []) hq.le (by omega)) hq.qi.heap m hc0 (by omega) (by omega)).mono ?_
        rintro r H' ⟨zs, z1, z2, z3, rfl⟩
        refine aret_of ?_
        simp (disch := ((try simp only [List.length_set, List.length_replicate, List.length_append, List.length_cons, List.length_nil]); omega)) only [aW, aX, aV, aB, aN, aL, aP, aH, om1]
        refine ⟨(m + 1, some (⟨zs, g.nq + 1, g.qv + 1, g.c + 1⟩, x0)), ⟨by simp only; omega, ?_⟩, by simp only; omega, ?_⟩
        · have hzt : zs.take (g.nq + 1) = zs := List.take_of_length_le (by omega)
          exact ⟨by simp only; omega, by simp only; rw [hzt]; exact hq.qi.grow z2 z3 rfl h0, by simp only; omega, by simp only; omega, by simp only; omega⟩
        · exact Cut.of' 5 rfl (by omega) (by simp (disch := first | omega | simp (disch := omega) only [aF, aL, aN]) only [aW, aX, aV, aB, aN, aL, aP, aH, aF, Int.natCast_add, Int.natCast_mul, Int.add_sub_cancel, List.length_nil, Int.cast_ofNat_Int, and_true, true_and, om2, om1]) (by simp (disch := first | omega | simp (disch := omega) only [aF, aL, aN]) only [aW, aX, aV, aB, aN, aL, aP, aH, aF, Int.natCast_add, Int.natCast_mul, Int.add_sub_cancel, List.length_nil, Int.cast_ofNat_Int, and_true, true_and])
      · simp (disch := ((try simp only [List.length_set, List.length_replicate, List.length_append, List.length_cons, List.length_nil]); omega)) only [aW, aX, aV, aB, aN, aL, aP, aH, om2, om1, hg, h0]
        refine ⟨(m + 1, some (g, x0)), ⟨by simp only; omega, ⟨hq.le, hq.qi.skip h0, hq.c0, by simp only; omega, hq.nc⟩⟩, by simp only; omega, ?_⟩
        exact Cut.of' 5 rfl (by omega) (by simp (disch := first | omega | simp (disch := omega) only [aF, aL, aN]) only [aW, aX, aV, aB, aN, aL, aP, aH, aF, Int.natCast_add, Int.natCast_mul, Int.add_sub_cancel, List.length_nil, Int.cast_ofNat_Int, and_true, true_and, om2, om1]) (by simp (disch := first | omega | simp (disch := omega) only [aF, aL, aN]) only [aW, aX, aV, aB, aN, aL, aP, aH, aF, Int.natCast_add, Int.natCast_mul, Int.add_sub_cancel, List.length_nil, Int.cast_ofNat_Int, and_true, true_and])
  have hmn : m = n.toNat := by omega
  subst hmn
  cases q with
  | none =>
    simp only at hq
    simp (disch := ((try simp only [List.length_set, List.length_replicate, List.length_append, List.length_cons, List.length_nil]); omega)) only [aW, aX, aV, aB, aN, aL, aP, aH, om2, om0]
    refine AWP.once ?_
    simp (disch := ((try simp only [List.length_set, List.length_replicate, List.length_append, List.length_cons, List.length_nil]); omega)) only [aW, aX, aV, aB, aN, aL, aP, aH]
    refine (qpop0_vr (f := fN) (v := .v (.slice none 0 0)) (c := 0) (by simp (disch := ((try simp only [List.length_set, List.length_replicate, List.length_append, List.length_cons, List.length_nil]); omega)) only [aW, aX, aV, aB, aN, aL, aP, aH]) (ld_nilA _)).mono ?_
    rintro r H' ⟨rfl, rfl⟩
    refine aret_of ?_
    have hneg : nextO n l (fun _ => false) < 0 := next_none fun v hv => by
      rw [← Bool.not_eq_true, avail_iff]; exact fun hc => hq v hv hc.2
    have hend : ost n l n.toNat = ost n l 0 := ost_end n l (Nat.zero_le _) hneg
    by_cases hn0 : 0 < n.toNat
    · simp (disch := ((try simp only [List.length_set, List.length_replicate, List.length_append, List.length_cons, List.length_nil]); omega)) only [aW, aX, aV, aB, aN, aL, aP, aH, r_graph_Order]
      refine post_err ⟨?_, rfl⟩
      unfold orderR; rw [if_neg (by simp [h1]), hend, if_pos (by simpa [ost] using hn0)]; rfl
    · simp (disch := ((try simp only [List.length_set, List.length_replicate, List.length_append, List.length_cons, List.length_nil]); omega)) only [aW, aX, aV, aB, aN, aL, aP, aH, r_graph_Order]
      refine post_err ⟨?_, rfl⟩
      unfold orderR; rw [if_neg (by simp [h1]), hend, if_neg (by simpa [ost] using hn0)]; rfl
  | some gx =>
    obtain ⟨g, x0⟩ := gx
    simp only at hq
    simp (disch := ((try simp only [List.length_set, List.length_replicate, List.length_append, List.length_cons, List.length_nil]); omega)) only [aW, aX, aV, aB, aN, aL, aP, aH, om2, om1]
    refine AWP.cut (Cut.virt 16 1 rfl) ?_
    refine AWP.loopM (α := Nat × Nat × OG) g_graph_Order_2 (fun p => p.1 ≤ n.toNat ∧ (ost n l p.1).2.length = p.1 ∧ OI n (ost n l p.1).1 (cnt l (ost n l p.1).1) p.2.2 (64 + 512 * p.1))
      (fun p => [(16, .vs 5 p.2.1 1 p.1)]) (fun p => om1 w n l (tabI 64 fun v => (cnt l (ost n l p.1).1 v : Int)) x0 p.2.2.qv p.2.2.nq p.2.2.ys p.2.2.c [⟨p.2.1, ints (ost n l p.1).2⟩]) (fun p => n.toNat - p.1) (0, 0, g) ⟨by simp, rfl, ?_⟩ ?_ ?_
    · have hnn : ((n.toNat : Nat) : Int) = n := by omega
      rw [hnn] at hq
      exact ⟨hq.le, hq.qi, hq.c0, by have := hq.c1; simp only; omega, hq.nc⟩
    · simp (disch := ((try simp only [List.length_set, List.length_replicate, List.length_append, List.length_cons, List.length_nil]); omega)) only [aW, aX, aV, aB, aN, aL, aP, aH, om1]
      exact Cut.of' 6 rfl (by omega) (by simp (disch := first | omega | simp (disch := omega) only [aF, aL, aN]) only [aW, aX, aV, aB, aN, aL, aP, aH, aF, Int.natCast_add, Int.natCast_mul, Int.add_sub_cancel, List.length_nil, Int.cast_ofNat_Int, and_true, true_and, om1, ost, ii_nil]) (by simp (disch := first | omega | simp (disch := omega) only [aF, aL, aN]) only [aW, aX, aV, aB, aN, aL, aP, aH, aF, Int.natCast_add, Int.natCast_mul, Int.add_sub_cancel, List.length_nil, Int.cast_ofNat_Int, and_true, true_and])
    clear hq
    rintro ⟨k, vo, g⟩ ⟨hk, hol, hq⟩
    simp only at hk hol hq
    have hc0 := hq.c0
    have hc1 := hq.c1
    have hnc := hq.nc
    by_cases hq0 : g.nq = 0
    · have hqs : QS (om1 w n l (tabI 64 fun v => (cnt l (ost n l k).1 v : Int)) x0 g.qv g.nq g.ys g.c [⟨vo, ints (ost n l k).2⟩]) 2 4 g.qv fN g.ys g.nq g.c := om1_qs hq.le (by omega)
      have hneg : nextO n l (ost n l k).1 < 0 := next_none fun v hv => by
        rw [← Bool.not_eq_true, avail_iff]
        intro hc
        have := (hq.qi.mem v).2 ⟨by omega, by simpa using hc.1, by simpa using hc.2⟩
        rw [hq0] at this; simp at this
      have hend := ost_end n l hk hneg
      simp (disch := ((try simp only [List.length_set, List.length_replicate, List.length_append, List.length_cons, List.length_nil]); omega)) only [aW, aX, aV, aB, aN, aL, aP, aH, om1]
      refine (qpop0_vr (H := om1 w n l (tabI 64 fun v => (cnt l (ost n l k).1 v : Int)) x0 g.qv g.nq g.ys g.c [⟨vo, ints (ost n l k).2⟩]) (f := fN) (v := .sl 4 g.qv 2 0 g.nq) (c := g.c) (by simp (disch := ((try simp only [List.length_set, List.length_replicate, List.length_append, List.length_cons, List.length_nil]); omega)) only [aW, aX, aV, aB, aN, aL, aP, aH]) ?_).mono ?_
      · have := ld_slPt (om1 w n l (tabI 64 fun v => (cnt l (ost n l k).1 v : Int)) x0 g.qv g.nq g.ys g.c [⟨vo, ints (ost n l k).2⟩]) 4 g.qv g.nq g.ys hq.le (by simp (disch := ((try simp only [List.length_set, List.length_replicate, List.length_append, List.length_cons, List.length_nil]); omega)) only [aW, aX, aV, aB, aN, aL, aP, aH])
        rw [hq0] at this ⊢; simpa using this
      rintro r H' ⟨rfl, rfl⟩
      refine aret_of ?_
      by_cases hkn : k < n.toNat
      · simp (disch := ((try simp only [List.length_set, List.length_replicate, List.length_append, List.length_cons, List.length_nil]); omega)) only [aW, aX, aV, aB, aN, aL, aP, aH, r_graph_Order, om1]
        refine post_err ⟨?_, rfl⟩
        unfold orderR; rw [if_neg (by simp [h1]), hend, if_pos (by omega)]; rfl
      · simp (disch := ((try simp only [List.length_set, List.length_replicate, List.length_append, List.length_cons, List.length_nil]); omega)) only [aW, aX, aV, aB, aN, aL, aP, aH, r_graph_Order, om1]
        refine post0 (r := .tup [.fs true (ints (ost n l k).2), .v (.int .i64 0)]) (Fz.tup ⟨fz_vsI _ _ _ _ _ _ (by omega) hol.symm (by simp (disch := ((try simp only [List.length_set, List.length_replicate, List.length_append, List.length_cons, List.length_nil]); omega)) only [aW, aX, aV, aB, aN, aL, aP, aH]), Fz.refl rfl, trivial⟩) ⟨?_, rfl⟩
        unfold orderR; rw [if_neg (by simp [h1]), hend, if_neg (by omega)]
    · have hql : 0 < (g.ys.take g.nq).length := by rw [lenT hq.le]; omega
      obtain ⟨hx, hneg⟩ := hq.qi.first hql
      obtain ⟨n1, n2, n3, n4⟩ := next_in hneg
      have hy0 : (g.ys.take g.nq).getD 0 ipd = g.ys.getD 0 ipd := by
        have : 0 < g.nq := by omega
        simp [List.getD_eq_getElem?_getD, List.getElem?_take, this]
      have hkn : k < n.toNat := ost_lt n l k hol hneg
      have hD := ((avail_iff _ _ _).1 n3).1
      have hself := cnt_zero.1 ((avail_iff _ _ _).1 n3).2
      have hclo := ost_clo n l c4 k
      simp (disch := ((try simp only [List.length_set, List.length_replicate, List.length_append, List.length_cons, List.length_nil]); omega)) only [aW, aX, aV, aB, aN, aL, aP, aH, om1]
      refine (qpop_vr (H := om1 w n l (tabI 64 fun v => (cnt l (ost n l k).1 v : Int)) x0 g.qv g.nq g.ys g.c [⟨vo, ints (ost n l k).2⟩]) order1_lt (om1_qs hq.le (by omega)) (by omega) hq.qi.heap).mono ?_
      rintro r H' ⟨rfl, zs, z1, z2, z3, rfl⟩
      refine aret_of ?_
      have hx' : (g.ys.getD 0 ipd).1 = nextO n l (ost n l k).1 := by rw [← hy0]; exact hx
      rw [hx']
      have hpop := hq.qi.pop hql (by rw [hy0]; exact z2) z3
      rw [hy0, hx'] at hpop
      have hst : ost n l (k + 1) = (fun j => (ost n l k).1 j || j == (nextO n l (ost n l k).1).toNat, (ost n l k).2 ++ [nextO n l (ost n l k).1]) := by simp only [ost]; rw [if_neg hneg]
      have hO := tabI_len 64 fun v => (cnt l (ost n l k).1 v : Int)
      generalize hX : nextO n l (ost n l k).1 = x at *
      have hle := hq.le
      have hl512 : l.length ≤ 512 := c3
      have hn64 : n ≤ 64 := c2
      simp (disch := ((try simp only [List.length_set, List.length_replicate, List.length_append, List.length_cons, List.length_nil]); omega)) only [aW, aX, aV, aB, aN, aL, aP, aH, om1]
      refine AWP.loopM (α := Nat × OG) g_graph_Order_3 (fun p => p.1 ≤ l.length ∧ OI n (fun j => (ost n l k).1 j || j == x.toNat) (mix l (ost n l k).1 (fun j => (ost n l k).1 j || j == x.toNat) p.1) p.2 (64 + 512 * k + p.1))
        (fun p => [(19, .v (.int .i64 p.1))]) (fun p => om1 w n l (tabI 64 fun v => (mix l (ost n l k).1 (fun j => (ost n l k).1 j || j == x.toNat) p.1 v : Int)) x0 p.2.qv p.2.nq p.2.ys p.2.c [⟨vo + 1, ints ((ost n l k).2 ++ [x])⟩, ⟨0, [.v (.int .i64 x)]⟩]) (fun p => l.length - p.1) (0, ⟨zs, g.nq - 1, g.qv, g.c⟩) ⟨by simp, ?_⟩ ?_ ?_
      · refine ⟨by simp only; omega, hpop.same fun v => by simp only [mix_zero], hq.c0, by simp only; omega, by simp only; omega⟩
      · simp only [mix_zero]
        try simp (disch := ((try simp only [List.length_set, List.length_replicate, List.length_append, List.length_cons, List.length_nil]); omega)) only [aW, aX, aV, aB, aN, aL, aP, aH]
        exact Cut.of' 7 rfl (by omega) (by simp (disch := first | omega | simp (disch := omega) only [aF, aL, aN]) only [aW, aX, aV, aB, aN, aL, aP, aH, aF, Int.natCast_add, Int.natCast_mul, Int.add_sub_cancel, List.length_nil, Int.cast_ofNat_Int, and_true, true_and, om1]) (by simp (disch := first | omega | simp (disch := omega) only [aF, aL, aN]) only [aW, aX, aV, aB, aN, aL, aP, aH, aF, Int.natCast_add, Int.natCast_mul, Int.add_sub_cancel, List.length_nil, Int.cast_ofNat_Int, and_true, true_and])
      clear hpop z1 z2 z3 zs
      rintro ⟨i, g'⟩ ⟨hi, hI⟩
      simp only at hi hI
      have hc0' := hI.c0
      have hc1' := hI.c1
      have hnc' := hI.nc
      by_cases hlt : i < l.length
      · have hmem : l.getD i (0, 0) ∈ l := by simp [List.getD_eq_getElem?_getD, hlt]
        obtain ⟨⟨r1, r2⟩, r3, r4⟩ := c4 _ hmem
        have hOl := tabI_len 64 fun v => (mix l (ost n l k).1 (fun j => (ost n l k).1 j || j == x.toNat) i v : Int)
        have hOg := tabI_get 64 (fun v => (mix l (ost n l k).1 (fun j => (ost n l k).1 j || j == x.toNat) i v : Int)) (l.getD i (0, 0)).2.toNat (by omega)
        have hml := mix_le l (ost n l k).1 (fun j => (ost n l k).1 j || j == x.toNat) i (l.getD i (0, 0)).2.toNat
        by_cases hax : (l.getD i (0, 0)).1 = x
        · have hhit := fun v => mix_hit (v := v) hlt (show (l.getD i (0, 0)).1.toNat = x.toNat by rw [hax]) hD
          have hh1 := hhit (l.getD i (0, 0)).2.toNat
          rw [if_pos (by omega)] at hh1
          have e1 : (tabI 64 fun v => (mix l (ost n l k).1 (fun j => (ost n l k).1 j || j == x.toNat) i v : Int)).set (l.getD i (0, 0)).2.toNat ((mix l (ost n l k).1 (fun j => (ost n l k).1 j || j == x.toNat) i (l.getD i (0, 0)).2.toNat : Int) - 1) = tabI 64 fun v => (mix l (ost n l k).1 (fun j => (ost n l k).1 j || j == x.toNat) (i + 1) v : Int) := by
            rw [tabI_set _ _ _ _ (by omega)]
            refine tabI_ext fun v _ => ?_
            have hv := hhit v
            by_cases hva : v = (l.getD i (0, 0)).2.toNat
            · subst hva; rw [if_pos rfl]; omega
            · rw [if_neg (by omega)] at hv; rw [if_neg hva]; omega
          have hOg' := tabI_get 64 (fun v => (mix l (ost n l k).1 (fun j => (ost n l k).1 j || j == x.toNat) (i + 1) v : Int)) (l.getD i (0, 0)).2.toNat (by omega)
          have hOl' := tabI_len 64 fun v => (mix l (ost n l k).1 (fun j => (ost n l k).1 j || j == x.toNat) (i + 1) v : Int)
          have hml' := mix_le l (ost n l k).1 (fun j => (ost n l k).1 j || j == x.toNat) (i + 1) (l.getD i (0, 0)).2.toNat
          have hrest : ∀ v, v ≠ (l.getD i (0, 0)).2.toNat → mix l (ost n l k).1 (fun j => (ost n l k).1 j || j == x.toNat) (i + 1) v = mix l (ost n l k).1 (fun j => (ost n l k).1 j || j == x.toNat) i v := fun v hv => by
            have := hhit v; rw [if_neg (by omega)] at this; omega
          have hfree : (ost n l k).1 (l.getD i (0, 0)).2.toNat = false ∧ (l.getD i (0, 0)).2.toNat ≠ x.toNat := by
            constructor
            · rw [← Bool.not_eq_true]; intro hc
              have := hclo _ hmem hc
              rw [hax, hD] at this; cases this
            · intro hc
              have := hself _ hmem (by omega)
              rw [hax, hD] at this; cases this
          simp (disch := ((try simp only [List.length_set, List.length_replicate, List.length_append, List.length_cons, List.length_nil]); omega)) only [aW, aX, aV, aB, aN, aL, aP, aH, om1, hOg, hax, e1]
          by_cases hz : mix l (ost n l k).1 (fun j => (ost n l k).1 j || j == x.toNat) (i + 1) (l.getD i (0, 0)).2.toNat = 0
          · simp (disch := ((try simp only [List.length_set, List.length_replicate, List.length_append, List.length_cons, List.length_nil]); omega)) only [aW, aX, aV, aB, aN, aL, aP, aH, hOg', hz]
            refine (qpush_vr order1_lt (H := om1 w n l (tabI 64 fun v => (mix l (ost n l k).1 (fun j => (ost n l k).1 j || j == x.toNat) (i + 1) v : Int)) x0 g'.qv g'.nq g'.ys g'.c [⟨vo + 1, ints ((ost n l k).2 ++ [x])⟩, ⟨0, [.v (.int .i64 x)]⟩, ⟨0, [.v (.int .i64 x), .v (.int .i64 (l.getD i (0, 0)).2)]⟩]) (om1_qs hI.le (by omega)) hI.qi.heap (l.getD i (0, 0)).2 hc0' (by omega) (by omega)).mono ?_
            rintro r H' ⟨zs, z1, z2, z3, rfl⟩
            refine aret_of ?_
            simp (disch := ((try simp only [List.length_set, List.length_replicate, List.length_append, List.length_cons, List.length_nil]); omega)) only [aW, aX, aV, aB, aN, aL, aP, aH, om1]
            refine ⟨(i + 1, ⟨zs, g'.nq + 1, g'.qv + 1, g'.c + 1⟩), ⟨by simp only; omega, ⟨by simp only; omega, ?_, by simp only; omega, by simp only; omega, by simp only; omega⟩⟩, by simp only; omega, ?_⟩
            · have hzt : zs.take (g'.nq + 1) = zs := List.take_of_length_le (by omega)
              simp only [hzt]
              refine hI.qi.push z2 z3 ⟨⟨r3, r4⟩, ?_, hz⟩ (by omega) hrest
              simp only [hfree.1, Bool.false_or, beq_eq_false_iff_ne, ne_eq]
              exact hfree.2
            · exact Cut.of' 7 rfl (by omega) (by simp (disch := first | omega | simp (disch := omega) only [aF, aL, aN]) only [aW, aX, aV, aB, aN, aL, aP, aH, aF, Int.natCast_add, Int.natCast_mul, Int.add_sub_cancel, List.length_nil, Int.cast_ofNat_Int, and_true, true_and, om1]) (by simp (disch := first | omega | simp (disch := omega) only [aF, aL, aN]) only [aW, aX, aV, aB, aN, aL, aP, aH, aF, Int.natCast_add, Int.natCast_mul, Int.add_sub_cancel, List.length_nil, Int.cast_ofNat_Int, and_true, true_and])
          · simp (disch := ((try simp only [List.length_set, List.length_replicate, List.length_append, List.length_cons, List.length_nil]); omega)) only [aW, aX, aV, aB, aN, aL, aP, aH, hOg', hz]
            refine ⟨(i + 1, g'), ⟨by simp only; omega, ⟨hI.le, hI.qi.same fun v => ?_, hI.c0, by simp only; omega, hI.nc⟩⟩, by simp only; omega, ?_⟩
            · by_cases hv : v = (l.getD i (0, 0)).2.toNat
              · rw [hv]; exact ⟨fun h => absurd h hz, fun h => by omega⟩
              · rw [hrest v hv]
            · exact Cut.of' 7 rfl (by omega) (by simp (disch := first | omega | simp (disch := omega) only [aF, aL, aN]) only [aW, aX, aV, aB, aN, aL, aP, aH, aF, Int.natCast_add, Int.natCast_mul, Int.add_sub_cancel, List.length_nil, Int.cast_ofNat_Int, and_true, true_and, om1]) (by simp (disch := first | omega | simp (disch := omega) only [aF, aL, aN]) only [aW, aX, aV, aB, aN, aL, aP, aH, aF, Int.natCast_add, Int.natCast_mul, Int.add_sub_cancel, List.length_nil, Int.cast_ofNat_Int, and_true, true_and])
        · have hmiss := fun v => mix_miss (v := v) (D := (ost n l k).1) hlt (show (l.getD i (0, 0)).1.toNat ≠ x.toNat by omega)
          simp (disch := ((try simp only [List.length_set, List.length_replicate, List.length_append, List.length_cons, List.length_nil]); omega)) only [aW, aX, aV, aB, aN, aL, aP, aH, om1]
          refine ⟨(i + 1, g'), ⟨by simp only; omega, ⟨hI.le, hI.qi.same fun v => by rw [hmiss], hI.c0, by simp only; omega, hI.nc⟩⟩, by simp only; omega, ?_⟩
          simp only [hmiss]
          exact Cut.of' 7 rfl (by omega) (by simp (disch := first | omega | simp (disch := omega) only [aF, aL, aN]) only [aW, aX, aV, aB, aN, aL, aP, aH, aF, Int.natCast_add, Int.natCast_mul, Int.add_sub_cancel, List.length_nil, Int.cast_ofNat_Int, and_true, true_and, om1]) (by simp (disch := first | omega | simp (disch := omega) only [aF, aL, aN]) only [aW, aX, aV, aB, aN, aL, aP, aH, aF, Int.natCast_add, Int.natCast_mul, Int.add_sub_cancel, List.length_nil, Int.cast_ofNat_Int, and_true, true_and])
      · have hil : i = l.length := by omega
        subst hil
        simp (disch := ((try simp only [List.length_set, List.length_replicate, List.length_append, List.length_cons, List.length_nil]); omega)) only [aW, aX, aV, aB, aN, aL, aP, aH, om1]
        refine ⟨(k + 1, vo + 1, g'), ⟨by simp only; omega, by simp only [hst]; simp [hol], ?_⟩, by simp only; omega, ?_⟩
        · simp only [hst]
          exact ⟨hI.le, hI.qi.same fun v => by rw [mix_all], hI.c0, by omega, hI.nc⟩
        · simp only [hst, mix_all]
          exact Cut.of' 6 rfl (by omega) (by simp (disch := first | omega | simp (disch := omega) only [aF, aL, aN]) only [aW, aX, aV, aB, aN, aL, aP, aH, aF, Int.natCast_add, Int.natCast_mul, Int.add_sub_cancel, List.length_nil, Int.cast_ofNat_Int, and_true, true_and, om1]) (by simp (disch := first | omega | simp (disch := omega) only [aF, aL, aN]) only [aW, aX, aV, aB, aN, aL, aP, aH, aF, Int.natCast_add, Int.natCast_mul, Int.add_sub_cancel, List.length_nil, Int.cast_ofNat_Int, and_true, true_and])
end Go.Proofs.Ytegnnfbmbnpgdaa
namespace Go.Proofs.Ytegnnfbmbnpgdaa
open Go Go.Lft
set_option linter.unusedSimpArgs false
set_option linter.unusedVariables false

theorem low_eq {p : Nat → Bool} {b m k : Nat} : low p b m = (k : Int) ↔ b ≤ k ∧ k < b + m ∧ p k = true ∧ ∀ i, b ≤ i → i < k → p i = false := by
  rcases low_cases p m b with ⟨h1, h2⟩ | ⟨i, h1, h2, h3, h4, h5⟩
  · rw [h1]
    constructor
    · intro h; omega
    · rintro ⟨g1, g2, g3, _⟩
      rw [h2 k g1 g2] at g3; cases g3
  · rw [h1]
    constructor
    · intro h
      have : i = k := by omega
      subst this; exact ⟨h2, h3, h4, h5⟩
    · rintro ⟨g1, g2, g3, g4⟩
      have : i = k := by
        rcases Nat.lt_trichotomy i k with h | h | h
        · rw [g4 i h2 h] at h4; cases h4
        · exact h
        · rw [h5 k g1 h] at g3; cases g3
      rw [this]
theorem low_neg {p : Nat → Bool} {b m : Nat} : low p b m < 0 ↔ ∀ i, b ≤ i → i < b + m → p i = false := by
  rcases low_cases p m b with ⟨h1, h2⟩ | ⟨i, h1, h2, h3, h4, h5⟩
  · rw [h1]; exact ⟨fun _ => h2, fun _ => by omega⟩
  · rw [h1]
    exact ⟨fun h => by omega, fun h => by rw [h i h2 h3] at h4; cases h4⟩
theorem low_m1 {p : Nat → Bool} {b m : Nat} (h : low p b m < 0) : low p b m = -1 := by
  rcases low_cases p m b with ⟨h1, h2⟩ | ⟨i, h1, _⟩
  · exact h1
  · omega
theorem low_nat {p : Nat → Bool} {b m : Nat} (h : ¬ low p b m < 0) : ∃ k : Nat, low p b m = k := by
  rcases low_cases p m b with ⟨h1, h2⟩ | ⟨i, h1, _⟩
  · omega
  · exact ⟨i, h1⟩
theorem low_up {p : Nat → Bool} {b m : Nat} (m' : Nat) (hm : m ≤ m') (h : ¬ low p b m < 0) : low p b m' = low p b m := by
  obtain ⟨k, hk⟩ := low_nat h
  rw [hk]
  obtain ⟨h1, h2, h3, h4⟩ := low_eq.1 hk
  exact low_eq.2 ⟨h1, by omega, h3, h4⟩
theorem low_next {p : Nat → Bool} {b m : Nat} : low p b (m + 1) = if low p b m < 0 then if p (b + m) = true then ((b + m : Nat) : Int) else -1 else low p b m := by
  split
  · rename_i h
    have h' := low_neg.1 h
    split
    · rename_i hp
      exact low_eq.2 ⟨by omega, by omega, hp, fun i h1 h2 => h' i h1 h2⟩
    · rename_i hp
      refine low_m1 (low_neg.2 fun i h1 h2 => ?_)
      by_cases hi : i = b + m
      · subst hi; simpa using hp
      · exact h' i h1 (by omega)
  · rename_i h
    exact low_up _ (by omega) h

/-- A way of so many arcs to t; one over nodes from s on, to s. -/
def wk (l : Arcs) (t : Int) : Nat → Int → Bool
  | 0, v => v == t
  | d + 1, v => l.any fun a => a.1 == v && wk l t d a.2
def wg (l : Arcs) (s : Int) : Nat → Int → Bool
  | 0, v => v == s
  | d + 1, v => decide (s ≤ v) && l.any fun a => a.1 == v && wg l s d a.2
theorem wk_succ {l : Arcs} {t v : Int} {d : Nat} : wk l t (d + 1) v = true ↔ ∃ a ∈ l, a.1 = v ∧ wk l t d a.2 = true := by
  simp only [wk, List.any_eq_true, Bool.and_eq_true, beq_iff_eq]
theorem wg_succ {l : Arcs} {s v : Int} {d : Nat} : wg l s (d + 1) v = true ↔ s ≤ v ∧ ∃ a ∈ l, a.1 = v ∧ wg l s d a.2 = true := by
  simp only [wg, List.any_eq_true, Bool.and_eq_true, beq_iff_eq, decide_eq_true_eq]
theorem wk_app {l : Arcs} {t u : Int} : ∀ {j k : Nat} {v : Int}, wk l t j v = true → wk l u k t = true → wk l u (j + k) v = true
  | 0, k, v, h1, h2 => by
    have : v = t := by simpa [wk] using h1
    rw [this, Nat.zero_add]; exact h2
  | j + 1, k, v, h1, h2 => by
    obtain ⟨a, h3, h4, h5⟩ := wk_succ.1 h1
    rw [show j + 1 + k = (j + k) + 1 by omega]
    exact wk_succ.2 ⟨a, h3, h4, wk_app h5 h2⟩
theorem wg_wk {l : Arcs} {s : Int} : ∀ {d : Nat} {v : Int}, wg l s d v = true → wk l s d v = true
  | 0, v, h => h
  | d + 1, v, h => by
    obtain ⟨_, a, h3, h4, h5⟩ := wg_succ.1 h
    exact wk_succ.2 ⟨a, h3, h4, wg_wk h5⟩
theorem wk_in {n : Int} {l : Arcs} (hr : inR n l) {t : Int} (ht : 0 ≤ t ∧ t < n) : ∀ {d : Nat} {v : Int}, wk l t d v = true → 0 ≤ v ∧ v < n
  | 0, v, h => by
    have : v = t := by simpa [wk] using h
    rw [this]; exact ht
  | d + 1, v, h => by
    obtain ⟨a, h3, h4, h5⟩ := wk_succ.1 h
    rw [← h4]; exact (hr a h3).1

/-- The distances of the code, after k waves. -/
def gT (l : Arcs) (s : Int) (k : Nat) (v : Int) : Int := low (fun d => wg l s d v) 0 (k + 1)
def gHit (l : Arcs) (s : Int) (k : Nat) (v : Int) (a : Int × Int) : Bool := a.1 == v && (decide (s ≤ v) && gT l s k a.2 == (k : Int))
def gMid (l : Arcs) (s : Int) (k i : Nat) (v : Int) : Int := if gT l s k v < 0 then if (l.take i).any (gHit l s k v) = true then ((k + 1 : Nat) : Int) else -1 else gT l s k v
theorem gT_zero (l : Arcs) (s v : Int) : gT l s 0 v = if v = s then 0 else -1 := by
  unfold gT low low wg
  by_cases h : v = s
  · simp [h]
  · simp [h]
theorem gT_le (l : Arcs) (s : Int) (k : Nat) (v : Int) : -1 ≤ gT l s k v ∧ gT l s k v ≤ k := by
  unfold gT
  rcases low_cases (fun d => wg l s d v) (k + 1) 0 with ⟨h1, _⟩ | ⟨i, h1, h2, h3, _⟩ <;> omega
theorem gHit_iff {l : Arcs} {s : Int} {k : Nat} {v : Int} (hv : gT l s k v < 0) : l.any (gHit l s k v) = true ↔ wg l s (k + 1) v = true := by
  rw [wg_succ, List.any_eq_true]
  simp only [gHit, Bool.and_eq_true, beq_iff_eq, decide_eq_true_eq]
  constructor
  · rintro ⟨a, h1, h2, h3, h4⟩
    exact ⟨h3, a, h1, h2, (low_eq.1 h4).2.2.1⟩
  · rintro ⟨h3, a, h1, h2, h4⟩
    refine ⟨a, h1, h2, h3, low_eq.2 ⟨by omega, by omega, h4, fun i _ hi => ?_⟩⟩
    rw [← Bool.not_eq_true]; intro hc
    have := low_neg.1 hv (i + 1) (by omega) (by omega)
    have h5 : wg l s (i + 1) v = true := wg_succ.2 ⟨h3, a, h1, h2, hc⟩
    rw [h5] at this; cases this
theorem gMid_all (l : Arcs) (s : Int) (k : Nat) (v : Int) : gMid l s k l.length v = gT l s (k + 1) v := by
  unfold gMid
  rw [List.take_length]
  show _ = low (fun d => wg l s d v) 0 (k + 1 + 1)
  rw [low_next]
  show _ = if gT l s k v < 0 then _ else gT l s k v
  by_cases h : gT l s k v < 0
  · rw [if_pos h, if_pos h]
    have := gHit_iff h
    simp only [Nat.zero_add]
    by_cases h2 : wg l s (k + 1) v = true
    · rw [if_pos (this.2 h2), if_pos h2]
    · rw [if_neg (fun hc => h2 (this.1 hc)), if_neg h2]
  · rw [if_neg h, if_neg h]
theorem gMid_zero (l : Arcs) (s : Int) (k : Nat) (v : Int) : gMid l s k 0 v = gT l s k v := by
  unfold gMid
  by_cases h : gT l s k v < 0
  · rw [if_pos h, List.take_zero, if_neg (by simp)]
    exact (low_m1 (p := fun d => wg l s d v) (b := 0) (m := k + 1) h).symm
  · rw [if_neg h]
theorem gMid_neg {l : Arcs} {s : Int} {k i : Nat} {v : Int} : gMid l s k i v < 0 ↔ gT l s k v < 0 ∧ (l.take i).any (gHit l s k v) = false := by
  unfold gMid
  by_cases h : gT l s k v < 0
  · rw [if_pos h]
    by_cases h2 : (l.take i).any (gHit l s k v) = true
    · rw [if_pos h2, h2]; constructor
      · intro hc; omega
      · rintro ⟨_, hc⟩; cases hc
    · rw [if_neg h2]
      exact ⟨fun _ => ⟨h, by simpa using h2⟩, fun _ => by omega⟩
  · rw [if_neg h]
    exact ⟨fun hc => absurd hc h, fun hc => absurd hc.1 h⟩
theorem gMid_le (l : Arcs) (s : Int) (k i : Nat) (v : Int) : -1 ≤ gMid l s k i v ∧ gMid l s k i v ≤ k + 1 := by
  have := gT_le l s k v
  unfold gMid
  split
  · split <;> omega
  · omega
theorem gMid_hit {l : Arcs} {s : Int} {k i : Nat} (hi : i < l.length) (h1 : s ≤ (l.getD i (0, 0)).1) (h2 : gMid l s k i (l.getD i (0, 0)).1 < 0) (h3 : gT l s k (l.getD i (0, 0)).2 = k) (v : Int) :
    gMid l s k (i + 1) v = if v = (l.getD i (0, 0)).1 then ((k + 1 : Nat) : Int) else gMid l s k i v := by
  obtain ⟨h4, h5⟩ := gMid_neg.1 h2
  by_cases hv : v = (l.getD i (0, 0)).1
  · rw [if_pos hv]
    unfold gMid
    rw [hv, if_pos h4, if_pos]
    rw [take_succ_get l i (0, 0) hi, List.any_append]
    simp only [List.any_cons, List.any_nil, Bool.or_false, Bool.or_eq_true]
    right
    simp only [gHit, beq_self_eq_true, Bool.true_and, Bool.and_eq_true, decide_eq_true_eq, beq_iff_eq]
    exact ⟨h1, h3⟩
  · rw [if_neg hv]
    unfold gMid
    rw [take_succ_get l i (0, 0) hi, List.any_append]
    have : gHit l s k v (l.getD i (0, 0)) = false := by
      unfold gHit
      have : ((l.getD i (0, 0)).1 == v) = false := by simpa using fun hc => hv (Eq.symm hc)
      rw [this, Bool.false_and]
    simp only [List.any_cons, List.any_nil, Bool.or_false, this]
theorem gMid_miss {l : Arcs} {s : Int} {k i : Nat} (hi : i < l.length) (h : ¬ (s ≤ (l.getD i (0, 0)).1 ∧ gMid l s k i (l.getD i (0, 0)).1 < 0 ∧ gT l s k (l.getD i (0, 0)).2 = k)) (v : Int) :
    gMid l s k (i + 1) v = gMid l s k i v := by
  unfold gMid
  by_cases h4 : gT l s k v < 0
  · rw [if_pos h4, if_pos h4, take_succ_get l i (0, 0) hi, List.any_append]
    simp only [List.any_cons, List.any_nil, Bool.or_false]
    by_cases h5 : (l.take i).any (gHit l s k v) = true
    · rw [h5, Bool.true_or]
    · have h6 : gHit l s k v (l.getD i (0, 0)) = false := by
        rw [← Bool.not_eq_true]; intro hc
        simp only [gHit, Bool.and_eq_true, decide_eq_true_eq, beq_iff_eq] at hc
        obtain ⟨c1, c2, c3⟩ := hc
        subst c1
        exact h ⟨c2, gMid_neg.2 ⟨h4, by simpa using h5⟩, c3⟩
      rw [h6, Bool.or_false]
  · rw [if_neg h4, if_neg h4]
theorem gT_stop {l : Arcs} {s : Int} {k : Nat} (h : ∀ v, gT l s k v ≠ k) : ∀ (m : Nat) (v : Int), gT l s (k + m) v = gT l s k v := by
  have key : ∀ (m : Nat) (v : Int), wg l s (k + m) v = true → ∃ i, i < k ∧ wg l s i v = true := by
    intro m
    induction m with
    | zero =>
      intro v hv
      apply Classical.byContradiction; intro hc
      refine h v (low_eq.2 ⟨by omega, by omega, hv, fun i _ hi => ?_⟩)
      rw [← Bool.not_eq_true]; exact fun hw => hc ⟨i, hi, hw⟩
    | succ m ih =>
      intro v hv
      obtain ⟨h1, a, h2, h3, h4⟩ := wg_succ.1 (show wg l s ((k + m) + 1) v = true from hv)
      obtain ⟨i, h5, h6⟩ := ih _ h4
      have h7 : wg l s (i + 1) v = true := wg_succ.2 ⟨h1, a, h2, h3, h6⟩
      by_cases hik : i + 1 < k
      · exact ⟨_, hik, h7⟩
      · have : i + 1 = k := by omega
        subst this
        apply Classical.byContradiction; intro hc
        refine h v (low_eq.2 ⟨by omega, by omega, h7, fun i' _ hi => ?_⟩)
        rw [← Bool.not_eq_true]; exact fun hw => hc ⟨i', hi, hw⟩
  intro m v
  by_cases hn : gT l s k v < 0
  · rw [show gT l s k v = -1 from low_m1 hn]
    refine low_m1 (low_neg.2 fun i _ hi => ?_)
    rw [← Bool.not_eq_true]; intro hc
    have hneg := low_neg.1 hn
    by_cases hik : i < k + 1
    · rw [hneg i (by omega) (by omega)] at hc; cases hc
    · obtain ⟨j, h1, h2⟩ := key (i - k) v (by rw [show k + (i - k) = i by omega]; exact hc)
      rw [hneg j (by omega) (by omega)] at h2; cases h2
  · exact low_up _ (by omega) hn
/-- The distances of the code. -/
def gDist (l : Arcs) (s v : Int) : Int := gT l s 1000 v
theorem gDist_of {l : Arcs} {s : Int} {k : Nat} (hk : k ≤ 1000) (h : ∀ v, gT l s k v ≠ k) (v : Int) : gDist l s v = gT l s k v := by
  have := gT_stop h (1000 - k) v
  rwa [show k + (1000 - k) = 1000 by omega] at this
/-- The distances of the reference, after k rounds. -/
def rT (l : Arcs) (t : Int) (k : Nat) (v : Int) : Int := low (fun d => wk l t d v) 1 k
end Go.Proofs.Ytegnnfbmbnpgdaa
namespace Go.Proofs.Ytegnnfbmbnpgdaa
open Go Go.Lft
set_option linter.unusedSimpArgs false
set_option linter.unusedVariables false

def folS (p : Int → Bool) (v m : Int) (a : Int × Int) : Int := if a.1 = v ∧ p a.2 = true ∧ (m < 0 ∨ a.2 < m) then a.2 else m
def folL (l : Arcs) (p : Int → Bool) (v : Int) : Int := l.foldl (folS p v) (-1)
theorem fol_acc (p : Int → Bool) (v : Int) : ∀ (l : Arcs) (m : Int), (∀ a ∈ l, 0 ≤ a.2) →
    (l.foldl (folS p v) m = m ∧ ∀ a ∈ l, a.1 = v → p a.2 = true → ¬ m < 0 ∧ m ≤ a.2) ∨
    ∃ a ∈ l, a.1 = v ∧ p a.2 = true ∧ l.foldl (folS p v) m = a.2 ∧ (m < 0 ∨ a.2 < m) ∧ ∀ b ∈ l, b.1 = v → p b.2 = true → a.2 ≤ b.2
  | [], m, _ => .inl ⟨rfl, by simp⟩
  | a :: l, m, h => by
    have h0 := h a (by simp)
    have ht : ∀ b ∈ l, 0 ≤ b.2 := fun b hb => h b (by simp [hb])
    rw [List.foldl_cons]
    by_cases hc : a.1 = v ∧ p a.2 = true ∧ (m < 0 ∨ a.2 < m)
    · have hs : folS p v m a = a.2 := if_pos hc
      rw [hs]
      right
      rcases fol_acc p v l a.2 ht with ⟨h1, h2⟩ | ⟨b, h1, h2, h3, h4, h5, h6⟩
      · refine ⟨a, by simp, hc.1, hc.2.1, h1, hc.2.2, fun b hb hb1 hb2 => ?_⟩
        rcases List.mem_cons.1 hb with rfl | hb
        · omega
        · exact (h2 b hb hb1 hb2).2
      · refine ⟨b, by simp [h1], h2, h3, h4, by omega, fun c hcm hc1 hc2 => ?_⟩
        rcases List.mem_cons.1 hcm with rfl | hcm
        · omega
        · exact h6 c hcm hc1 hc2
    · have hs : folS p v m a = m := if_neg hc
      rw [hs]
      rcases fol_acc p v l m ht with ⟨h1, h2⟩ | ⟨b, h1, h2, h3, h4, h5, h6⟩
      · refine .inl ⟨h1, fun b hb hb1 hb2 => ?_⟩
        rcases List.mem_cons.1 hb with rfl | hb
        · exact ⟨fun hm => hc ⟨hb1, hb2, .inl hm⟩, Int.not_lt.1 fun hm => hc ⟨hb1, hb2, .inr hm⟩⟩
        · exact h2 b hb hb1 hb2
      · refine .inr ⟨b, by simp [h1], h2, h3, h4, h5, fun c hcm hc1 hc2 => ?_⟩
        rcases List.mem_cons.1 hcm with rfl | hcm
        · rcases h5 with h5 | h5
          · exact absurd ⟨hc1, hc2, .inl h5⟩ hc
          · apply Int.not_lt.1; intro hlt
            exact hc ⟨hc1, hc2, .inr (by omega)⟩
        · exact h6 c hcm hc1 hc2
theorem fol_cases {n : Int} {l : Arcs} (hr : inR n l) (p : Int → Bool) (v : Int) : (folL l p v = -1 ∧ ∀ a ∈ l, a.1 = v → p a.2 = false) ∨
    ∃ a ∈ l, a.1 = v ∧ p a.2 = true ∧ folL l p v = a.2 ∧ ∀ b ∈ l, b.1 = v → p b.2 = true → a.2 ≤ b.2 := by
  rcases fol_acc p v l (-1) (fun a ha => (hr a ha).2.1) with ⟨h1, h2⟩ | ⟨b, h1, h2, h3, h4, h5, h6⟩
  · refine .inl ⟨h1, fun a ha ha1 => ?_⟩
    rw [← Bool.not_eq_true]; intro hc
    exact (h2 a ha ha1 hc).1 (by omega)
  · exact .inr ⟨b, h1, h2, h3, h4, h6⟩
theorem fol_congr {n : Int} {l : Arcs} (hr : inR n l) {p q : Int → Bool} {v : Int} (h : ∀ a ∈ l, a.1 = v → p a.2 = q a.2) : folL l p v = folL l q v := by
  rcases fol_cases hr p v with ⟨h1, h2⟩ | ⟨a, h1, h2, h3, h4, h5⟩
  · rcases fol_cases hr q v with ⟨g1, g2⟩ | ⟨b, g1, g2, g3, g4, g5⟩
    · rw [h1, g1]
    · have := h2 b g1 g2; rw [h b g1 g2, g3] at this; cases this
  · rcases fol_cases hr q v with ⟨g1, g2⟩ | ⟨b, g1, g2, g3, g4, g5⟩
    · have := g2 a h1 h2; rw [← h a h1 h2, h3] at this; cases this
    · have e1 := h5 b g1 g2 (by rw [h b g1 g2]; exact g3)
      have e2 := g5 a h1 h2 (by rw [← h a h1 h2]; exact h3)
      omega

/-- The nodes of a cycle from s on, j after the first; and the last of them. -/
def cst (l : Arcs) (q : Nat → Int → Bool) (s : Int) : Nat → List Int × Int
  | 0 => ([s], s)
  | j + 1 => let x := folL l (q j) (cst l q s j).2; ((cst l q s j).1 ++ [x], x)
theorem cst_len (l : Arcs) (q : Nat → Int → Bool) (s : Int) (j : Nat) : (cst l q s j).1.length = j + 1 := by
  induction j with
  | zero => rfl
  | succ j ih => simp [cst, ih]
theorem cst_last (l : Arcs) (q : Nat → Int → Bool) (s : Int) (j : Nat) : (cst l q s j).1.getD j 0 = (cst l q s j).2 := by
  cases j with
  | zero => rfl
  | succ j =>
    have := cst_len l q s j
    simp only [cst]
    rw [List.getD_eq_getElem?_getD, List.getElem?_append_right (by omega), this, Nat.sub_self]; rfl

/-- The length of the shortest closed way from v, at most n. -/
def cN (n : Int) (l : Arcs) (v : Int) : Int := rT l v n.toNat v
def cf (n : Int) (l : Arcs) : Nat → Int × Int
  | 0 => (-1, 0)
  | v + 1 => if 0 < cN n l v ∧ ((cf n l v).1 < 0 ∨ cN n l v < (cf n l v).2) then ((v : Int), cN n l v) else cf n l v
theorem cN_pos {n : Int} {l : Arcs} {v : Int} : 0 < cN n l v ∨ cN n l v < 0 := by
  unfold cN rT
  rcases low_cases (fun d => wk l v d v) n.toNat 1 with ⟨h1, _⟩ | ⟨i, h1, h2, h3, _⟩ <;> omega
structure Fst (n : Int) (l : Arcs) (k f m : Nat) : Prop where
  fk : f < k
  eq : cN n l f = m
  m1 : 1 ≤ m
  least : ∀ v : Nat, v < k → cN n l v < 0 ∨ (m : Int) ≤ cN n l v
  first : ∀ v : Nat, v < f → cN n l v < 0 ∨ (m : Int) < cN n l v
theorem cf_spec (n : Int) (l : Arcs) : ∀ k, (cf n l k = (-1, 0) ∧ ∀ v : Nat, v < k → cN n l v < 0) ∨ ∃ f m : Nat, cf n l k = ((f : Int), (m : Int)) ∧ Fst n l k f m
  | 0 => .inl ⟨rfl, fun v hv => by omega⟩
  | k + 1 => by
    have hp := @cN_pos n l k
    rcases cf_spec n l k with ⟨h1, h2⟩ | ⟨f, m, h1, h2⟩
    · by_cases hc : 0 < cN n l k
      · right
        refine ⟨k, (cN n l k).toNat, ?_, by omega, by omega, by omega, fun v hv => ?_, fun v hv => .inl (h2 v hv)⟩
        · unfold cf; rw [h1, if_pos ⟨hc, .inl (by decide)⟩]; congr 1; omega
        · by_cases hvk : v = k
          · subst hvk; right; omega
          · exact .inl (h2 v (by omega))
      · left
        refine ⟨by unfold cf; rw [if_neg (fun h => hc h.1)]; exact h1, fun v hv => ?_⟩
        by_cases hvk : v = k
        · subst hvk; omega
        · exact h2 v (by omega)
    · right
      by_cases hc : 0 < cN n l k ∧ cN n l k < m
      · refine ⟨k, (cN n l k).toNat, ?_, by omega, by omega, by omega, fun v hv => ?_, fun v hv => ?_⟩
        · unfold cf; rw [h1, if_pos ⟨hc.1, .inr hc.2⟩]; congr 1; omega
        · by_cases hvk : v = k
          · subst hvk; right; omega
          · rcases h2.least v (by omega) with h | h
            · exact .inl h
            · right; omega
        · rcases h2.least v hv with h | h
          · exact .inl h
          · right; omega
      · refine ⟨f, m, ?_, by have := h2.fk; omega, h2.eq, h2.m1, fun v hv => ?_, h2.first⟩
        · unfold cf; rw [h1, if_neg]
          rintro ⟨g1, g2⟩
          exact hc ⟨g1, by omega⟩
        · by_cases hvk : v = k
          · subst hvk; omega
          · exact h2.least v (by omega)
/-- What the code looks for: an arc from s from whose end the way to s has j arcs. -/
def gAt (l : Arcs) (s : Int) (j : Nat) : Bool := decide (0 ≤ folL l (fun u => gDist l s u == (j : Int)) s)
theorem gAt_iff {n : Int} {l : Arcs} (hr : inR n l) {s : Int} {j : Nat} : gAt l s j = true ↔ ∃ a ∈ l, a.1 = s ∧ gDist l s a.2 = j := by
  unfold gAt
  rw [decide_eq_true_eq]
  rcases fol_cases hr (fun u => gDist l s u == (j : Int)) s with ⟨h1, h2⟩ | ⟨a, h1, h2, h3, h4, h5⟩
  · rw [h1]
    constructor
    · intro h; omega
    · rintro ⟨a, g1, g2, g3⟩
      have := h2 a g1 g2
      simp [g3] at this
  · rw [h4]
    exact ⟨fun _ => ⟨a, h1, h2, by simpa using h3⟩, fun _ => (hr a h1).2.1⟩
theorem gAt_wk {n : Int} {l : Arcs} (hr : inR n l) {s : Int} {j : Nat} (h : gAt l s j = true) : wk l s (j + 1) s = true := by
  obtain ⟨a, h1, h2, h3⟩ := (gAt_iff hr).1 h
  exact wk_succ.2 ⟨a, h1, h2, wg_wk (low_eq.1 h3).2.2.1⟩
theorem cN_of {n : Int} {l : Arcs} {v : Int} {m : Nat} (h : wk l v m v = true) (h1 : 1 ≤ m) (h2 : m ≤ n.toNat) : 0 < cN n l v ∧ cN n l v ≤ m := by
  have hp := @cN_pos n l v
  have hn : ¬ cN n l v < 0 := fun hc => by
    have := low_neg.1 hc m h1 (by omega)
    rw [h] at this; cases this
  refine ⟨by omega, ?_⟩
  obtain ⟨k, hk⟩ := low_nat (p := fun d => wk l v d v) hn
  have hk' := low_eq.1 hk
  have : cN n l v = k := hk
  rw [this]
  apply Int.not_lt.1; intro hlt
  have := hk'.2.2.2 m h1 (by omega)
  rw [h] at this; cases this
theorem cN_eq {n : Int} {l : Arcs} {v : Int} {m : Nat} (h : cN n l v = m) : 1 ≤ m ∧ m ≤ n.toNat ∧ wk l v m v = true ∧ ∀ i, 1 ≤ i → i < m → wk l v i v = false := by
  obtain ⟨h1, h2, h3, h4⟩ := low_eq.1 h
  exact ⟨h1, by omega, h3, h4⟩

/-- On the shortest closed way from the first node no node is less. -/
theorem wg_of {n : Int} {l : Arcs} (hr : inR n l) {f m : Nat} (hf : Fst n l n.toNat f m) : ∀ {d e : Nat} {v : Int}, d + e = m → 1 ≤ e → wk l f d v = true → wk l v e f = true → wg l f d v = true
  | 0, e, v, _, _, h1, _ => h1
  | d + 1, e, v, hde, he, h1, h2 => by
    have hm := (cN_eq hf.eq).2.1
    have hfk := hf.fk
    obtain ⟨a, h3, h4, h5⟩ := wk_succ.1 h1
    have hv := wk_in hr (t := (f : Int)) ⟨by omega, by omega⟩ h1
    have hcl : wk l v m v = true := by rw [← hde]; exact wk_app h1 h2
    have hfv : (f : Int) ≤ v := by
      obtain ⟨c1, c2⟩ := cN_of (n := n) hcl hf.m1 hm
      apply Int.not_lt.1; intro hlt
      have hvn : ((v.toNat : Nat) : Int) = v := by omega
      have := hf.first v.toNat (by omega)
      rw [hvn] at this
      omega
    refine wg_succ.2 ⟨hfv, a, h3, h4, wg_of hr hf (e := e + 1) (by omega) (by omega) h5 ?_⟩
    exact wk_app h2 (wk_succ.2 ⟨a, h3, h4, by simp [wk]⟩)
theorem gAt_first {n : Int} {l : Arcs} (hr : inR n l) (hn : n ≤ 64) {f m : Nat} (hf : Fst n l n.toNat f m) : gAt l f (m - 1) = true := by
  obtain ⟨c1, c2, c3, c4⟩ := cN_eq hf.eq
  obtain ⟨d, rfl⟩ : ∃ d, m = d + 1 := ⟨m - 1, by omega⟩
  obtain ⟨a, h1, h2, h3⟩ := wk_succ.1 c3
  have harc : wk l a.2 1 f = true := wk_succ.2 ⟨a, h1, h2, by simp [wk]⟩
  refine (gAt_iff hr).2 ⟨a, h1, h2, ?_⟩
  rw [Nat.add_sub_cancel]
  refine low_eq.2 ⟨by omega, by omega, wg_of hr hf rfl (by omega) h3 harc, fun i _ hi => ?_⟩
  rw [← Bool.not_eq_true]; intro hc
  have h4 : wk l f (i + 1) f = true := wk_succ.2 ⟨a, h1, h2, wg_wk hc⟩
  rw [c4 (i + 1) (by omega) (by omega)] at h4; cases h4
/-- What the code's search finds. -/
theorem search_found {n : Int} {l : Arcs} (hr : inR n l) (hn : n ≤ 64) {s j : Nat} (hs : s < n.toNat) (hj : j < n.toNat) (h1 : gAt l s j = true)
    (h2 : ∀ i, i < j → ∀ v : Nat, v < n.toNat → gAt l v i = false) (h3 : ∀ v : Nat, v < s → gAt l v j = false) : cf n l n.toNat = ((s : Int), ((j + 1 : Nat) : Int)) ∧ Fst n l n.toNat s (j + 1) := by
  obtain ⟨c1, c2⟩ := cN_of (n := n) (gAt_wk hr h1) (by omega) (by omega)
  rcases cf_spec n l n.toNat with ⟨g1, g2⟩ | ⟨f, m, g1, g2⟩
  · have := g2 s hs; omega
  · have hm := g2.least s hs
    have ha := gAt_first hr hn g2
    have hm1 := g2.m1
    have hjm : m = j + 1 := by
      apply Classical.byContradiction; intro hc
      rw [h2 (m - 1) (by omega) f g2.fk] at ha; cases ha
    subst hjm
    have hfs : f = s := by
      rw [Nat.add_sub_cancel] at ha
      rcases Nat.lt_trichotomy f s with h | h | h
      · rw [h3 f h] at ha; cases ha
      · exact h
      · have := g2.first s h; omega
    subst hfs
    exact ⟨g1, g2⟩
theorem search_none {n : Int} {l : Arcs} (hr : inR n l) (hn : n ≤ 64) (h : ∀ i, i < n.toNat → ∀ v : Nat, v < n.toNat → gAt l v i = false) : cf n l n.toNat = (-1, 0) := by
  rcases cf_spec n l n.toNat with ⟨g1, g2⟩ | ⟨f, m, g1, g2⟩
  · exact g1
  · have ha := gAt_first hr hn g2
    have hm1 := g2.m1
    have := (cN_eq g2.eq).2.1
    rw [h (m - 1) (by omega) f g2.fk] at ha; cases ha

def rQ (n : Int) (l : Arcs) (s : Int) (m : Nat) : Nat → Int → Bool := fun j u => rT l s n.toNat u == ((m - 1 - j : Nat) : Int)
def gQ (l : Arcs) (s : Int) (m : Nat) : Nat → Int → Bool := fun j u => gDist l s u == ((m - 1 - j : Nat) : Int)
/-- On the way both ask the same. -/
theorem q_same {n : Int} {l : Arcs} (hr : inR n l) (hn : n ≤ 64) {f m : Nat} (hf : Fst n l n.toNat f m) {j : Nat} (hj : j + 1 < m) {u : Int} (hu : wk l u (j + 1) f = true) : rQ n l f m j u = gQ l f m j u := by
  obtain ⟨c1, c2, c3, c4⟩ := cN_eq hf.eq
  have hno : ∀ i, i < m - 1 - j → wk l f i u = false := fun i hi => by
    rw [← Bool.not_eq_true]; intro hc
    have := wk_app hu hc
    rw [c4 _ (by omega) (by omega)] at this; cases this
  unfold rQ gQ
  rw [Bool.eq_iff_iff, beq_iff_eq, beq_iff_eq]
  constructor
  · intro h
    obtain ⟨h1, h2, h3, h4⟩ := low_eq.1 h
    refine low_eq.2 ⟨by omega, by omega, wg_of hr hf (e := j + 1) (by omega) (by omega) h3 hu, fun i _ hi => ?_⟩
    rw [← Bool.not_eq_true]; intro hc
    have := hno i hi; rw [wg_wk hc] at this; cases this
  · intro h
    obtain ⟨h1, h2, h3, h4⟩ := low_eq.1 h
    exact low_eq.2 ⟨by omega, by omega, wg_wk h3, fun i _ hi => hno i hi⟩
structure Way (l : Arcs) (f m j : Nat) (x : Int) : Prop where
  to : wk l x j f = true
  back : wk l f (m - j) x = true
theorem cst_step {n : Int} {l : Arcs} (hr : inR n l) {f m : Nat} (hf : Fst n l n.toNat f m) {j : Nat} (hj : j + 1 < m) {x : Int} (hw : Way l f m j x) :
    ∃ a ∈ l, a.1 = x ∧ folL l (rQ n l f m j) x = a.2 ∧ Way l f m (j + 1) a.2 := by
  obtain ⟨c1, c2, c3, c4⟩ := cN_eq hf.eq
  have hb := hw.back
  rw [show m - j = (m - 1 - j) + 1 by omega] at hb
  obtain ⟨a, h1, h2, h3⟩ := wk_succ.1 hb
  have hto : ∀ b ∈ l, b.1 = x → wk l b.2 (j + 1) f = true := fun b hb hbx => wk_app hw.to (wk_succ.2 ⟨b, hb, hbx, by simp [wk]⟩)
  rcases fol_cases hr (rQ n l f m j) x with ⟨g1, g2⟩ | ⟨b, g1, g2, g3, g4, g5⟩
  · have := g2 a h1 h2
    have hq : rQ n l f m j a.2 = true := by
      unfold rQ; rw [beq_iff_eq]
      refine low_eq.2 ⟨by omega, by omega, h3, fun i hi1 hi => ?_⟩
      rw [← Bool.not_eq_true]; intro hc
      have := wk_app (hto a h1 h2) hc
      rw [c4 _ (by omega) (by omega)] at this; cases this
    rw [hq] at this; cases this
  · refine ⟨b, g1, g2, g4, hto b g1 g2, ?_⟩
    unfold rQ at g3; rw [beq_iff_eq] at g3
    rw [show m - (j + 1) = m - 1 - j by omega]
    exact (low_eq.1 g3).2.2.1
theorem cst_same {n : Int} {l : Arcs} (hr : inR n l) (hn : n ≤ 64) {f m : Nat} (hf : Fst n l n.toNat f m) : ∀ j, j < m → cst l (gQ l f m) f j = cst l (rQ n l f m) f j ∧ Way l f m j (cst l (rQ n l f m) f j).2
  | 0, _ => ⟨rfl, by
    obtain ⟨c1, c2, c3, c4⟩ := cN_eq hf.eq
    exact ⟨by simp [wk, cst], c3⟩⟩
  | j + 1, hj => by
    obtain ⟨h1, h2⟩ := cst_same hr hn hf j (by omega)
    obtain ⟨a, g1, g2, g3, g4⟩ := cst_step hr hf hj h2
    have hq : folL l (gQ l f m j) (cst l (rQ n l f m) f j).2 = folL l (rQ n l f m j) (cst l (rQ n l f m) f j).2 := by
      refine fol_congr hr fun b hb hbx => (q_same hr hn hf hj ?_).symm
      exact wk_app h2.to (wk_succ.2 ⟨b, hb, hbx, by simp [wk]⟩)
    simp only [cst, h1, hq]
    exact ⟨trivial, by rw [g3]; exact g4⟩
/-- What both return. -/
def cycR (n : Int) (l : Arcs) : List Int × Int :=
  if gcheck n l ≠ 0 then ([], gcheck n l) else if (cf n l n.toNat).1 < 0 then ([], 7) else ((cst l (rQ n l (cf n l n.toNat).1 (cf n l n.toNat).2.toNat) (cf n l n.toNat).1 ((cf n l n.toNat).2.toNat - 1)).1, 0)
end Go.Proofs.Ytegnnfbmbnpgdaa
namespace Go.Proofs.Ytegnnfbmbnpgdaa
open Go Go.Lft
set_option linter.unusedSimpArgs false
set_option linter.unusedVariables false
attribute [local congr] ob_congr bw_congr ib_congr ck_congr iwA_congr itA_congr aw_congr awp_congr sqA_congr bkA_congr vr_congr gd_congr

end Go.Proofs.Ytegnnfbmbnpgdaa
namespace Go.Proofs.Ytegnnfbmbnpgdaa
open Go Go.Lft
set_option linter.unusedSimpArgs false
set_option linter.unusedVariables false
attribute [local congr] ob_congr bw_congr ib_congr ck_congr iwA_congr itA_congr aw_congr awp_congr sqA_congr bkA_congr vr_congr gd_congr

theorem fol_succ (l : Arcs) (p : Int → Bool) (v : Int) {i : Nat} (hi : i < l.length) : (l.take (i + 1)).foldl (folS p v) (-1) = folS p v ((l.take i).foldl (folS p v) (-1)) (l.getD i (0, 0)) := by
  rw [take_succ_get l i (0, 0) hi, List.foldl_append]; rfl

theorem fol_hit (l : Arcs) (p : Int → Bool) (v : Int) {i : Nat} (hi : i < l.length) (h : (l.getD i (0, 0)).1 = v ∧ p (l.getD i (0, 0)).2 = true ∧ ((l.take i).foldl (folS p v) (-1) < 0 ∨ (l.getD i (0, 0)).2 < (l.take i).foldl (folS p v) (-1))) :
    (l.take (i + 1)).foldl (folS p v) (-1) = (l.getD i (0, 0)).2 := by rw [fol_succ l p v hi]; exact if_pos h
theorem fol_miss (l : Arcs) (p : Int → Bool) (v : Int) {i : Nat} (hi : i < l.length) (h : ¬ ((l.getD i (0, 0)).1 = v ∧ p (l.getD i (0, 0)).2 = true ∧ ((l.take i).foldl (folS p v) (-1) < 0 ∨ (l.getD i (0, 0)).2 < (l.take i).foldl (folS p v) (-1)))) :
    (l.take (i + 1)).foldl (folS p v) (-1) = (l.take i).foldl (folS p v) (-1) := by rw [fol_succ l p v hi]; exact if_neg h
theorem ii_one (x : Int) : ints [x] = [.v (.int .i64 x)] := rfl

end Go.Proofs.Ytegnnfbmbnpgdaa
namespace Go.Proofs.Ytegnnfbmbnpgdaa
open Go Go.Lft
set_option linter.unusedSimpArgs false
set_option linter.unusedVariables false
attribute [local congr] ob_congr bw_congr ib_congr ck_congr iwA_congr itA_congr aw_congr awp_congr sqA_congr bkA_congr vr_congr gd_congr

def idxL (xs : List Int) (x : Int) : Int := low (fun i => xs.getD i 0 == x) 0 xs.length
theorem index_vr {w : Bool} (xs : List Int) (hl : xs.length < 1000000000) (x : Int) : VR P false n_slices_Indexint_int [.fs w (ints xs), .v (.int .i64 x)] [] (isR (.v (.int .i64 (idxL xs x)))) := by
  refine vr_slices_Indexint_int (by simp) (.inr rfl) fun _ _ => ?_
  simp (disch := ((try simp only [List.length_set, List.length_replicate, List.length_append, List.length_cons, List.length_nil]); omega)) only [aW, aX, aV, aB, aN, aL, aP, aH, s_slices_Indexint_int, v_slices_Indexint_int]
  refine AWP.loopP g_slices_Indexint_int_0 (fun i : Nat => i ≤ xs.length ∧ ∀ j, j < i → xs.getD j 0 ≠ x) (fun i => [(2, .v (.int .i64 0)), (3, .v (.int .i64 i))]) (fun _ => []) (fun i => xs.length - i) 0 (by simp) (by refine Cut.of' (0) ?_ (by omega) ?_ ?_ <;> simp (disch := first | omega | simp (disch := omega) only [aF, aL, aN]) only [aW, aX, aV, aB, aN, aL, aP, aH, aF, Int.natCast_add, Int.natCast_mul, Int.add_sub_cancel, List.length_nil, Int.cast_ofNat_Int, and_true, true_and]) ?_
  rintro i ⟨hi, hno⟩
  by_cases hlt : i < xs.length
  · by_cases hx : x = xs.getD i 0
    · simp (disch := ((try simp only [List.length_set, List.length_replicate, List.length_append, List.length_cons, List.length_nil]); omega)) only [aW, aX, aV, aB, aN, aL, aP, aH, r_slices_Indexint_int]
      refine post_v ⟨?_, rfl⟩
      congr 3
      exact (low_eq.2 ⟨by omega, by omega, by rw [beq_iff_eq]; exact hx.symm, fun j _ hj => by simpa using hno j hj⟩).symm
    · simp (disch := ((try simp only [List.length_set, List.length_replicate, List.length_append, List.length_cons, List.length_nil]); omega)) only [aW, aX, aV, aB, aN, aL, aP, aH]
      refine ⟨i + 1, ⟨by omega, fun j hj => ?_⟩, by omega, (by refine Cut.of' (0) ?_ (by omega) ?_ ?_ <;> simp (disch := first | omega | simp (disch := omega) only [aF, aL, aN]) only [aW, aX, aV, aB, aN, aL, aP, aH, aF, Int.natCast_add, Int.natCast_mul, Int.add_sub_cancel, List.length_nil, Int.cast_ofNat_Int, and_true, true_and])⟩
      by_cases hji : j = i
      · subst hji; exact fun hc => hx hc.symm
      · exact hno j (by omega)
  · have hie : i = xs.length := by omega
    subst hie
    simp (disch := ((try simp only [List.length_set, List.length_replicate, List.length_append, List.length_cons, List.length_nil]); omega)) only [aW, aX, aV, aB, aN, aL, aP, aH, r_slices_Indexint_int]
    refine post_v ⟨?_, rfl⟩
    congr 3
    exact (low_m1 (low_neg.2 fun j _ hj => by simpa using hno j (by omega))).symm
theorem idxL_iff (xs : List Int) (x : Int) : 0 ≤ idxL xs x ↔ x ∈ xs := by
  constructor
  · intro h
    obtain ⟨k, hk⟩ := low_nat (p := fun i => xs.getD i 0 == x) (b := 0) (m := xs.length) (by unfold idxL at h; omega)
    obtain ⟨_, h2, h3, _⟩ := low_eq.1 hk
    have hk' : k < xs.length := by omega
    rw [beq_iff_eq] at h3
    rw [← h3]; simp [List.getD_eq_getElem?_getD, hk']
  · intro h
    obtain ⟨k, hk, rfl⟩ := List.mem_iff_getElem.1 h
    apply Int.not_lt.1; intro hc
    have := low_neg.1 hc k (by omega) (by omega)
    simp [List.getD_eq_getElem?_getD, hk] at this
theorem contains_vr {w : Bool} (xs : List Int) (hl : xs.length < 1000000000) (x : Int) : VR P false n_slices_Containsint_int [.fs w (ints xs), .v (.int .i64 x)] [] (isR (.v (.bool (decide (x ∈ xs))))) := by
  refine vr_slices_Containsint_int (by simp) (.inr rfl) fun _ _ => ?_
  simp (disch := ((try simp only [List.length_set, List.length_replicate, List.length_append, List.length_cons, List.length_nil]); omega)) only [aW, aX, aV, aB, aN, aL, aP, aH, s_slices_Containsint_int, v_slices_Containsint_int]
  refine (index_vr (w := w) xs hl x).same (by simp (disch := first | omega | simp (disch := omega) only [aF, aL, aN]) only [aW, aX, aV, aB, aN, aL, aP, aH, aF, Int.natCast_add, Int.natCast_mul, Int.add_sub_cancel, List.length_nil, Int.cast_ofNat_Int, and_true, true_and]) rfl (aret_of ?_)
  simp (disch := ((try simp only [List.length_set, List.length_replicate, List.length_append, List.length_cons, List.length_nil]); omega)) only [aW, aX, aV, aB, aN, aL, aP, aH, r_slices_Containsint_int]
  refine post_v ⟨?_, rfl⟩
  exact vdec (idxL_iff xs x)

theorem ii_one' (xs : List Int) : (ints xs).all A.one = true := by
  rw [List.all_eq_true]; intro a ha
  simp only [ints, List.mem_map] at ha
  obtain ⟨y, _, rfl⟩ := ha; rfl
theorem follow_vr {w : Bool} (n : Int) (l : Arcs) (hn : n ≤ 64) (hl : l.length ≤ 512) (hr : inR n l) (x d : Int) (F : Nat → Int) :
    VR P false n_graph_follow [graphA w n l, .v (.int .i64 x), .v (.int .i64 d), .agg (ints (tabI 64 F))] [] (isR (.v (.int .i64 (folL l (fun u => F u.toNat == d) x)))) := by
  refine vr_graph_follow (by simp) (.inr rfl) fun _ _ => ?_
  unfold graphA
  have hTl := tabI_len 64 F
  have hone := ii_one' (tabI 64 F)
  simp (disch := ((try simp only [List.length_set, List.length_replicate, List.length_append, List.length_cons, List.length_nil]); omega)) only [aW, aX, aV, aB, aN, aL, aP, aH, s_graph_follow, v_graph_follow, hone]
  refine AWP.loopP g_graph_follow_0 (fun i : Nat => i ≤ l.length) (fun i => [(5, .v (.int .i64 ((l.take i).foldl (folS (fun u => F u.toNat == d) x) (-1)))), (7, .v (.int .i64 i))]) (fun _ => []) (fun i => l.length - i) 0 (by omega) ?_ ?_
  · simp (disch := ((try simp only [List.length_set, List.length_replicate, List.length_append, List.length_cons, List.length_nil]); omega)) only [aW, aX, aV, aB, aN, aL, aP, aH]
    exact Cut.of' 2 rfl (by omega) (by simp (disch := first | omega | simp (disch := omega) only [aF, aL, aN]) only [aW, aX, aV, aB, aN, aL, aP, aH, aF, Int.natCast_add, Int.natCast_mul, Int.add_sub_cancel, List.length_nil, Int.cast_ofNat_Int, and_true, true_and]) (by simp (disch := first | omega | simp (disch := omega) only [aF, aL, aN]) only [aW, aX, aV, aB, aN, aL, aP, aH, aF, Int.natCast_add, Int.natCast_mul, Int.add_sub_cancel, List.length_nil, Int.cast_ofNat_Int, and_true, true_and, List.take_zero, List.foldl_nil])
  rintro i hi
  by_cases hil : i < l.length
  · have hmem : l.getD i (0, 0) ∈ l := by simp [List.getD_eq_getElem?_getD, hil]
    obtain ⟨⟨r1, r2⟩, r3, r4⟩ := hr _ hmem
    have hg2 := tabI_get 64 F (l.getD i (0, 0)).2.toNat (by omega)
    simp (disch := ((try simp only [List.length_set, List.length_replicate, List.length_append, List.length_cons, List.length_nil]); omega)) only [aW, aX, aV, aB, aN, aL, aP, aH, hg2]
    refine ib_intro (fun h3 => ?_) (fun h3 => ?_)
    · have hnx := fol_hit l (fun u => F u.toNat == d) x hil ⟨h3.1.1, by simpa using h3.1.2, h3.2⟩
      simp (disch := ((try simp only [List.length_set, List.length_replicate, List.length_append, List.length_cons, List.length_nil]); omega)) only [aW, aX, aV, aB, aN, aL, aP, aH]
      refine ⟨i + 1, by omega, by omega, ?_⟩
      rw [hnx]
      exact Cut.of' 2 rfl (by omega) (by simp (disch := first | omega | simp (disch := omega) only [aF, aL, aN]) only [aW, aX, aV, aB, aN, aL, aP, aH, aF, Int.natCast_add, Int.natCast_mul, Int.add_sub_cancel, List.length_nil, Int.cast_ofNat_Int, and_true, true_and]) (by simp (disch := first | omega | simp (disch := omega) only [aF, aL, aN]) only [aW, aX, aV, aB, aN, aL, aP, aH, aF, Int.natCast_add, Int.natCast_mul, Int.add_sub_cancel, List.length_nil, Int.cast_ofNat_Int, and_true, true_and])
    · have hnx := fol_miss l (fun u => F u.toNat == d) x hil (fun hc => h3 ⟨⟨hc.1, by simpa using hc.2.1⟩, hc.2.2⟩)
      simp (disch := ((try simp only [List.length_set, List.length_replicate, List.length_append, List.length_cons, List.length_nil]); omega)) only [aW, aX, aV, aB, aN, aL, aP, aH]
      refine ⟨i + 1, by omega, by omega, ?_⟩
      rw [hnx]
      exact Cut.of' 2 rfl (by omega) (by simp (disch := first | omega | simp (disch := omega) only [aF, aL, aN]) only [aW, aX, aV, aB, aN, aL, aP, aH, aF, Int.natCast_add, Int.natCast_mul, Int.add_sub_cancel, List.length_nil, Int.cast_ofNat_Int, and_true, true_and]) (by simp (disch := first | omega | simp (disch := omega) only [aF, aL, aN]) only [aW, aX, aV, aB, aN, aL, aP, aH, aF, Int.natCast_add, Int.natCast_mul, Int.add_sub_cancel, List.length_nil, Int.cast_ofNat_Int, and_true, true_and])
  · have hie : i = l.length := by omega
    subst hie
    rw [List.take_length]
    simp (disch := ((try simp only [List.length_set, List.length_replicate, List.length_append, List.length_cons, List.length_nil]); omega)) only [aW, aX, aV, aB, aN, aL, aP, aH, r_graph_follow]
    exact post_v ⟨rfl, rfl⟩
end Go.Proofs.Ytegnnfbmbnpgdaa
