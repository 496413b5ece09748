/- Lemmas and walks that the proof of GraphMore uses. No statement is claimed here. -/
import Derived.Test.YtegnnfbmbnpgdaaGraphMoreZaj
namespace Go.Proofs.Ytegnnfbmbnpgdaa
open Go Go.Lft
set_option linter.unusedSimpArgs false
set_option linter.unusedVariables false
attribute [local congr] ob_congr bw_congr ib_congr ck_congr iwA_congr itA_congr aw_congr awp_congr sqA_congr bkA_congr vr_congr gd_congr

theorem count_seti (S : List Int) (i : Nat) (y : Int) (h : i < S.length) (hf : S.getD i 0 = -1) (hy : y ≠ -1) : (S.set i y).count (-1) + 1 = S.count (-1) := by
  induction S generalizing i with
  | nil => simp at h
  | cons a S ih =>
    cases i with
    | zero =>
      simp only [List.getD_cons_zero] at hf
      subst hf
      rw [List.set_cons_zero, List.count_cons_self, List.count_cons_of_ne hy]
    | succ i =>
      rw [List.set_cons_succ, List.count_cons, List.count_cons]
      have := ih i (by simpa using h) (by simpa using hf)
      omega
def tG (l : Arcs) (s : Int) (k : Nat) : List Int := tabI 64 fun v => gT l s k v
def tM (l : Arcs) (s : Int) (k i : Nat) : List Int := tabI 64 fun v => gMid l s k i v
theorem tG_len (l : Arcs) (s : Int) (k : Nat) : (tG l s k).length = 64 := tabI_len _ _
theorem tM_len (l : Arcs) (s : Int) (k i : Nat) : (tM l s k i).length = 64 := tabI_len _ _
theorem tM_get (l : Arcs) (s : Int) (k i : Nat) (v : Int) (h0 : 0 ≤ v) (h1 : v < 64) : (tM l s k i).getD v.toNat 0 = gMid l s k i v := by
  have := tabI_get 64 (fun v => gMid l s k i v) v.toNat (by omega)
  rw [Int.toNat_of_nonneg h0] at this; exact this
theorem tG_cnt (l : Arcs) (s : Int) (k : Nat) : (tG l s k).count (-1) ≤ 64 := by
  have := List.count_le_length (a := (-1 : Int)) (l := tG l s k)
  rw [tG_len] at this; exact this

theorem fz_one (m : Nat) (H : List Blk) (i ver : Nat) (x : Int) (hi : m ≤ i) (hb : blkAt H i ver = some [.v (.int .i64 x)]) : Fz m H (.sl i ver 1 0 1) (.fs true (ints [x])) := fz_slI m H i ver 1 [x] hi rfl hb
theorem distances_vr {w : Bool} (n : Int) (l : Arcs) (h0 : 0 ≤ n) (hn : n ≤ 64) (hl : l.length ≤ 512) (hr : inR n l) (s : Int) (hs : 0 ≤ s ∧ s < n) :
    VR P false n_graph_distances [graphA w n l, .v (.int .i64 s)] [] (isR (.agg (ints (tabI 64 fun v => gDist l s v)))) := by
  refine vr_graph_distances (by simp) (.inr rfl) fun _ _ => ?_
  unfold graphA
  simp (disch := ((try simp only [List.length_set, List.length_replicate, List.length_append, List.length_cons, List.length_nil]); omega)) only [aW, aX, aV, aB, aN, aL, aP, aH, s_graph_distances, v_graph_distances]
  refine AWP.loopP g_graph_distances_0 (fun i : Nat => i ≤ 64) (fun i => [(3, .v (.int .i64 i))]) (fun i => [(2, ⟨0, ints (tabI 64 fun v => if v < i then -1 else 0)⟩)]) (fun i => 64 - i) 0 (by omega) ?_ ?_
  · have e0 : tabI 64 (fun v => if v < 0 then (-1 : Int) else 0) = List.replicate 64 0 := by
      rw [tabI_rep]; exact tabI_ext fun v _ => by rw [if_neg (by omega)]
    simp (disch := ((try simp only [List.length_set, List.length_replicate, List.length_append, List.length_cons, List.length_nil]); omega)) only [aW, aX, aV, aB, aN, aL, aP, aH, e0]
    exact Cut.of' 3 rfl (by omega) (by simp (disch := first | omega | simp (disch := omega) only [aF, aL, aN]) only [aW, aX, aV, aB, aN, aL, aP, aH, aF, Int.natCast_add, Int.natCast_mul, Int.add_sub_cancel, List.length_nil, Int.cast_ofNat_Int, and_true, true_and]) (by simp (disch := first | omega | simp (disch := omega) only [aF, aL, aN]) only [aW, aX, aV, aB, aN, aL, aP, aH, aF, Int.natCast_add, Int.natCast_mul, Int.add_sub_cancel, List.length_nil, Int.cast_ofNat_Int, and_true, true_and])
  rintro i hi
  have hTl := tabI_len 64 fun v => if v < i then (-1 : Int) else 0
  by_cases hlt : i < 64
  · simp (disch := ((try simp only [List.length_set, List.length_replicate, List.length_append, List.length_cons, List.length_nil]); omega)) only [aW, aX, aV, aB, aN, aL, aP, aH]
    refine ⟨i + 1, by omega, by omega, ?_⟩
    have e1 : tabI 64 (fun v => if v < i + 1 then (-1 : Int) else 0) = (tabI 64 fun v => if v < i then (-1 : Int) else 0).set i (-1) := by
      rw [tabI_set _ _ _ _ hlt]
      refine tabI_ext fun v _ => ?_
      by_cases hv : v = i
      · rw [if_pos hv, if_pos (by omega)]
      · rw [if_neg hv]
        by_cases hvi : v < i
        · rw [if_pos hvi, if_pos (by omega)]
        · rw [if_neg hvi, if_neg (by omega)]
    rw [e1]
    exact Cut.of' 3 rfl (by omega) (by simp (disch := first | omega | simp (disch := omega) only [aF, aL, aN]) only [aW, aX, aV, aB, aN, aL, aP, aH, aF, Int.natCast_add, Int.natCast_mul, Int.add_sub_cancel, List.length_nil, Int.cast_ofNat_Int, and_true, true_and]) (by simp (disch := first | omega | simp (disch := omega) only [aF, aL, aN]) only [aW, aX, aV, aB, aN, aL, aP, aH, aF, Int.natCast_add, Int.natCast_mul, Int.add_sub_cancel, List.length_nil, Int.cast_ofNat_Int, and_true, true_and])
  have hin : i = 64 := by omega
  subst hin
  clear hi hlt
  have e1 : (tabI 64 fun v => if v < 64 then (-1 : Int) else 0).set s.toNat 0 = tG l s 0 := by
    unfold tG
    rw [tabI_set _ _ _ _ (by omega)]
    refine tabI_ext fun v hv => ?_
    rw [gT_zero]
    by_cases hvs : v = s.toNat
    · have : (v : Int) = s := by omega
      rw [if_pos hvs, if_pos this]
    · have : ¬ (v : Int) = s := by omega
      rw [if_neg hvs, if_neg this, if_pos hv]
  simp (disch := ((try simp only [List.length_set, List.length_replicate, List.length_append, List.length_cons, List.length_nil]); omega)) only [aW, aX, aV, aB, aN, aL, aP, aH, e1]
  refine AWP.loopM (α := Nat × List Int) g_graph_distances_1 (fun p => (∀ u, u ∈ p.2 ↔ gT l s p.1 u = (p.1 : Int)) ∧ p.2.length ≤ 512 ∧ p.1 + (2 * (tG l s p.1).count (-1) + (if p.2.length = 0 then 0 else 1)) ≤ 129) (fun p => [(7, .fs true (ints p.2)), (15, .any)]) (fun p => [⟨0, [.v (.int .i64 n), .fs w (pairs l)]⟩, ⟨0, ints (List.replicate 64 0)⟩, ⟨0, ints (tG l s p.1)⟩]) (fun p => 2 * (tG l s p.1).count (-1) + (if p.2.length = 0 then 0 else 1)) (0, [s]) ⟨fun u => ?_, by simp, ?_⟩ ?_ ?_
  · rw [gT_zero]
    by_cases hu : u = s
    · simp [hu]
    · simp [hu]
  · have := tG_cnt l s 0
    simp only [List.length_cons, List.length_nil]
    rw [if_neg (by omega)]; omega
  · simp (disch := ((try simp only [List.length_set, List.length_replicate, List.length_append, List.length_cons, List.length_nil]); omega)) only [aW, aX, aV, aB, aN, aL, aP, aH]
    exact Cut.of' 3 rfl (by omega) (by simp (disch := first | omega | simp (disch := omega) only [aF, aL, aN]) only [aW, aX, aV, aB, aN, aL, aP, aH, aF, Int.natCast_add, Int.natCast_mul, Int.add_sub_cancel, List.length_nil, Int.cast_ofNat_Int, and_true, true_and, ii_one]) (by simp (disch := first | omega | simp (disch := omega) only [aF, aL, aN]) only [aW, aX, aV, aB, aN, aL, aP, aH, aF, Int.natCast_add, Int.natCast_mul, Int.add_sub_cancel, List.length_nil, Int.cast_ofNat_Int, and_true, true_and]; exact fz_one _ _ _ _ _ (by omega) rfl)
  rintro ⟨k, wave⟩ ⟨hw, hwl, hm⟩
  simp only at hw hwl hm
  have hk : k ≤ 129 := by omega
  by_cases hwe : 0 < wave.length
  · rw [if_neg (by omega)] at hm
    simp (disch := ((try simp only [List.length_set, List.length_replicate, List.length_append, List.length_cons, List.length_nil]); omega)) only [aW, aX, aV, aB, aN, aL, aP, aH]
    refine AWP.cut (Cut.virt 8 1 rfl) ?_
    refine AWP.loopM (α := Nat × Nat × List Int) g_graph_distances_2 (fun p => p.1 ≤ l.length ∧ (∀ u, u ∈ p.2.2 ↔ gMid l s k p.1 u = ((k + 1 : Nat) : Int)) ∧ p.2.2.length ≤ p.1 ∧ (tM l s k p.1).count (-1) + p.2.2.length = (tG l s k).count (-1))
      (fun p => [(8, .vs 3 p.2.1 1 p.2.2.length), (10, .v (.int .i64 p.1))]) (fun p => [⟨0, [.v (.int .i64 n), .fs w (pairs l)]⟩, ⟨0, ints (List.replicate 64 0)⟩, ⟨0, ints (tM l s k p.1)⟩, ⟨p.2.1, ints p.2.2⟩]) (fun p => l.length - p.1) (0, 0, []) ⟨by simp, fun u => ?_, by simp, ?_⟩ ?_ ?_
    · have := gT_le l s k u
      rw [gMid_zero]; simp; omega
    · have : tM l s k 0 = tG l s k := tabI_ext fun v _ => gMid_zero l s k v
      simp only [this, List.length_nil]; rfl
    · have : tM l s k 0 = tG l s k := tabI_ext fun v _ => gMid_zero l s k v
      simp (disch := ((try simp only [List.length_set, List.length_replicate, List.length_append, List.length_cons, List.length_nil]); omega)) only [aW, aX, aV, aB, aN, aL, aP, aH]
      exact Cut.of' 4 rfl (by omega) (by simp (disch := first | omega | simp (disch := omega) only [aF, aL, aN]) only [aW, aX, aV, aB, aN, aL, aP, aH, aF, Int.natCast_add, Int.natCast_mul, Int.add_sub_cancel, List.length_nil, Int.cast_ofNat_Int, and_true, true_and, this, ii_nil]) (by simp (disch := first | omega | simp (disch := omega) only [aF, aL, aN]) only [aW, aX, aV, aB, aN, aL, aP, aH, aF, Int.natCast_add, Int.natCast_mul, Int.add_sub_cancel, List.length_nil, Int.cast_ofNat_Int, and_true, true_and])
    rintro ⟨i, ver, next⟩ ⟨hi, hx, hxl, hc⟩
    simp only at hi hx hxl hc
    by_cases hil : i < l.length
    · have hmem : l.getD i (0, 0) ∈ l := by simp [List.getD_eq_getElem?_getD, hil]
      obtain ⟨⟨r1, r2⟩, r3, r4⟩ := hr _ hmem
      have hTl2 := tM_len l s k i
      have hTl3 := tM_len l s k (i + 1)
      have hg1 := tM_get l s k i (l.getD i (0, 0)).1 r1 (by omega)
      have hg2 := tM_get l s k i (l.getD i (0, 0)).2 r3 (by omega)
      by_cases q1 : s ≤ (l.getD i (0, 0)).1
      · by_cases q2 : gMid l s k i (l.getD i (0, 0)).1 < 0
        · simp (disch := ((try simp only [List.length_set, List.length_replicate, List.length_append, List.length_cons, List.length_nil]); omega)) only [aW, aX, aV, aB, aN, aL, aP, aH, hg1, hg2]
          refine (contains_vr (w := true) wave (by omega) (l.getD i (0, 0)).2).same (by simp (disch := first | omega | simp (disch := omega) only [aF, aL, aN]) only [aW, aX, aV, aB, aN, aL, aP, aH, aF, Int.natCast_add, Int.natCast_mul, Int.add_sub_cancel, List.length_nil, Int.cast_ofNat_Int, and_true, true_and]) rfl (aret_of ?_)
          simp (disch := ((try simp only [List.length_set, List.length_replicate, List.length_append, List.length_cons, List.length_nil]); omega)) only [aW, aX, aV, aB, aN, aL, aP, aH]
          refine ib_intro (fun q3 => ?_) (fun q3 => ?_)
          · have hkk := (hw _).1 q3
            have hmk : gMid l s k i (l.getD i (0, 0)).2 = k := by unfold gMid; rw [if_neg (by omega), hkk]
            have hhit := gMid_hit hil q1 q2 hkk
            have e2 : (tM l s k i).set (l.getD i (0, 0)).1.toNat ((k : Int) + 1) = tM l s k (i + 1) := by
              unfold tM
              rw [tabI_set _ _ _ _ (by omega)]
              refine tabI_ext fun v _ => ?_
              rw [hhit]
              by_cases hv : v = (l.getD i (0, 0)).1.toNat
              · rw [if_pos hv, if_pos (by omega)]; omega
              · rw [if_neg hv, if_neg (by omega)]
            have hm1 : gMid l s k i (l.getD i (0, 0)).1 = -1 := by have := gMid_le l s k i (l.getD i (0, 0)).1; omega
            have hcs := count_seti (tM l s k i) (l.getD i (0, 0)).1.toNat ((k : Int) + 1) (by omega) (by rw [hg1]; exact hm1) (by omega)
            rw [e2] at hcs
            simp (disch := ((try simp only [List.length_set, List.length_replicate, List.length_append, List.length_cons, List.length_nil]); omega)) only [aW, aX, aV, aB, aN, aL, aP, aH, hg1, hg2, hmk, e2]
            refine ⟨(i + 1, ver + 1, next ++ [(l.getD i (0, 0)).1]), ⟨by simp only; omega, fun u => ?_, by simp; omega, by simp only [List.length_append, List.length_cons, List.length_nil]; omega⟩, by simp only; omega, ?_⟩
            · rw [List.mem_append, List.mem_singleton, hx, hhit]
              by_cases hu : u = (l.getD i (0, 0)).1
              · rw [if_pos hu]; exact ⟨fun _ => rfl, fun _ => .inr hu⟩
              · rw [if_neg hu]; exact ⟨fun h => h.resolve_right hu, .inl⟩
            · exact Cut.of' 4 rfl (by omega) (by simp (disch := first | omega | simp (disch := omega) only [aF, aL, aN]) only [aW, aX, aV, aB, aN, aL, aP, aH, aF, Int.natCast_add, Int.natCast_mul, Int.add_sub_cancel, List.length_nil, Int.cast_ofNat_Int, and_true, true_and]) (by simp (disch := first | omega | simp (disch := omega) only [aF, aL, aN]) only [aW, aX, aV, aB, aN, aL, aP, aH, aF, Int.natCast_add, Int.natCast_mul, Int.add_sub_cancel, List.length_nil, Int.cast_ofNat_Int, and_true, true_and])
          · have hkk : gT l s k (l.getD i (0, 0)).2 ≠ k := fun h => q3 ((hw _).2 h)
            have hmiss := gMid_miss (s := s) (k := k) hil fun h => hkk h.2.2
            have e2 : tM l s k (i + 1) = tM l s k i := tabI_ext fun v _ => hmiss v
            simp (disch := ((try simp only [List.length_set, List.length_replicate, List.length_append, List.length_cons, List.length_nil]); omega)) only [aW, aX, aV, aB, aN, aL, aP, aH]
            refine ⟨(i + 1, ver, next), ⟨by simp only; omega, fun u => by rw [hmiss]; exact hx u, by simp only; omega, by rw [e2]; exact hc⟩, by simp only; omega, ?_⟩
            rw [e2]
            exact Cut.of' 4 rfl (by omega) (by simp (disch := first | omega | simp (disch := omega) only [aF, aL, aN]) only [aW, aX, aV, aB, aN, aL, aP, aH, aF, Int.natCast_add, Int.natCast_mul, Int.add_sub_cancel, List.length_nil, Int.cast_ofNat_Int, and_true, true_and]) (by simp (disch := first | omega | simp (disch := omega) only [aF, aL, aN]) only [aW, aX, aV, aB, aN, aL, aP, aH, aF, Int.natCast_add, Int.natCast_mul, Int.add_sub_cancel, List.length_nil, Int.cast_ofNat_Int, and_true, true_and])
        · have hmiss := gMid_miss (s := s) (k := k) hil fun h => q2 h.2.1
          have e2 : tM l s k (i + 1) = tM l s k i := tabI_ext fun v _ => hmiss v
          simp (disch := ((try simp only [List.length_set, List.length_replicate, List.length_append, List.length_cons, List.length_nil]); omega)) only [aW, aX, aV, aB, aN, aL, aP, aH, hg1, hg2]
          refine ⟨(i + 1, ver, next), ⟨by simp only; omega, fun u => by rw [hmiss]; exact hx u, by simp only; omega, by rw [e2]; exact hc⟩, by simp only; omega, ?_⟩
          rw [e2]
          exact Cut.of' 4 rfl (by omega) (by simp (disch := first | omega | simp (disch := omega) only [aF, aL, aN]) only [aW, aX, aV, aB, aN, aL, aP, aH, aF, Int.natCast_add, Int.natCast_mul, Int.add_sub_cancel, List.length_nil, Int.cast_ofNat_Int, and_true, true_and]) (by simp (disch := first | omega | simp (disch := omega) only [aF, aL, aN]) only [aW, aX, aV, aB, aN, aL, aP, aH, aF, Int.natCast_add, Int.natCast_mul, Int.add_sub_cancel, List.length_nil, Int.cast_ofNat_Int, and_true, true_and])
      · have hmiss := gMid_miss (s := s) (k := k) hil fun h => q1 h.1
        have e2 : tM l s k (i + 1) = tM l s k i := tabI_ext fun v _ => hmiss v
        simp (disch := ((try simp only [List.length_set, List.length_replicate, List.length_append, List.length_cons, List.length_nil]); omega)) only [aW, aX, aV, aB, aN, aL, aP, aH, hg1, hg2]
        refine ⟨(i + 1, ver, next), ⟨by simp only; omega, fun u => by rw [hmiss]; exact hx u, by simp only; omega, by rw [e2]; exact hc⟩, by simp only; omega, ?_⟩
        rw [e2]
        exact Cut.of' 4 rfl (by omega) (by simp (disch := first | omega | simp (disch := omega) only [aF, aL, aN]) only [aW, aX, aV, aB, aN, aL, aP, aH, aF, Int.natCast_add, Int.natCast_mul, Int.add_sub_cancel, List.length_nil, Int.cast_ofNat_Int, and_true, true_and]) (by simp (disch := first | omega | simp (disch := omega) only [aF, aL, aN]) only [aW, aX, aV, aB, aN, aL, aP, aH, aF, Int.natCast_add, Int.natCast_mul, Int.add_sub_cancel, List.length_nil, Int.cast_ofNat_Int, and_true, true_and])
    · have hie : i = l.length := by omega
      subst hie
      have e2 : tM l s k l.length = tG l s (k + 1) := tabI_ext fun v _ => gMid_all l s k v
      rw [e2] at hc
      simp (disch := ((try simp only [List.length_set, List.length_replicate, List.length_append, List.length_cons, List.length_nil]); omega)) only [aW, aX, aV, aB, aN, aL, aP, aH]
      refine ⟨(k + 1, next), ⟨fun u => by rw [← gMid_all]; exact hx u, by simp only; omega, ?_⟩, ?_, ?_⟩
      · simp only; split <;> omega
      · simp only; rw [if_neg (show ¬ wave.length = 0 by omega)]; split <;> omega
      · rw [e2]
        exact Cut.of' 3 rfl (by omega) (by simp (disch := first | omega | simp (disch := omega) only [aF, aL, aN]) only [aW, aX, aV, aB, aN, aL, aP, aH, aF, Int.natCast_add, Int.natCast_mul, Int.add_sub_cancel, List.length_nil, Int.cast_ofNat_Int, and_true, true_and]) (by simp (disch := first | omega | simp (disch := omega) only [aF, aL, aN]) only [aW, aX, aV, aB, aN, aL, aP, aH, aF, Int.natCast_add, Int.natCast_mul, Int.add_sub_cancel, List.length_nil, Int.cast_ofNat_Int, and_true, true_and]; exact fz_vsI _ _ _ _ _ _ (by omega) rfl (by simp (disch := ((try simp only [List.length_set, List.length_replicate, List.length_append, List.length_cons, List.length_nil]); omega)) only [aW, aX, aV, aB, aN, aL, aP, aH]))
  · have hwn : wave = [] := List.eq_nil_of_length_eq_zero (by omega)
    have hstop : ∀ v, gT l s k v ≠ k := fun v h => by
      have := (hw v).2 h; rw [hwn] at this; cases this
    have e2 : tG l s k = tabI 64 fun v => gDist l s v := tabI_ext fun v _ => (gDist_of (by omega) hstop v).symm
    have hTl2 := tG_len l s k
    have hTl3 := tabI_len 64 fun v => gDist l s v
    rw [e2]
    have e3 : splA (ints (List.replicate 64 0)) 0 (ints (tabI 64 fun v => gDist l s v)) = ints (tabI 64 fun v => gDist l s v) := by
      unfold splA
      rw [List.take_zero, List.nil_append, List.drop_of_length_le, List.append_nil]
      simp only [ints, List.length_map, List.length_replicate, hTl3]; omega
    have e4 : (ints (tabI 64 fun v => gDist l s v)).take 64 = ints (tabI 64 fun v => gDist l s v) := List.take_of_length_le (by simp only [ints, List.length_map, hTl3]; omega)
    have e5 : 64 ≤ (ints (tabI 64 fun v => gDist l s v)).length := by simp only [ints, List.length_map, hTl3]; omega
    simp (disch := ((try simp only [List.length_set, List.length_replicate, List.length_append, List.length_cons, List.length_nil]); omega)) only [aW, aX, aV, aB, aN, aL, aP, aH, r_graph_distances, ii_one', e3, e4]
    exact post0 (Fz.refl (by simp (disch := first | omega | simp (disch := omega) only [aF, aL, aN]) only [aW, aX, aV, aB, aN, aL, aP, aH, aF, Int.natCast_add, Int.natCast_mul, Int.add_sub_cancel, List.length_nil, Int.cast_ofNat_Int, and_true, true_and])) ⟨rfl, rfl⟩
end Go.Proofs.Ytegnnfbmbnpgdaa
namespace Go.Proofs.Ytegnnfbmbnpgdaa
open Go Go.Lft
set_option linter.unusedSimpArgs false
set_option linter.unusedVariables false
attribute [local congr] ob_congr bw_congr ib_congr ck_congr iwA_congr itA_congr aw_congr awp_congr sqA_congr bkA_congr vr_congr gd_congr

def dL (l : Arcs) (s : Int) : List Int := tabI 64 fun v => gDist l s v
theorem dL_len (l : Arcs) (s : Int) : (ints (dL l s)).length = 64 := by simp only [ints, List.length_map]; exact tabI_len _ _
theorem dL_spl (l : Arcs) (s : Int) (T : List Int) (hT : T.length = 64) : splA (ints T) 0 (ints (dL l s)) = ints (dL l s) := by
  unfold splA
  rw [List.take_zero, List.nil_append, List.drop_of_length_le, List.append_nil]
  rw [dL_len]; simp only [ints, List.length_map, hT]; omega
theorem dL_take (l : Arcs) (s : Int) : (ints (dL l s)).take 64 = ints (dL l s) := List.take_of_length_le (by rw [dL_len]; omega)
theorem follow1_vr {w : Bool} (n : Int) (l : Arcs) (hn : n ≤ 64) (hl : l.length ≤ 512) (hr : inR n l) (s x : Int) (d : Nat) :
    VR P false n_graph_follow [graphA w n l, .v (.int .i64 x), .v (.int .i64 d), .agg (ints (dL l s))] [] (isR (.v (.int .i64 (folL l (fun u => gDist l s u == (d : Int)) x)))) := by
  have h := follow_vr (w := w) n l hn hl hr x d (fun v => gDist l s v)
  have e : folL l (fun u => gDist l s (u.toNat : Nat) == (d : Int)) x = folL l (fun u => gDist l s u == (d : Int)) x :=
    fol_congr hr fun a ha _ => by rw [Int.toNat_of_nonneg (hr a ha).2.1]
  rw [e] at h
  exact h
theorem distances1_vr {w : Bool} (n : Int) (l : Arcs) (h0 : 0 ≤ n) (hn : n ≤ 64) (hl : l.length ≤ 512) (hr : inR n l) (s : Int) (hs : 0 ≤ s ∧ s < n) :
    VR P false n_graph_distances [graphA w n l, .v (.int .i64 s)] [] (isR (.agg (ints (dL l s)))) := distances_vr n l h0 hn hl hr s hs

theorem cycle_vr {w : Bool} (n : Int) (l : Arcs) : VR P false n_graph_Cycle [graphA w n l] [] (isR (.tup [.fs true (ints (cycR n l).1), .v (.int .i64 (cycR n l).2)])) := by
  refine vr_graph_Cycle (by simp) (.inr rfl) fun _ _ => ?_
  unfold graphA
  simp (disch := ((try simp only [List.length_set, List.length_replicate, List.length_append, List.length_cons, List.length_nil]); omega)) only [aW, aX, aV, aB, aN, aL, aP, aH, s_graph_Cycle, v_graph_Cycle]
  refine (check_vr (w := w) n l).same (by unfold graphA; simp (disch := first | omega | simp (disch := omega) only [aF, aL, aN]) only [aW, aX, aV, aB, aN, aL, aP, aH, aF, Int.natCast_add, Int.natCast_mul, Int.add_sub_cancel, List.length_nil, Int.cast_ofNat_Int, and_true, true_and]) rfl (aret_of ?_)
  simp (disch := ((try simp only [List.length_set, List.length_replicate, List.length_append, List.length_cons, List.length_nil]); omega)) only [aW, aX, aV, aB, aN, aL, aP, aH]
  refine ib_intro (fun h1 => ?_) (fun h1 => ?_)
  · simp (disch := ((try simp only [List.length_set, List.length_replicate, List.length_append, List.length_cons, List.length_nil]); omega)) only [aW, aX, aV, aB, aN, aL, aP, aH, r_graph_Cycle]
    refine post_err ⟨?_, rfl⟩
    unfold cycR; rw [if_pos h1]; rfl
  have h1 : gcheck n l = 0 := Classical.not_not.1 h1
  obtain ⟨c1, c2, c3, c4⟩ := gcheck_ok h1
  simp (disch := ((try simp only [List.length_set, List.length_replicate, List.length_append, List.length_cons, List.length_nil]); omega)) only [aW, aX, aV, aB, aN, aL, aP, aH]
  refine AWP.loopM (α := Nat × List Int) g_graph_Cycle_0 (fun p => p.1 ≤ n.toNat ∧ p.2.length = 64 ∧ ∀ i, i < p.1 → ∀ v : Nat, v < n.toNat → gAt l v i = false) (fun p => [(5, .v (.int .i64 (-1))), (6, .v (.int .i64 0)), (7, .v (.int .i64 (p.1 + 1 : Nat)))])
    (fun p => [⟨0, [.v (.int .i64 n), .fs w (pairs l)]⟩, ⟨0, ints p.2⟩]) (fun p => n.toNat - p.1) (0, List.replicate 64 0) ⟨by simp, by simp, fun i hi => by simp only at hi; omega⟩ ?_ ?_
  · simp (disch := ((try simp only [List.length_set, List.length_replicate, List.length_append, List.length_cons, List.length_nil]); omega)) only [aW, aX, aV, aB, aN, aL, aP, aH]
    exact Cut.of' 2 rfl (by omega) (by simp (disch := first | omega | simp (disch := omega) only [aF, aL, aN]) only [aW, aX, aV, aB, aN, aL, aP, aH, aF, Int.natCast_add, Int.natCast_mul, Int.add_sub_cancel, List.length_nil, Int.cast_ofNat_Int, and_true, true_and]) (by simp (disch := first | omega | simp (disch := omega) only [aF, aL, aN]) only [aW, aX, aV, aB, aN, aL, aP, aH, aF, Int.natCast_add, Int.natCast_mul, Int.add_sub_cancel, List.length_nil, Int.cast_ofNat_Int, and_true, true_and])
  rintro ⟨k, T⟩ ⟨hk, hT, hno⟩
  simp only at hk hT hno
  by_cases hkt : k < n.toNat
  · simp (disch := ((try simp only [List.length_set, List.length_replicate, List.length_append, List.length_cons, List.length_nil]); omega)) only [aW, aX, aV, aB, aN, aL, aP, aH]
    refine AWP.loopM (α := Nat × List Int) g_graph_Cycle_1 (fun p => p.1 ≤ n.toNat ∧ p.2.length = 64 ∧ ∀ v : Nat, v < p.1 → gAt l v k = false) (fun p => [(5, .v (.int .i64 (-1))), (6, .v (.int .i64 0)), (8, .v (.int .i64 p.1))])
      (fun p => [⟨0, [.v (.int .i64 n), .fs w (pairs l)]⟩, ⟨0, ints p.2⟩]) (fun p => n.toNat - p.1) (0, T) ⟨by simp, hT, fun i hi => by simp only at hi; omega⟩ ?_ ?_
    · try simp (disch := ((try simp only [List.length_set, List.length_replicate, List.length_append, List.length_cons, List.length_nil]); omega)) only [aW, aX, aV, aB, aN, aL, aP, aH]
      exact Cut.of' 2 rfl (by omega) (by simp (disch := first | omega | simp (disch := omega) only [aF, aL, aN]) only [aW, aX, aV, aB, aN, aL, aP, aH, aF, Int.natCast_add, Int.natCast_mul, Int.add_sub_cancel, List.length_nil, Int.cast_ofNat_Int, and_true, true_and]) (by simp (disch := first | omega | simp (disch := omega) only [aF, aL, aN]) only [aW, aX, aV, aB, aN, aL, aP, aH, aF, Int.natCast_add, Int.natCast_mul, Int.add_sub_cancel, List.length_nil, Int.cast_ofNat_Int, and_true, true_and])
    rintro ⟨s, T'⟩ ⟨hs, hT', hno'⟩
    simp only at hs hT' hno'
    by_cases hst : s < n.toNat
    · simp (disch := ((try simp only [List.length_set, List.length_replicate, List.length_append, List.length_cons, List.length_nil]); omega)) only [aW, aX, aV, aB, aN, aL, aP, aH]
      refine (distances1_vr (w := w) n l c1 c2 c3 c4 s ⟨by omega, by omega⟩).same (by unfold graphA; simp (disch := first | omega | simp (disch := omega) only [aF, aL, aN]) only [aW, aX, aV, aB, aN, aL, aP, aH, aF, Int.natCast_add, Int.natCast_mul, Int.add_sub_cancel, List.length_nil, Int.cast_ofNat_Int, and_true, true_and]) (by simp (disch := first | omega | simp (disch := omega) only [aF, aL, aN]) only [aW, aX, aV, aB, aN, aL, aP, aH, aF, Int.natCast_add, Int.natCast_mul, Int.add_sub_cancel, List.length_nil, Int.cast_ofNat_Int, and_true, true_and]) (aret_of ?_)
      have hone := ii_one' (dL l s)
      have hle : (dL l s).length = 64 := tabI_len _ _
      have hk1 : ((k + 1 : Nat) : Int) - 1 = (k : Nat) := by omega
      simp (disch := ((try simp only [List.length_set, List.length_replicate, List.length_append, List.length_cons, List.length_nil]); omega)) only [aW, aX, aV, aB, aN, aL, aP, aH, hone, dL_spl l s T' hT', dL_take l s, hk1]
      refine (follow1_vr (w := w) n l c2 c3 c4 s s k).same (by unfold graphA; simp (disch := first | omega | simp (disch := omega) only [aF, aL, aN]) only [aW, aX, aV, aB, aN, aL, aP, aH, aF, Int.natCast_add, Int.natCast_mul, Int.add_sub_cancel, List.length_nil, Int.cast_ofNat_Int, and_true, true_and]) (by simp (disch := first | omega | simp (disch := omega) only [aF, aL, aN]) only [aW, aX, aV, aB, aN, aL, aP, aH, aF, Int.natCast_add, Int.natCast_mul, Int.add_sub_cancel, List.length_nil, Int.cast_ofNat_Int, and_true, true_and]) (aret_of ?_)
      by_cases hf : 0 ≤ folL l (fun u => gDist l s u == (k : Int)) s
      · obtain ⟨g1, g2⟩ := search_found c4 c2 hst hkt (by unfold gAt; exact decide_eq_true hf) hno hno'
        obtain ⟨m1, m2, m3, m4⟩ := cN_eq g2.eq
        simp (disch := ((try simp only [List.length_set, List.length_replicate, List.length_append, List.length_cons, List.length_nil]); omega)) only [aW, aX, aV, aB, aN, aL, aP, aH]
        refine AWP.loopP g_graph_Cycle_2 (fun j : Nat => j < k + 1) (fun j => [(13, .sl 2 j 1 0 (j + 1)), (14, .v (.int .i64 (k - j : Nat)))]) (fun j => [(2, ⟨j, ints (cst l (gQ l s (k + 1)) s j).1⟩)]) (fun j => k - j) 0 (by omega) ?_ ?_
        · simp (disch := ((try simp only [List.length_set, List.length_replicate, List.length_append, List.length_cons, List.length_nil]); omega)) only [aW, aX, aV, aB, aN, aL, aP, aH]
          exact Cut.of' 3 rfl (by omega) (by simp (disch := first | omega | simp (disch := omega) only [aF, aL, aN]) only [aW, aX, aV, aB, aN, aL, aP, aH, aF, Int.natCast_add, Int.natCast_mul, Int.add_sub_cancel, List.length_nil, Int.cast_ofNat_Int, and_true, true_and, cst, ii_one]) (by simp (disch := first | omega | simp (disch := omega) only [aF, aL, aN]) only [aW, aX, aV, aB, aN, aL, aP, aH, aF, Int.natCast_add, Int.natCast_mul, Int.add_sub_cancel, List.length_nil, Int.cast_ofNat_Int, and_true, true_and])
        rintro j hj
        have hcl := cst_len l (gQ l s (k + 1)) s j
        have hla := cst_last l (gQ l s (k + 1)) s j
        have hidx : ((j + 1 : Nat) - 1 : Int).toNat = j := by omega
        by_cases hjt : j < k
        · simp (disch := ((try simp only [List.length_set, List.length_replicate, List.length_append, List.length_cons, List.length_nil]); omega)) only [aW, aX, aV, aB, aN, aL, aP, aH, hidx, hla, dL_take l s]
          refine (follow1_vr (w := w) n l c2 c3 c4 s (cst l (gQ l s (k + 1)) s j).2 (k - j)).same (by unfold graphA; simp (disch := first | omega | simp (disch := omega) only [aF, aL, aN]) only [aW, aX, aV, aB, aN, aL, aP, aH, aF, Int.natCast_add, Int.natCast_mul, Int.add_sub_cancel, List.length_nil, Int.cast_ofNat_Int, and_true, true_and]) (by simp (disch := first | omega | simp (disch := omega) only [aF, aL, aN]) only [aW, aX, aV, aB, aN, aL, aP, aH, aF, Int.natCast_add, Int.natCast_mul, Int.add_sub_cancel, List.length_nil, Int.cast_ofNat_Int, and_true, true_and]) (aret_of ?_)
          simp (disch := ((try simp only [List.length_set, List.length_replicate, List.length_append, List.length_cons, List.length_nil]); omega)) only [aW, aX, aV, aB, aN, aL, aP, aH]
          refine ⟨j + 1, by omega, by omega, ?_⟩
          have e1 : ((k - j : Nat) : Int) - 1 = (k - (j + 1) : Nat) := by omega
          have e2 : gQ l s (k + 1) j = fun u => gDist l s u == ((k - j : Nat) : Int) := rfl
          simp only [cst, e1, e2]
          exact Cut.of' 3 rfl (by omega) (by simp (disch := first | omega | simp (disch := omega) only [aF, aL, aN]) only [aW, aX, aV, aB, aN, aL, aP, aH, aF, Int.natCast_add, Int.natCast_mul, Int.add_sub_cancel, List.length_nil, Int.cast_ofNat_Int, and_true, true_and]) (by simp (disch := first | omega | simp (disch := omega) only [aF, aL, aN]) only [aW, aX, aV, aB, aN, aL, aP, aH, aF, Int.natCast_add, Int.natCast_mul, Int.add_sub_cancel, List.length_nil, Int.cast_ofNat_Int, and_true, true_and])
        · have hjk : j = k := by omega
          subst hjk
          simp (disch := ((try simp only [List.length_set, List.length_replicate, List.length_append, List.length_cons, List.length_nil]); omega)) only [aW, aX, aV, aB, aN, aL, aP, aH, r_graph_Cycle]
          refine post0 (r := .tup [.fs true (ints (cst l (gQ l s (j + 1)) s j).1), .v (.int .i64 0)]) (Fz.tup ⟨fz_slI _ _ _ _ _ _ (by omega) hcl.symm (by simp (disch := ((try simp only [List.length_set, List.length_replicate, List.length_append, List.length_cons, List.length_nil]); omega)) only [aW, aX, aV, aB, aN, aL, aP, aH]), Fz.refl rfl, trivial⟩) ⟨?_, rfl⟩
          have hsame := (cst_same c4 c2 g2 j (by omega)).1
          unfold cycR; rw [if_neg (by simp [h1]), g1, if_neg (by simp only; omega), hsame]; rfl
      · simp (disch := ((try simp only [List.length_set, List.length_replicate, List.length_append, List.length_cons, List.length_nil]); omega)) only [aW, aX, aV, aB, aN, aL, aP, aH]
        refine ⟨(s + 1, dL l s), ⟨by simp only; omega, tabI_len _ _, fun v hv => ?_⟩, by simp only; omega, ?_⟩
        · simp only at hv
          by_cases hvs : v = s
          · subst hvs; unfold gAt; exact decide_eq_false hf
          · exact hno' v (by omega)
        · exact Cut.of' 2 rfl (by omega) (by simp (disch := first | omega | simp (disch := omega) only [aF, aL, aN]) only [aW, aX, aV, aB, aN, aL, aP, aH, aF, Int.natCast_add, Int.natCast_mul, Int.add_sub_cancel, List.length_nil, Int.cast_ofNat_Int, and_true, true_and]) (by simp (disch := first | omega | simp (disch := omega) only [aF, aL, aN]) only [aW, aX, aV, aB, aN, aL, aP, aH, aF, Int.natCast_add, Int.natCast_mul, Int.add_sub_cancel, List.length_nil, Int.cast_ofNat_Int, and_true, true_and])
    · have hse : s = n.toNat := by omega
      subst hse
      simp (disch := ((try simp only [List.length_set, List.length_replicate, List.length_append, List.length_cons, List.length_nil]); omega)) only [aW, aX, aV, aB, aN, aL, aP, aH]
      refine ⟨(k + 1, T'), ⟨by simp only; omega, hT', fun i hi v hv => ?_⟩, by simp only; omega, ?_⟩
      · simp only at hi
        by_cases hik : i = k
        · subst hik; exact hno' v hv
        · exact hno i (by omega) v hv
      · exact Cut.of' 2 rfl (by omega) (by simp (disch := first | omega | simp (disch := omega) only [aF, aL, aN]) only [aW, aX, aV, aB, aN, aL, aP, aH, aF, Int.natCast_add, Int.natCast_mul, Int.add_sub_cancel, List.length_nil, Int.cast_ofNat_Int, and_true, true_and]) (by simp (disch := first | omega | simp (disch := omega) only [aF, aL, aN]) only [aW, aX, aV, aB, aN, aL, aP, aH, aF, Int.natCast_add, Int.natCast_mul, Int.add_sub_cancel, List.length_nil, Int.cast_ofNat_Int, and_true, true_and])
  · have hkn : k = n.toNat := by omega
    subst hkn
    have g1 := search_none c4 c2 hno
    simp (disch := ((try simp only [List.length_set, List.length_replicate, List.length_append, List.length_cons, List.length_nil]); omega)) only [aW, aX, aV, aB, aN, aL, aP, aH, r_graph_Cycle]
    refine post_err ⟨?_, rfl⟩
    unfold cycR; rw [if_neg (by simp [h1]), g1, if_pos (by decide)]; rfl
end Go.Proofs.Ytegnnfbmbnpgdaa
namespace Go.Proofs.Ytegnnfbmbnpgdaa
open Go Go.Lft
set_option linter.unusedSimpArgs false
set_option linter.unusedVariables false
attribute [local congr] ob_congr bw_congr ib_congr ck_congr iwA_congr itA_congr aw_congr awp_congr sqA_congr bkA_congr vr_congr gd_congr

theorem ex1 : orderR 3 [(2, 0), (0, 1)] = ([2, 0, 1], 0) := by decide
theorem ex2 : cycR 3 [(0, 1), (1, 2), (2, 0), (2, 1)] = ([1, 2], 0) := by decide
theorem ex3 : groupsR 4 [(0, 1), (1, 0), (1, 3)] = ([[0, 1], [2], [3]], 0) := by decide
theorem ex4 : orderR 1 [(0, 0)] = ([], 11) := by decide

theorem awake_vr : VR P false n_law09_awake [] [] (isR (.v (.bool true))) := by
  refine vr_law09_awake (by simp) (.inr rfl) fun _ _ => ?_
  have h1 := order_vr (w := false) 3 [(2, 0), (0, 1)]
  have h2 := cycle_vr (w := false) 3 [(0, 1), (1, 2), (2, 0), (2, 1)]
  have h3 := groups_vr (w := false) 4 [(0, 1), (1, 0), (1, 3)]
  have h4 := order_vr (w := false) 1 [(0, 0)]
  rw [ex1] at h1
  rw [ex2] at h2
  rw [ex3] at h3
  rw [ex4] at h4
  simp (disch := ((try simp only [List.length_set, List.length_replicate, List.length_append, List.length_cons, List.length_nil]); omega)) only [aW, aX, aV, aB, aN, aL, aP, aH, s_law09_awake, v_law09_awake]
  refine h1.use ⟨Ld.agg ⟨Ld.refl rfl, ld_slP _ _ _ _ [(2, 0), (0, 1)] rfl rfl, trivial⟩, trivial⟩ rfl (aret_of ?_)
  simp (disch := ((try simp only [List.length_set, List.length_replicate, List.length_append, List.length_cons, List.length_nil]); omega)) only [aW, aX, aV, aB, aN, aL, aP, aH]
  refine h2.use ⟨Ld.agg ⟨Ld.refl rfl, ld_slP _ _ _ _ [(0, 1), (1, 2), (2, 0), (2, 1)] rfl rfl, trivial⟩, trivial⟩ rfl (aret_of ?_)
  simp (disch := ((try simp only [List.length_set, List.length_replicate, List.length_append, List.length_cons, List.length_nil]); omega)) only [aW, aX, aV, aB, aN, aL, aP, aH]
  refine h3.use ⟨Ld.agg ⟨Ld.refl rfl, ld_slP _ _ _ _ [(0, 1), (1, 0), (1, 3)] rfl rfl, trivial⟩, trivial⟩ rfl (aret_of ?_)
  simp (disch := ((try simp only [List.length_set, List.length_replicate, List.length_append, List.length_cons, List.length_nil]); omega)) only [aW, aX, aV, aB, aN, aL, aP, aH]
  refine h4.use ⟨Ld.agg ⟨Ld.refl rfl, ld_slP _ _ _ _ [(0, 0)] rfl rfl, trivial⟩, trivial⟩ rfl (aret_of ?_)
  simp (disch := ((try simp only [List.length_set, List.length_replicate, List.length_append, List.length_cons, List.length_nil]); omega)) only [aW, aX, aV, aB, aN, aL, aP, aH]
  refine (refInts_vr (w := true) (v := false) [2, 0, 1] [2, 0, 1] (by decide)).use ⟨Ld.refl rfl, ld_slI _ _ _ _ [2, 0, 1] rfl rfl, trivial⟩ rfl (aret_of ?_)
  rw [show decide (([2, 0, 1] : List Int) = [2, 0, 1]) = true from by decide]
  simp (disch := ((try simp only [List.length_set, List.length_replicate, List.length_append, List.length_cons, List.length_nil]); omega)) only [aW, aX, aV, aB, aN, aL, aP, aH]
  refine (refInts_vr (w := true) (v := false) [1, 2] [1, 2] (by decide)).use ⟨Ld.refl rfl, ld_slI _ _ _ _ [1, 2] rfl rfl, trivial⟩ rfl (aret_of ?_)
  rw [show decide (([1, 2] : List Int) = [1, 2]) = true from by decide]
  simp (disch := ((try simp only [List.length_set, List.length_replicate, List.length_append, List.length_cons, List.length_nil]); omega)) only [aW, aX, aV, aB, aN, aL, aP, aH]
  refine (refLists_vr (w := true) (v := false) (w' := true) (v' := false) [[0, 1], [2], [3]] [[0, 1], [2], [3]] (by decide) (by decide)).use ⟨Ld.refl rfl, Ld.sl (r := rows false [[0, 1], [2], [3]]) rfl ⟨ld_slI _ _ _ _ [0, 1] rfl rfl, ld_slI _ _ _ _ [2] rfl rfl, ld_slI _ _ _ _ [3] rfl rfl, trivial⟩ rfl rfl (by decide), trivial⟩ rfl (aret_of ?_)
  rw [show decide (([[0, 1], [2], [3]] : List (List Int)) = [[0, 1], [2], [3]]) = true from by decide]
  simp (disch := ((try simp only [List.length_set, List.length_replicate, List.length_append, List.length_cons, List.length_nil]); omega)) only [aW, aX, aV, aB, aN, aL, aP, aH, r_law09_awake]
  exact post_v ⟨rfl, rfl⟩
end Go.Proofs.Ytegnnfbmbnpgdaa
