/- Contracts of the functions of share: New, Next and Owed of a Carry. No statement is claimed here. -/
import Derived.Test.YtnpbnlafaoldcaaSb
namespace Go.Proofs.Ytnpbnlafaoldcaa
open Go Go.Lft
set_option linter.unusedSimpArgs false
attribute [local congr] ob_congr bw_congr iw_congr ib_congr itx_congr runs_congr wp_congr sq_congr bk_congr lg_congr

/-! ### The block of a Carry -/
def pad (l : List Int) : List Int := l ++ List.replicate (4 - l.length) 0
def cc (R O : List Int) : List Int := (R.length : Int) :: (pad R ++ pad O)

theorem pad_len {l : List Int} (h : l.length ≤ 4) : (pad l).length = 4 := by simp [pad]; omega
theorem pad_get {l : List Int} {i : Nat} (h : i < l.length) : (pad l).getD i 0 = l.getD i 0 := by
  simp [pad, List.getElem?_append_left, h]
theorem pad_set {l : List Int} {i : Nat} {y : Int} (h : i < l.length) : (pad l).set i y = pad (l.set i y) := by
  simp [pad, List.set_append_left, h]
theorem cc_len {R O : List Int} (hR : R.length ≤ 4) (hO : O.length ≤ 4) : (cc R O).length = 9 := by
  simp [cc, pad_len hR, pad_len hO]
theorem cc_0 (R O : List Int) : (cc R O).getD 0 0 = R.length := rfl
theorem cc_rate {R O : List Int} {i : Nat} (hi : i < R.length) (hR : R.length ≤ 4) : (cc R O).getD (1 + i) 0 = R.getD i 0 := by
  have h4 := pad_len hR
  rw [cc, Nat.add_comm, List.getD_cons_succ, List.getD_eq_getElem?_getD, List.getElem?_append_left (by omega), ← List.getD_eq_getElem?_getD, pad_get hi]
theorem cc_owed {R O : List Int} {i : Nat} (hi : i < O.length) (hR : R.length ≤ 4) : (cc R O).getD (5 + i) 0 = O.getD i 0 := by
  have h4 := pad_len hR
  rw [cc, show 5 + i = (4 + i) + 1 by omega, List.getD_cons_succ, List.getD_eq_getElem?_getD, List.getElem?_append_right (by omega), ← List.getD_eq_getElem?_getD, h4, Nat.add_sub_cancel_left, pad_get hi]
theorem cc_set {R O : List Int} {i : Nat} {y : Int} (hi : i < O.length) (hR : R.length ≤ 4) : (cc R O).set (5 + i) y = cc R (O.set i y) := by
  have h4 := pad_len hR
  rw [cc, show 5 + i = (4 + i) + 1 by omega, List.set_cons_succ, List.set_append_right _ _ (by omega), h4, Nat.add_sub_cancel_left, pad_set hi, cc]
theorem cc_setr {R O : List Int} {n i : Nat} {y : Int} (hi : i < 4) (hR : R.length = i) : ((n : Int) :: (pad R ++ O)).set (1 + i) y = (n : Int) :: (pad (R ++ [y]) ++ O) := by
  rw [Nat.add_comm, List.set_cons_succ, List.set_append_left _ _ (by rw [pad_len (by omega)]; omega)]
  congr 2
  simp only [pad]
  rw [List.set_append_right _ _ (by omega), hR, Nat.sub_self]
  simp only [List.length_append, List.length_cons, List.length_nil, hR, List.append_assoc]
  congr 1
  rw [show 4 - i = (4 - (i + (0 + 1))) + 1 by omega, List.replicate_succ]
  rfl

theorem take_succ_getD {xs : List Int} {k : Nat} (hk : k < xs.length) : xs.take (k + 1) = xs.take k ++ [xs.getD k 0] := by
  rw [List.take_succ_eq_append_getElem hk]; simp [hk]
theorem new_runs {h : Heap} {v : Value} {xs : List Int} (hv : Ints h v xs) :
    Runs P n_share_New [v] h (fun r h' => Ext h h' ∧ ((chk xs ≠ 0 ∧ r = .tuple #[.pointer none, .int .i64 (chk xs)]) ∨
      (chk xs = 0 ∧ ∃ b, h b = none ∧ h' b = some (ia 49 (cc xs (List.replicate xs.length 0))) ∧ r = .tuple #[.pointer (some ⟨b, 0, none⟩), .int .i64 0]))) := by
  refine of_share_New (by simp) ?_
  have hlen := hv.len
  by_cases hl : xs.length < 1 ∨ 4 < xs.length
  · simp (disch := omega) only [s_share_New, env0, v_share_New, List.map_cons, List.map_nil, exW, exX, exV, List.getD_nil, hlen, f_share_New]
    simp [chk_len hl, Ext]
  simp (disch := omega) only [s_share_New, env0, v_share_New, List.map_cons, List.map_nil, exW, exX, exV, exB, List.getD_nil, hlen]
  intro b hb
  refine w_for (fun (k : Nat) e h' => k ≤ xs.length ∧ ratesTo xs k ∧ h' = upd h b (ia 49 ((xs.length : Int) :: (pad (xs.take k) ++ List.replicate 4 0))) ∧ ∃ u1 u2 u3, e = [v, .pointer none, .int .i64 0, .pointer (some ⟨b, 0, none⟩), .int .i64 (xs.take k).sum, .int .i64 k, .int .i64 xs.length, u1, v, u2, u3, .pointer (some ⟨b, 0, none⟩)]) (fun k => xs.length - k) 0 ⟨by omega, fun i hi => by omega, rfl, _, _, _, rfl⟩ ?_
  rintro k _ _ ⟨hk, hr, rfl, u1, u2, u3, rfl⟩
  have hx : Ext h (upd h b (ia 49 ((xs.length : Int) :: (pad (xs.take k) ++ List.replicate 4 0)))) := fun i p hp => upd_get hp hb
  have hbs := ratesTo_sum hr hk
  by_cases hlt : k < xs.length
  · have h1 := (hv.ext hx).ld hlt
    have hs := sum_take_succ xs k hlt
    by_cases b1 : xs.getD k 0 < 0 ∨ 1000 < xs.getD k 0
    · simp (disch := omega) only [exW, exX, exV, hlen, h1, f_share_New]
      exact ⟨hx, .inl ⟨by simp [chk_bad hlt b1], by simp [chk_bad hlt b1]⟩⟩
    · have h2 := st_ia (h := upd h b (ia 49 ((xs.length : Int) :: (pad (xs.take k) ++ List.replicate 4 0)))) (b := b) (t := 49) (o := 1 + k) (y := xs.getD k 0) (upd_same _ _ _) (by simp [pad_len (l := xs.take k) (by simp; omega)]; omega)
      rw [cc_setr (i := k) (by omega) (by simp; omega), ← take_succ_getD hlt, upd_upd] at h2
      simp (disch := omega) only [exW, exX, exV, hlen, h1, Int.toNat_natCast, Nat.mul_one, Nat.zero_add, h2]
      refine ⟨k + 1, ⟨by omega, ratesTo_succ hr (by omega) (by omega), rfl, ?_⟩, by omega⟩
      rw [hs]; exact ⟨_, _, _, rfl⟩
  · have : k = xs.length := by omega
    subst this
    rw [List.take_length] at hbs hx ⊢
    by_cases hs : xs.sum = 1000
    · simp (disch := omega) only [exW, exX, exV, hlen, f_share_New]
      refine ⟨hx, .inr ⟨by simp [chk_sum (by omega) (by omega) hr, hs], b, hb, ?_, rfl⟩⟩
      have hz : pad (List.replicate xs.length 0) = List.replicate 4 0 := by
        simp only [pad, List.length_replicate, List.replicate_append_replicate]
        congr 1; omega
      rw [upd_same, cc, hz]
    · simp (disch := omega) only [exW, exX, exV, hlen, f_share_New]
      refine ⟨hx, .inl ⟨by simp [chk_sum (by omega) (by omega) hr, hs], ?_⟩⟩
      simp [chk_sum (by omega) (by omega) hr, hs]

theorem clone_runs {h : Heap} {v : Value} {xs : List Int} (hv : Ints h v xs) (hl : xs.length < 1000000000000) (hn : ∀ n c, v ≠ .slice none n c) :
    Runs P n_slices_Cloneint_int [v] h (fun r h' => Ext h h' ∧ OwnI h h' r xs) := by
  refine of_slices_Cloneint_int (by simp) ?_
  obtain ⟨a, n, c, rfl⟩ : ∃ a n c, v = .slice (some a) n c := by
    have := hv.shape
    rcases this with ⟨_, a, c, rfl⟩ | ⟨b, o, c, rfl, _⟩
    · cases a with
      | none => exact absurd rfl (hn _ _)
      | some a => exact ⟨_, _, _, rfl⟩
    · exact ⟨_, _, _, rfl⟩
  simp (disch := omega) only [s_slices_Cloneint_int, env0, v_slices_Cloneint_int, List.map_cons, List.map_nil, exW, exX, exV, exB, List.getD_nil]
  intro b hb
  have hx : Ext h (upd h b (ia 3 [])) := fun i p hp => upd_get hp hb
  refine Own.app (h0 := h) (n := 0) (cs := []) (Own.of_lit rfl hb) rfl rfl (hv.ext hx).len (hv.ext hx).cells (by simp) (by simp [one]) rfl (by omega) (by omega) hx ?_
  intro v' h' h1 h2 h3 h4
  simp (disch := omega) only [exW, exX, exV, f_slices_Cloneint_int]
  exact ⟨h2, by simpa [OwnI] using h1⟩
end Go.Proofs.Ytnpbnlafaoldcaa
