/- Contracts of the functions of share and of its reference: chapter 11's Carry. No statement is claimed here. -/
import Derived.Test.YtnpbnlafaoldcaaFns
import Derived.Test.YtnpbnlafaoldcaaSa
namespace Go.Proofs.Ytnpbnlafaoldcaa
open Go Go.Lft
set_option linter.unusedSimpArgs false
attribute [local congr] ob_congr bw_congr iw_congr ib_congr itx_congr runs_congr wp_congr sq_congr bk_congr lg_congr

theorem total_runs {h : Heap} {v : Value} {xs : List Int} (hv : Ints h v xs) (hl : xs.length ≤ 1000000) (hb : ∀ k, k ≤ xs.length → -1000000000000 ≤ (xs.take k).sum ∧ (xs.take k).sum ≤ 1000000000000) :
    Runs P n_ref11_Total [v] h (fun r h' => r = .int .i64 xs.sum ∧ h' = h) := by
  refine of_ref11_Total (by simp) ?_
  have hlen := hv.len
  simp (disch := omega) only [s_ref11_Total, env0, v_ref11_Total, List.map_cons, List.map_nil, exW, exX, exV, List.getD_nil]
  refine w_for (fun (k : Nat) e h' => k ≤ xs.length ∧ h' = h ∧ e = [v, .int .i64 0, .int .i64 (xs.take k).sum, .int .i64 k]) (fun k => xs.length - k) 0 ⟨by omega, rfl, by simp⟩ ?_
  rintro k _ _ ⟨hk, rfl, rfl⟩
  by_cases hlt : k < xs.length
  · have := hv.ld hlt
    have b1 := hb k (by omega)
    have b2 := hb (k + 1) (by omega)
    have hs := sum_take_succ xs k hlt
    rw [hs] at b2
    simp (disch := omega) only [exW, exX, exV, hlen, this]
    refine ⟨k + 1, ⟨by omega, trivial, ?_⟩, by omega⟩
    rw [hs]; simp
  · simp (disch := omega) only [exW, exX, exV, hlen, f_ref11_Total]
    have : k = xs.length := by omega
    subst this
    simp

theorem same_runs {h : Heap} {v u : Value} {xs ys : List Int} (hv : Ints h v xs) (hu : Ints h u ys) (hl : xs.length ≤ 1000000) :
    Runs P n_ref11_Same [v, u] h (fun r h' => r = .bool (decide (xs = ys)) ∧ h' = h) := by
  refine of_ref11_Same (by simp) ?_
  have hlen := hv.len
  have hlen' := hu.len
  by_cases he : xs.length = ys.length
  · simp (disch := omega) only [s_ref11_Same, env0, v_ref11_Same, List.map_cons, List.map_nil, exW, exX, exV, List.getD_nil, hlen, hlen']
    refine w_for (fun (k : Nat) e h' => k ≤ xs.length ∧ h' = h ∧ (∀ i, i < k → xs.getD i 0 = ys.getD i 0) ∧ e = [v, u, .bool false, .int .i64 k]) (fun k => xs.length - k) 0 ⟨by omega, rfl, by intro i hi; omega, by simp⟩ ?_
    rintro k _ _ ⟨hk, rfl, hall, rfl⟩
    by_cases hlt : k < xs.length
    · have h1 := hv.ld hlt
      have h2 := hu.ld (i := k) (by omega)
      by_cases hxy : xs.getD k 0 = ys.getD k 0
      · simp (disch := omega) only [exW, exX, exV, hlen, h1, h2]
        refine ⟨k + 1, ⟨by omega, trivial, fun i hi => ?_, ?_⟩, by omega⟩
        · rcases Nat.lt_succ_iff_lt_or_eq.1 hi with h3 | rfl
          · exact hall i h3
          · exact hxy
        · simp
      · simp (disch := omega) only [exW, exX, exV, hlen, h1, h2, f_ref11_Same]
        have : xs ≠ ys := by rintro rfl; exact hxy rfl
        simp [this]
    · simp (disch := omega) only [exW, exX, exV, hlen, f_ref11_Same]
      have : xs = ys := by
        apply List.ext_getElem he
        intro i h1 h2
        have := hall i (by omega)
        simpa [h1, h2] using this
      simp [this]
  · simp (disch := omega) only [s_ref11_Same, env0, v_ref11_Same, List.map_cons, List.map_nil, exW, exX, exV, List.getD_nil, hlen, hlen', f_ref11_Same]
    have : xs ≠ ys := by rintro rfl; exact he rfl
    simp [this]

theorem check_runs {h : Heap} {v : Value} {xs : List Int} (hv : Ints h v xs) :
    Runs P n_ref11_Check [v] h (fun r h' => r = .int .i64 (chk xs) ∧ h' = h) := by
  refine of_ref11_Check (by simp) ?_
  have hlen := hv.len
  by_cases hl : xs.length < 1 ∨ 4 < xs.length
  · simp (disch := omega) only [s_ref11_Check, env0, v_ref11_Check, List.map_cons, List.map_nil, exW, exX, exV, List.getD_nil, hlen, f_ref11_Check]
    simp [chk_len hl]
  simp (disch := omega) only [s_ref11_Check, env0, v_ref11_Check, List.map_cons, List.map_nil, exW, exX, exV, List.getD_nil, hlen]
  refine w_for (fun (k : Nat) e h' => k ≤ xs.length ∧ h' = h ∧ ratesTo xs k ∧ e = [v, .int .i64 0, .int .i64 (xs.take k).sum, .int .i64 k]) (fun k => xs.length - k) 0 ⟨by omega, rfl, by intro i hi; omega, by simp⟩ ?_
  rintro k _ _ ⟨hk, rfl, hr, rfl⟩
  have hb := ratesTo_sum hr hk
  by_cases hlt : k < xs.length
  · have h1 := hv.ld hlt
    have hs := sum_take_succ xs k hlt
    by_cases b1 : xs.getD k 0 < 0 ∨ 1000 < xs.getD k 0
    · simp (disch := omega) only [exW, exX, exV, hlen, h1, f_ref11_Check]
      simp [chk_bad hlt b1]
    · simp (disch := omega) only [exW, exX, exV, hlen, h1]
      refine ⟨k + 1, ⟨by omega, trivial, ratesTo_succ hr (by omega) (by omega), ?_⟩, by omega⟩
      rw [hs]; simp
  · have : k = xs.length := by omega
    subst this
    rw [List.take_length] at hb ⊢
    by_cases hs : xs.sum = 1000
    · simp (disch := omega) only [exW, exX, exV, hlen, f_ref11_Check]
      simp [chk_sum (by omega) (by omega) hr, hs]
    · simp (disch := omega) only [exW, exX, exV, hlen, f_ref11_Check]
      simp [chk_sum (by omega) (by omega) hr, hs]
end Go.Proofs.Ytnpbnlafaoldcaa
