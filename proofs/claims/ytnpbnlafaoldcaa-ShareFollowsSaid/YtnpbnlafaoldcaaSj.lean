/- ShareFollows: the walk through the law. No statement is claimed here. -/
import Derived.Test.YtnpbnlafaoldcaaSi
namespace Go.Proofs.Ytnpbnlafaoldcaa
open Go Go.Lft
set_option linter.unusedSimpArgs false
attribute [local congr] ob_congr bw_congr iw_congr ib_congr itx_congr runs_congr wp_congr sq_congr bk_congr lg_congr

theorem take_bound {xs : List Int} {a b : Int} (hb : ∀ i, i < xs.length → a ≤ xs.getD i 0 ∧ xs.getD i 0 ≤ b) : ∀ k : Nat, k ≤ xs.length → a * k ≤ (xs.take k).sum ∧ (xs.take k).sum ≤ b * k
  | 0, _ => by simp
  | k + 1, hk => by
    have := take_bound hb k (by omega)
    have h2 := hb k (by omega)
    rw [sum_take_succ xs k (by omega), show ((k + 1 : Nat) : Int) = k + 1 by omega, Int.mul_add, Int.mul_add]; omega

theorem shareFollows_runs {h : Heap} {v u : Value} {xs ls : List Int} (hv : Ints h v xs) (hu : Ints h u ls) : Runs P n_law11_ShareFollows [v, u] h (fun r h' => r = .bool true ∧ Ext h h') := by
  refine of_law11_ShareFollows (by simp) ?_
  have lv := hv.len
  have lu := hu.len
  simp (disch := omega) only [s_law11_ShareFollows, env0, v_law11_ShareFollows, List.map_cons, List.map_nil, exW, exX, exV, exB, List.getD_nil]
  refine (new_runs hv).mono ?_
  rintro _ h1 ⟨x1, hn⟩
  by_cases hc : chk xs = 0 ∧ ls.length ≤ 40
  · obtain ⟨hc, hl⟩ := hc
    rcases hn with ⟨hc', _⟩ | ⟨_, b, hb, hb1, rfl⟩
    · exact absurd hc hc'
    simp (disch := omega) only [exW, exX, exV, exB]
    refine (check_runs (hv.ext x1)).mono ?_
    rintro _ h1 ⟨rfl, rfl⟩
    obtain ⟨r1, r2, r3, r4⟩ := chk_ok hc
    simp (disch := omega) only [exW, exX, exV, exB, hc, lu, lv]
    intro g hg
    have hg0 : h g = none := ext_none x1 hg
    have hrep : (Obj.cells (List.replicate xs.length (Value.int .i64 0)).toArray 3 : Obj) = ia 3 (List.replicate xs.length 0) := by simp [ia]
    rw [hrep]
    have og : OwnI h (upd h1 g (ia 3 (List.replicate xs.length 0))) (.slice (some ⟨g, 0, none⟩) xs.length xs.length) (List.replicate xs.length 0) := by
      have := (OwnI.mk (h := h1) (xs := List.replicate xs.length 0) hg).base x1
      rw [List.length_replicate] at this
      exact this
    have hbg := ne_of hb1 hg
    have hb2 : upd h1 g (ia 3 (List.replicate xs.length 0)) b = _ := (upd_ne h1 _ hbg).trans hb1
    have x2 := ext_out x1 hg0 (ia 3 (List.replicate xs.length 0))
    have hg2 : ∀ i, (List.replicate xs.length (0 : Int)).getD i 0 = 0 := fun i => by simp [List.getElem?_replicate]; split <;> rfl
    refine w_for (fun (k : Nat) e h' => k ≤ ls.length ∧ Ext h h' ∧ ∃ (O G : List Int) (all : Int), Inv xs O ∧ h' b = some (ia 49 (cc xs O)) ∧ OwnI h h' (.slice (some ⟨g, 0, none⟩) xs.length xs.length) G ∧ G.length = xs.length ∧ 0 ≤ all ∧ all ≤ 1073741824 * k ∧ (∀ i, i < xs.length → 0 ≤ G.getD i 0 ∧ G.getD i 0 ≤ all ∧ 1000 * G.getD i 0 + O.getD i 0 = xs.getD i 0 * all) ∧ ∃ d9 d10 d11 d12 d13 d14 d15 d16 d17 d18 d19 d20 d21 d22 d23 d24 d25 d26 d27 d28 d29 d30 d31 d32, e = [v, u, .bool false, .pointer (some ⟨b, 0, none⟩), .int .i64 0, .int .i64 all, .slice (some ⟨g, 0, none⟩) xs.length xs.length, .int .i64 k, .int .i64 ls.length, d9, d10, d11, d12, d13, d14, d15, d16, d17, d18, d19, d20, d21, d22, d23, d24, d25, d26, d27, d28, d29, d30, d31, d32]) (fun k => ls.length - k) 0 ⟨by omega, x2, _, _, 0, Inv.start hc, hb2, og, by simp, by omega, by omega, fun i hi => by have := hg2 i; omega, _, _, _, _, _, _, _, _, _, _, _, _, _, _, _, _, _, _, _, _, _, _, _, _, rfl⟩ ?_
    clear hb1 og hb2 x2
    rintro k _ h3 ⟨hk, x3, O, G, all, hI, hb3, og, hG, ha0, ha1, hfol, d9, d10, d11, d12, d13, d14, d15, d16, d17, d18, d19, d20, d21, d22, d23, d24, d25, d26, d27, d28, d29, d30, d31, d32, rfl⟩
    by_cases hlt : k < ls.length
    · have ld := (hu.ext x3).ld hlt
      have hn0 : 0 ≤ max 0 (min (ls.getD k 0) 1073741824) := by omega
      have hn1 : max 0 (min (ls.getD k 0) 1073741824) ≤ 1073741824 := by omega
      simp (disch := omega) only [exW, exX, exV, exB, ld]
      generalize max 0 (min (ls.getD k 0) 1073741824) = n at *
      obtain ⟨w1, w2, w3, w4⟩ := next_law hI (n := n) (by omega)
      have NR := next_runs hb3 hI hn0 hn1
      refine NR.mono ?_
      generalize hst : nextF xs O n = st at *
      obtain ⟨parts, O'⟩ := st
      rintro _ h4 ⟨x4, p, rfl, o4⟩
      simp only at w1 w2 w3 w4 o4 x4
      have y4 : ∀ j q, h3 j = some q → j ≠ b → h4 j = some q := fun j q hj hne => x4 _ _ (by rw [upd_ne _ _ hne]; exact hj)
      have z4 : Ext h h4 := fun j q hj => y4 _ _ (x3 _ _ hj) (ne_of hj hb)
      have hb4 : h4 b = some (ia 49 (cc xs O')) := x4 _ _ (upd_same _ _ _)
      have fr4 : Frm (.slice (some ⟨b, 0, none⟩) 0 0) h3 h4 := fun j q hj hne => y4 _ _ hj (by rintro rfl; exact hne rfl)
      have og4 := og.frm fr4 (.inr (by simpa using hbg))
      have lp := o4.len
      rw [w2] at lp
      have lv4 := (hv.ext z4).len
      simp (disch := omega) only [exW, exX, exV, exB, lp, lv]
      have tb := take_bound (xs := parts) (a := 0) (b := n) (fun i hi => by have := w4 i (by omega); omega)
      refine (total_runs o4.ints (by omega) (fun j hj => ?_)).mono ?_
      · have := tb j hj
        have h2 : n * j ≤ 1073741824 * 4 := Int.mul_le_mul hn1 (by omega) (by omega) (by omega)
        omega
      rintro _ _ ⟨rfl, rfl⟩
      rw [w3]
      simp (disch := omega) only [exW, exX, exV, exB, lp]
      refine w_for (fun (i : Nat) e h' => i ≤ xs.length ∧ h' b = some (ia 49 (cc xs O')) ∧ Ints h' p parts ∧ Ext h h' ∧ ∃ G', OwnI h h' (.slice (some ⟨g, 0, none⟩) xs.length xs.length) G' ∧ G'.length = xs.length ∧ (∀ j, j < xs.length → G'.getD j 0 = if j < i then G.getD j 0 + parts.getD j 0 else G.getD j 0) ∧ ∃ d9 d10 d13 d16 d17 d18 d19 d20 d21 d22 d23 d24 d25 d26 d27 d28 d29 d30 d31 d32, e = [v, u, .bool false, .pointer (some ⟨b, 0, none⟩), .int .i64 0, .int .i64 (all + n), .slice (some ⟨g, 0, none⟩) xs.length xs.length, .int .i64 k, .int .i64 ls.length, d9, d10, .int .i64 n, p, d13, .int .i64 i, .int .i64 xs.length, d16, d17, d18, d19, d20, d21, d22, d23, d24, d25, d26, d27, d28, d29, d30, d31, d32]) (fun i => xs.length - i) 0 ⟨by omega, hb4, o4.ints, z4, G, og4, hG, fun j hj => by simp, _, _, _, _, _, _, _, _, _, _, _, _, _, _, _, _, _, _, _, _, rfl⟩ ?_
      clear og4 hb4 fr4 y4
      rintro i _ h5 ⟨hi, hb5, p5, z5, G', og5, hG', hsum, d9, d10, d13, d16, d17, d18, d19, d20, d21, d22, d23, d24, d25, d26, d27, d28, d29, d30, d31, d32, rfl⟩
      by_cases hil : i < xs.length
      · have rp := p5.ld (i := i) (by omega)
        obtain ⟨q, u1, u2, u3⟩ := og5.st z5 (i := i) (by omega)
        obtain ⟨h6, u4, og6, f6, z6⟩ := u3 (G'.getD i 0 + parts.getD i 0)
        have hw := w4 i hil
        have hf := hfol i hil
        have hs := hsum i hil
        rw [if_neg (by omega)] at hs
        have pg : vb p = none ∨ vb (.slice (some ⟨g, 0, none⟩) xs.length xs.length) ≠ vb p := by
          refine .inr fun hh => ?_
          obtain ⟨o, ho⟩ := (Own.mem og g rfl).2
          exact o4.nb (b := g) (by rw [upd_ne _ _ (Ne.symm hbg)]; exact ho) hh.symm
        simp (disch := omega) only [exW, exX, exV, exB, rp, u1, u2, u4]
        refine ⟨i + 1, ⟨by omega, f6 _ _ hb5 (by simpa using Ne.symm hbg), p5.frm f6 pg, z6, _, og6, by simpa using hG', fun j hj => ?_, _, _, _, _, _, _, _, _, _, _, _, _, _, _, _, _, _, _, _, _, rfl⟩, by omega⟩
        rw [getD_set _ _ _ _ (by omega)]
        by_cases hij : i = j
        · subst hij; rw [if_pos rfl, if_pos (by omega)]; omega
        · have := hsum j hj
          rw [if_neg hij, this]
          by_cases hji : j < i
          · rw [if_pos hji, if_pos (by omega)]
          · rw [if_neg hji, if_neg (by omega)]
      · have hix : i = xs.length := by omega
        subst hix
        simp (disch := omega) only [exW, exX, exV, exB]
        refine ⟨k + 1, ⟨by omega, z5, O', G', all + n, w1, hb5, og5, hG', by omega, by omega, fun j hj => ?_, _, _, _, _, _, _, _, _, _, _, _, _, _, _, _, _, _, _, _, _, _, _, _, _, rfl⟩, by omega⟩
        have e1 := w4 j hj
        have e2 := hfol j hj
        have e3 := hsum j hj
        rw [if_pos hj] at e3
        rw [Int.mul_add, Int.mul_comm (xs.getD j 0) n]
        omega
    · have hkl : k = ls.length := by omega
      subst hkl
      simp (disch := omega) only [exW, exX, exV, exB]
      refine (owed_runs hb3 r2 hI.len).mono ?_
      rintro o h4 ⟨x4, o4⟩
      have lo := o4.len
      rw [hI.len] at lo
      simp (disch := omega) only [exW, exX, exV, exB, lo, lv]
      have tb := take_bound (xs := O) (a := -1000) (b := 3000) (fun i hi => by
        have h1 := hI.low i hi; have h2 := high_of hI.low hi; have := hI.len; have := hI.sum; omega)
      refine (total_runs o4.ints (by have := hI.len; omega) (fun j hj => by have := tb j hj; have := hI.len; omega)).mono ?_
      rintro _ h4 ⟨rfl, rfl⟩
      rw [hI.sum]
      simp (disch := omega) only [exW, exX, exV, exB, lo]
      have z4 := ext_trans x3 x4
      have og4 := (og.ext x4).ints
      refine w_for (fun (i : Nat) e h' => i ≤ xs.length ∧ h' = h4 ∧ ∃ d7 d8 d9 d10 d11 d12 d13 d14 d15 d16 d17 d21 d22 d23 d24 d25 d26 d27 d28 d29 d30 d31 d32, e = [v, u, .bool false, .pointer (some ⟨b, 0, none⟩), .int .i64 0, .int .i64 all, .slice (some ⟨g, 0, none⟩) xs.length xs.length, d7, d8, d9, d10, d11, d12, d13, d14, d15, d16, d17, o, .int .i64 i, .int .i64 xs.length, d21, d22, d23, d24, d25, d26, d27, d28, d29, d30, d31, d32]) (fun i => xs.length - i) 0 ⟨by omega, rfl, _, _, _, _, _, _, _, _, _, _, _, _, _, _, _, _, _, _, _, _, _, _, _, rfl⟩ ?_
      rintro i _ h4 ⟨hi, rfl, d7, d8, d9, d10, d11, d12, d13, d14, d15, d16, d17, d21, d22, d23, d24, d25, d26, d27, d28, d29, d30, d31, d32, rfl⟩
      by_cases hil : i < xs.length
      · have q1 := o4.ints.ld (i := i) (by have := hI.len; omega)
        have q2 := og4.ld (i := i) (by omega)
        simp (disch := omega) only [exW, exX, exV] at q2
        have q3 := (hv.ext z4).ld hil
        have hf := hfol i hil
        have hlw := hI.low i (by have := hI.len; omega)
        have hr3 := r3 i hil
        have hxa : xs.getD i 0 * all ≤ 1000 * all := Int.mul_le_mul_of_nonneg_right hr3.2 ha0
        have hxa0 : 0 ≤ xs.getD i 0 * all := Int.mul_nonneg hr3.1 ha0
        by_cases hz : xs.getD i 0 = 0
        · have hg0 : G.getD i 0 = 0 := by
            rw [hz, Int.zero_mul] at hf; omega
          simp (disch := omega) only [exW, exX, exV, exB, q1, q2, q3]
          exact ⟨i + 1, ⟨by omega, trivial, _, _, _, _, _, _, _, _, _, _, _, _, _, _, _, _, _, _, _, _, _, _, _, rfl⟩, by omega⟩
        · simp (disch := omega) only [exW, exX, exV, exB, q1, q2, q3]
          exact ⟨i + 1, ⟨by omega, trivial, _, _, _, _, _, _, _, _, _, _, _, _, _, _, _, _, _, _, _, _, _, _, _, rfl⟩, by omega⟩
      · simp (disch := omega) only [exW, exX, exV, exB]
        refine (carries_runs h4).mono ?_
        rintro _ h9 ⟨rfl, x9⟩
        simp (disch := omega) only [exW, exX, exV, exB, f_law11_ShareFollows]
        exact ⟨trivial, ext_trans z4 x9⟩
  · have both : ∀ h9, Ext h1 h9 → Ext h h9 := fun h9 hx => ext_trans x1 hx
    rcases hn with ⟨hc', rfl⟩ | ⟨hc', b, hb, hb1, rfl⟩
    · simp (disch := omega) only [exW, exX, exV, exB]
      refine (check_runs (hv.ext x1)).mono ?_
      rintro _ h1 ⟨rfl, rfl⟩
      simp (disch := omega) only [exW, exX, exV, exB, lu]
      refine (check_runs (hv.ext x1)).mono ?_
      rintro _ h1 ⟨rfl, rfl⟩
      have hd : decide (chk xs = 0) = false := by simp [hc']
      simp (disch := omega) only [exW, exX, exV, exB, hd]
      refine (carries_runs h1).mono ?_
      rintro _ h9 ⟨rfl, x9⟩
      simp (disch := omega) only [exW, exX, exV, exB, f_law11_ShareFollows]
      exact ⟨trivial, both _ x9⟩
    · simp (disch := omega) only [exW, exX, exV, exB]
      refine (check_runs (hv.ext x1)).mono ?_
      rintro _ h1 ⟨rfl, rfl⟩
      simp (disch := omega) only [exW, exX, exV, exB, lu, hc']
      refine (check_runs (hv.ext x1)).mono ?_
      rintro _ h1 ⟨rfl, rfl⟩
      simp (disch := omega) only [exW, exX, exV, exB, hc']
      refine (carries_runs h1).mono ?_
      rintro _ h9 ⟨rfl, x9⟩
      simp (disch := omega) only [exW, exX, exV, exB, f_law11_ShareFollows]
      exact ⟨trivial, both _ x9⟩
end Go.Proofs.Ytnpbnlafaoldcaa
