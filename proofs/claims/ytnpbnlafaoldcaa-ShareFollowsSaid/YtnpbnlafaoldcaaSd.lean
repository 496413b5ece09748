/- Contracts of the functions of share: Next and Owed of a Carry. No statement is claimed here. -/
import Derived.Test.YtnpbnlafaoldcaaSc
namespace Go.Proofs.Ytnpbnlafaoldcaa
open Go Go.Lft
set_option linter.unusedSimpArgs false
attribute [local congr] ob_congr bw_congr iw_congr ib_congr itx_congr runs_congr wp_congr sq_congr bk_congr lg_congr

theorem owed_nil_runs (h : Heap) : Runs P n_share_Carry_Owed [.pointer none] h (fun r h' => r = .slice none 0 0 ∧ h' = h) := by
  refine of_share_Carry_Owed (by simp) ?_
  simp (disch := omega) only [s_share_Carry_Owed, env0, v_share_Carry_Owed, List.map_cons, List.map_nil, exW, exX, exV, exB, List.getD_nil, f_share_Carry_Owed]
  simp

theorem owed_runs {h : Heap} {b : Nat} {R O : List Int} (hb : h b = some (ia 49 (cc R O))) (hR : R.length ≤ 4) (hO : O.length = R.length) :
    Runs P n_share_Carry_Owed [.pointer (some ⟨b, 0, none⟩)] h (fun r h' => Ext h h' ∧ OwnI h h' r O) := by
  refine of_share_Carry_Owed (by simp) ?_
  have hl := cc_len hR (O := O) (by omega)
  have h0 := ld_ia (o := 0) hb (by omega)
  rw [cc_0] at h0
  simp (disch := omega) only [s_share_Carry_Owed, env0, v_share_Carry_Owed, List.map_cons, List.map_nil, exW, exX, exV, exB, List.getD_nil, Nat.zero_add, Nat.add_zero, Nat.mul_one, Nat.zero_mul, Nat.sub_zero, h0, Int.toNat_natCast, Int.toNat_zero]
  have hv := ints_part (o := 5) (n := R.length) (c := 4) hb (by omega) (by omega)
  have ho : ((cc R O).drop 5).take R.length = O := by
    have h4 := pad_len hR
    rw [cc, List.drop_succ_cons, ← h4, List.drop_left, pad, ← hO, List.take_left]
  rw [ho] at hv
  refine (clone_runs (xs := O) ?_ (by omega) (by simp)).mono ?_
  · exact hv
  rintro r h' ⟨h1, h2⟩
  simp (disch := omega) only [exW, exX, exV, f_share_Carry_Owed]
  exact ⟨h1, h2⟩

theorem next_nil_runs (h : Heap) (n : Int) : Runs P n_share_Carry_Next [.pointer none, .int .i64 n] h (fun r h' => r = .tuple #[.slice none 0 0, .int .i64 14] ∧ h' = h) := by
  refine of_share_Carry_Next (by simp) ?_
  simp (disch := omega) only [s_share_Carry_Next, env0, v_share_Carry_Next, List.map_cons, List.map_nil, exW, exX, exV, exB, List.getD_nil, f_share_Carry_Next]
  simp

theorem next_out_runs {h : Heap} {b : Nat} {n : Int} (hn : n < 0 ∨ 1073741824 < n) : Runs P n_share_Carry_Next [.pointer (some ⟨b, 0, none⟩), .int .i64 n] h (fun r h' => r = .tuple #[.slice none 0 0, .int .i64 1] ∧ h' = h) := by
  refine of_share_Carry_Next (by simp) ?_
  simp (disch := omega) only [s_share_Carry_Next, env0, v_share_Carry_Next, List.map_cons, List.map_nil, exW, exX, exV, exB, List.getD_nil, f_share_Carry_Next]
  simp

/-- Bounds of what is owed while the rates are added. -/
theorem inner_bound {R O : List Int} (hi : Inv R O) (k : Nat) (hk : k ≤ O.length) (i : Nat) (h : i < O.length) : -1000 < (inner R k O).1.getD i 0 ∧ (inner R k O).1.getD i 0 ≤ 4000 := by
  obtain ⟨r1, r2, r3, r4⟩ := chk_ok hi.ok
  have h1 := hi.low i h
  have h2 := high_of hi.low h
  have h3 := r3 i (by have := hi.len; omega)
  have := hi.len; have := hi.sum
  rw [inner_get R k O hk]; split <;> omega

theorem fill_set {xs : List Int} {k n : Nat} (hn : xs.length = n) (hk : k < n) : (xs.take k ++ List.replicate (n - k) 0).set k (xs.getD k 0) = xs.take (k + 1) ++ List.replicate (n - (k + 1)) 0 := by
  rw [List.set_append_right _ _ (by simp; omega), take_succ_getD (by omega)]
  have : k - (xs.take k).length = 0 := by simp; omega
  rw [this, show n - k = (n - (k + 1)) + 1 by omega, List.replicate_succ]
  simp
theorem inner_gt {R O : List Int} {k : Nat} (h : ((inner R k O).1.set k ((inner R k O).1.getD k 0 + R.getD k 0)).getD (inner R k O).2 0 < ((inner R k O).1.set k ((inner R k O).1.getD k 0 + R.getD k 0)).getD k 0) :
    inner R (k + 1) O = ((inner R k O).1.set k ((inner R k O).1.getD k 0 + R.getD k 0), k) := by
  simp only [inner]; rw [if_pos h]
theorem inner_le {R O : List Int} {k : Nat} (h : ¬ ((inner R k O).1.set k ((inner R k O).1.getD k 0 + R.getD k 0)).getD (inner R k O).2 0 < ((inner R k O).1.set k ((inner R k O).1.getD k 0 + R.getD k 0)).getD k 0) :
    inner R (k + 1) O = ((inner R k O).1.set k ((inner R k O).1.getD k 0 + R.getD k 0), (inner R k O).2) := by
  simp only [inner]; rw [if_neg h]
theorem next_runs {h : Heap} {b : Nat} {R O : List Int} {n : Int} (hb : h b = some (ia 49 (cc R O))) (hi : Inv R O) (hn0 : 0 ≤ n) (hn1 : n ≤ 1073741824) :
    Runs P n_share_Carry_Next [.pointer (some ⟨b, 0, none⟩), .int .i64 n] h (fun r h' => Ext (upd h b (ia 49 (cc R (nextF R O n).2))) h' ∧ ∃ v, r = .tuple #[v, .int .i64 0] ∧ OwnI (upd h b (ia 49 (cc R (nextF R O n).2))) h' v (nextF R O n).1) := by
  obtain ⟨r1, r2, r3, r4⟩ := chk_ok hi.ok
  have hOl := hi.len
  have hl := cc_len r2 (O := O) (by omega)
  refine of_share_Carry_Next (by simp) ?_
  have h0 := ld_ia (o := 0) hb (by omega)
  rw [cc_0] at h0
  simp (disch := omega) only [s_share_Carry_Next, env0, v_share_Carry_Next, List.map_cons, List.map_nil, exW, exX, exV, exB, List.getD_nil, Nat.zero_add, Nat.add_zero, Nat.mul_one, Nat.zero_mul, Nat.sub_zero, h0, Int.toNat_natCast, Int.toNat_zero, made_one]
  intro p hp
  have hpb : p ≠ b := by rintro rfl; rw [hb] at hp; cases hp
  have hrep : (Obj.cells (List.replicate R.length (Value.int .i64 0)).toArray 3 : Obj) = ia 3 (List.replicate R.length 0) := by simp [ia]
  rw [hrep]
  -- the whole thousands
  refine w_for (fun (k : Nat) e h' => k ≤ R.length ∧ h' = upd h p (ia 3 (((R.map (n / 1000 * ·)).take k) ++ List.replicate (R.length - k) 0)) ∧ ∃ d7 d8 d9 d10 d11 d12 d13 d14 d15 d16 d17, e = [.pointer (some ⟨b, 0, none⟩), .int .i64 n, .slice none 0 0, .int .i64 0, .slice (some ⟨p, 0, none⟩) R.length R.length, .int .i64 k, .int .i64 R.length, d7, d8, d9, d10, d11, d12, d13, d14, d15, d16, d17]) (fun k => R.length - k) 0 ⟨by omega, ?_, _, _, _, _, _, _, _, _, _, _, _, rfl⟩ ?_
  · simp
  rintro k _ _ ⟨hk, rfl, d7, d8, d9, d10, d11, d12, d13, d14, d15, d16, d17, rfl⟩
  have hML : (R.map (n / 1000 * ·)).length = R.length := by simp
  by_cases hlt : k < R.length
  · have hr3 := r3 k hlt
    have hd : 0 ≤ n / 1000 := by omega
    have m1 : 0 ≤ n / 1000 * R.getD k 0 := Int.mul_nonneg hd hr3.1
    have m2 : n / 1000 * R.getD k 0 ≤ n / 1000 * 1000 := Int.mul_le_mul_of_nonneg_left hr3.2 hd
    have g1 := ld_ia (h := upd h p (ia 3 (((R.map (n / 1000 * ·)).take k) ++ List.replicate (R.length - k) 0))) (b := b) (t := 49) (o := 1 + k) (by rw [upd_ne _ _ (Ne.symm hpb)]; exact hb) (by omega)
    rw [cc_rate hlt r2] at g1
    have g2 := st_ia (h := upd h p (ia 3 (((R.map (n / 1000 * ·)).take k) ++ List.replicate (R.length - k) 0))) (b := p) (t := 3) (o := k) (y := n / 1000 * R.getD k 0) (upd_same _ _ _) (by simp; omega)
    rw [← map_get, fill_set hML hlt, upd_upd, map_get] at g2
    simp (disch := omega) only [exW, exX, exV, Nat.zero_add, Nat.mul_one, Int.toNat_natCast, g1, g2]
    refine ⟨k + 1, ⟨by omega, rfl, ?_⟩, by omega⟩
    exact ⟨_, _, _, _, _, _, _, _, _, _, _, rfl⟩
  have hkl : k = R.length := by omega
  subst hkl
  have hfull : ((R.map (n / 1000 * ·)).take R.length) ++ List.replicate (R.length - R.length) 0 = R.map (n / 1000 * ·) := by
    rw [Nat.sub_self, List.replicate_zero, List.append_nil, ← hML, List.take_length]
  rw [hfull]
  simp (disch := omega) only [exW, exX, exV]
  -- the single units
  refine w_for (fun (j : Nat) e h' => j ≤ (n % 1000).toNat ∧ h' = upd (upd h b (ia 49 (cc R (units R j (R.map (n / 1000 * ·), O)).2))) p (ia 3 (units R j (R.map (n / 1000 * ·), O)).1) ∧ ∃ d5 d6 d7 d8 d11 d12 d13 d14 d15 d16 d17, e = [.pointer (some ⟨b, 0, none⟩), .int .i64 n, .slice none 0 0, .int .i64 0, .slice (some ⟨p, 0, none⟩) R.length R.length, d5, d6, d7, d8, .int .i64 j, .int .i64 (n % 1000), d11, d12, d13, d14, d15, d16, d17]) (fun j => (n % 1000).toNat - j) 0 ⟨by omega, ?_, _, _, _, _, _, _, _, _, _, _, _, rfl⟩ ?_
  · simp only [units]; rw [upd_self hb]
  rintro j _ _ ⟨hj, rfl, d5, d6, d7, d8, d11, d12, d13, d14, d15, d16, d17, rfl⟩
  obtain ⟨v1, v2, v3, v4⟩ := Inv.units hi (p := R.map (n / 1000 * ·)) hML j
  have hst : nextF R O n = units R (n % 1000).toNat (R.map (n / 1000 * ·), O) := rfl
  by_cases hjn : j < (n % 1000).toNat
  · have hnx : units R (j + 1) (R.map (n / 1000 * ·), O) = unit R (units R j (R.map (n / 1000 * ·), O)) := rfl
    have hpart : ∀ i, i < R.length → 0 ≤ (units R j (R.map (n / 1000 * ·), O)).1.getD i 0 ∧ (units R j (R.map (n / 1000 * ·), O)).1.getD i 0 ≤ 2000000000 := fun i hi => by
      have hr3 := r3 i hi
      have m1 : 0 ≤ n / 1000 * R.getD i 0 := Int.mul_nonneg (by omega) hr3.1
      have m2 : n / 1000 * R.getD i 0 ≤ n / 1000 * 1000 := Int.mul_le_mul_of_nonneg_left hr3.2 (by omega)
      have := v4 i hi
      rw [map_get] at this
      omega
    generalize units R j (R.map (n / 1000 * ·), O) = st at *
    obtain ⟨parts, Oj⟩ := st
    simp only at v1 v2 v3 v4 hpart ⊢
    have hOj := v1.len
    have hcl : ∀ k, (cc R (inner R k Oj).1).length = 9 := fun k => cc_len r2 (by rw [inner_len]; omega)
    have hcl0 : (cc R Oj).length = 9 := cc_len r2 (by omega)
    have g0 := ld_ia (h := upd (upd h b (ia 49 (cc R Oj))) p (ia 3 parts)) (b := b) (t := 49) (o := 0) (by rw [upd_ne _ _ (Ne.symm hpb)]; exact upd_same _ _ _) (by omega)
    rw [cc_0] at g0
    simp (disch := omega) only [exW, exX, exV, Nat.zero_add, Nat.add_zero, Nat.mul_one, Int.toNat_natCast, g0]
    refine w_for (fun (k : Nat) e h' => k ≤ R.length ∧ h' = upd (upd h b (ia 49 (cc R (inner R k Oj).1))) p (ia 3 parts) ∧ ∃ d5 d6 d7 d8 d11 d15 d16 d17, e = [.pointer (some ⟨b, 0, none⟩), .int .i64 n, .slice none 0 0, .int .i64 0, .slice (some ⟨p, 0, none⟩) R.length R.length, d5, d6, d7, d8, .int .i64 j, .int .i64 (n % 1000), d11, .int .i64 (inner R k Oj).2, .int .i64 k, .int .i64 R.length, d15, d16, d17]) (fun k => R.length - k) 0 ⟨by omega, rfl, _, _, _, _, _, _, _, _, rfl⟩ ?_
    rintro k _ _ ⟨hk, rfl, d5, d6, d7, d8, d11, d15, d16, d17, rfl⟩
    have hil := inner_len R k Oj
    have hml := inner_lt R k Oj (by omega) (by omega)
    by_cases hkl : k < R.length
    · have g1 := ld_ia (h := upd (upd h b (ia 49 (cc R (inner R k Oj).1))) p (ia 3 parts)) (b := b) (t := 49) (o := 5 + k) (by rw [upd_ne _ _ (Ne.symm hpb)]; exact upd_same _ _ _) (by rw [hcl]; omega)
      rw [cc_owed (by omega) r2] at g1
      have g2 := ld_ia (h := upd (upd h b (ia 49 (cc R (inner R k Oj).1))) p (ia 3 parts)) (b := b) (t := 49) (o := 1 + k) (by rw [upd_ne _ _ (Ne.symm hpb)]; exact upd_same _ _ _) (by rw [hcl]; omega)
      rw [cc_rate hkl r2] at g2
      have b1 := inner_bound v1 k (by omega) k (by omega)
      have b2 := r3 k hkl
      have g3 := st_ia (h := upd (upd h b (ia 49 (cc R (inner R k Oj).1))) p (ia 3 parts)) (b := b) (t := 49) (o := 5 + k) (y := (inner R k Oj).1.getD k 0 + R.getD k 0) (by rw [upd_ne _ _ (Ne.symm hpb)]; exact upd_same _ _ _) (by rw [hcl]; omega)
      rw [cc_set (by omega) r2, upd_comm _ _ _ hpb, upd_upd] at g3
      have hl2 : ∀ y, (cc R ((inner R k Oj).1.set k y)).length = 9 := fun y => cc_len r2 (by simp; omega)
      have g4 := fun y => ld_ia (h := upd (upd h b (ia 49 (cc R ((inner R k Oj).1.set k y)))) p (ia 3 parts)) (b := b) (t := 49) (o := 5 + k) (by rw [upd_ne _ _ (Ne.symm hpb)]; exact upd_same _ _ _) (by rw [hl2]; omega)
      have g5 := fun y => ld_ia (h := upd (upd h b (ia 49 (cc R ((inner R k Oj).1.set k y)))) p (ia 3 parts)) (b := b) (t := 49) (o := 5 + (inner R k Oj).2) (by rw [upd_ne _ _ (Ne.symm hpb)]; exact upd_same _ _ _) (by rw [hl2]; omega)
      have e4 := fun y => cc_owed (R := R) (O := (inner R k Oj).1.set k y) (i := k) (by simp; omega) r2
      have e5 := fun y => cc_owed (R := R) (O := (inner R k Oj).1.set k y) (i := (inner R k Oj).2) (by simp; omega) r2
      simp only [e4] at g4
      simp only [e5] at g5
      by_cases hgt : ((inner R k Oj).1.set k ((inner R k Oj).1.getD k 0 + R.getD k 0)).getD (inner R k Oj).2 0 < ((inner R k Oj).1.set k ((inner R k Oj).1.getD k 0 + R.getD k 0)).getD k 0
      · simp (disch := omega) only [exW, exX, exV, Nat.zero_add, Nat.add_zero, Nat.mul_one, Int.toNat_natCast, g1, g2, g3, g4, g5]
        refine ⟨k + 1, ⟨by omega, ?_, ?_⟩, by omega⟩
        · rw [inner_gt hgt]
        · rw [inner_gt hgt]; exact ⟨_, _, _, _, _, _, _, _, rfl⟩
      · simp (disch := omega) only [exW, exX, exV, Nat.zero_add, Nat.add_zero, Nat.mul_one, Int.toNat_natCast, g1, g2, g3, g4, g5]
        refine ⟨k + 1, ⟨by omega, ?_, ?_⟩, by omega⟩
        · rw [inner_le hgt]
        · rw [inner_le hgt]; exact ⟨_, _, _, _, _, _, _, _, rfl⟩
    · have hkR : k = R.length := by omega
      subst hkR
      have hp1 := hpart _ (show (inner R R.length Oj).2 < R.length by omega)
      have b1 := inner_bound v1 R.length (by omega) (inner R R.length Oj).2 (by omega)
      have g1 := ld_ia (h := upd (upd h b (ia 49 (cc R (inner R R.length Oj).1))) p (ia 3 parts)) (b := p) (t := 3) (o := (inner R R.length Oj).2) (upd_same _ _ _) (by omega)
      have g2 := st_ia (h := upd (upd h b (ia 49 (cc R (inner R R.length Oj).1))) p (ia 3 parts)) (b := p) (t := 3) (o := (inner R R.length Oj).2) (y := parts.getD (inner R R.length Oj).2 0 + 1) (upd_same _ _ _) (by omega)
      rw [upd_upd] at g2
      have g3 := fun l => ld_ia (h := upd (upd h b (ia 49 (cc R (inner R R.length Oj).1))) p (ia 3 l)) (b := b) (t := 49) (o := 5 + (inner R R.length Oj).2) (by rw [upd_ne _ _ (Ne.symm hpb)]; exact upd_same _ _ _) (by rw [hcl]; omega)
      rw [cc_owed (by omega) r2] at g3
      have g4 := fun l => st_ia (h := upd (upd h b (ia 49 (cc R (inner R R.length Oj).1))) p (ia 3 l)) (b := b) (t := 49) (o := 5 + (inner R R.length Oj).2) (y := (inner R R.length Oj).1.getD (inner R R.length Oj).2 0 - 1000) (by rw [upd_ne _ _ (Ne.symm hpb)]; exact upd_same _ _ _) (by rw [hcl]; omega)
      simp only [cc_set (show (inner R R.length Oj).2 < (inner R R.length Oj).1.length by omega) r2, upd_comm _ _ _ hpb, upd_upd] at g4
      simp (disch := omega) only [exW, exX, exV, Nat.zero_add, Nat.add_zero, Nat.mul_one, Int.toNat_natCast, g1, g2, g3, g4]
      refine ⟨j + 1, ⟨by omega, ?_, ?_⟩, by omega⟩
      · rw [hnx]; simp only [unit]
      · exact ⟨_, _, _, _, _, _, _, _, _, _, _, rfl⟩
  · have hjn' : j = (n % 1000).toNat := by omega
    subst hjn'
    rw [← hst] at v1 v2 v3 v4 ⊢
    simp (disch := omega) only [exW, exX, exV, f_share_Carry_Next]
    have hpn : upd h b (ia 49 (cc R (nextF R O n).2)) p = none := by rw [upd_ne _ _ hpb]; exact hp
    refine ⟨ext_new hpn _, _, rfl, ?_⟩
    have := OwnI.mk (h := upd h b (ia 49 (cc R (nextF R O n).2))) (xs := (nextF R O n).1) hpn
    rw [v2] at this
    exact this
end Go.Proofs.Ytnpbnlafaoldcaa
