/- ShareCarry: the walk through the law. No statement is claimed here. -/
import Derived.Test.YtnpbnlafaoldcaaSh
namespace Go.Proofs.Ytnpbnlafaoldcaa
open Go Go.Lft
set_option linter.unusedSimpArgs false
attribute [local congr] ob_congr bw_congr iw_congr ib_congr itx_congr runs_congr wp_congr sq_congr bk_congr lg_congr

theorem shareCarry_runs {h : Heap} {v u : Value} {xs ls : List Int} (hv : Ints h v xs) (hu : Ints h u ls) : Runs P n_law11_ShareCarry [v, u] h (fun r h' => r = .bool true ∧ Ext h h') := by
  refine of_law11_ShareCarry (by simp) ?_
  have lv := hv.len
  have lu := hu.len
  simp (disch := omega) only [s_law11_ShareCarry, env0, v_law11_ShareCarry, List.map_cons, List.map_nil, exW, exX, exV, exB, List.getD_nil]
  refine (new_runs hv).mono ?_
  rintro _ h1 ⟨x1, hn⟩
  by_cases hc : chk xs = 0 ∧ ls.length ≤ 40
  · obtain ⟨hc, hl⟩ := hc
    rcases hn with ⟨hc', _⟩ | ⟨_, b, hb, hb1, rfl⟩
    · exact absurd hc hc'
    simp (disch := omega) only [exW, exX, exV, exB]
    refine (check_runs (hv.ext x1)).mono ?_
    rintro _ h1 ⟨rfl, rfl⟩
    obtain ⟨r1, r2, r3, r4⟩ := chk_ok hc
    simp (disch := omega) only [exW, exX, exV, exB, hc, lu]
    refine (start_runs (hv.ext x1) (by omega)).mono ?_
    rintro _ h2 ⟨x2, s1, s2, rfl, g1, g2, g3⟩
    simp (disch := omega) only [exW, exX, exV, exB]
    intro t ht
    have e1 := stn_blk (n := 0 + 2) (o := 0) (cs := [s1, s2]) (upd_same h2 t (.cells [Value.slice none 0 0, .slice none 0 0].toArray 35)) (by simp) rfl (by simp [g1.one, g2.one])
    simp (disch := omega) only [exW, exX, exV, exB, List.drop_nil, upd_upd] at e1
    simp (disch := omega) only [exW, exX, exV, exB, e1, lu]
    have ht0 : h t = none := ext_none (ext_trans x1 x2) ht
    have nbt : ∀ {v xs}, OwnI h1 h2 v xs → vb v ≠ some t := fun hv hb => by
      obtain ⟨p, hp⟩ := (Own.mem hv t hb).2; rw [ht] at hp; cases hp
    have hbt := ne_of (x2 _ _ hb1) ht
    have x3 := ext_out (ext_trans x1 x2) ht0 (.cells #[s1, s2] 35)
    have i1 : Ints (upd h2 t (.cells #[s1, s2] 35)) s1 xs := g1.ints.upd (nbt g1) _
    have i2 : Ints (upd h2 t (.cells #[s1, s2] 35)) s2 (List.replicate xs.length 0) := g2.ints.upd (nbt g2) _
    have hb3 : upd h2 t (.cells #[s1, s2] 35) b = some (ia 49 (cc xs (List.replicate xs.length 0))) := by rw [upd_ne _ _ hbt]; exact x2 _ _ hb1
    have ht3 := upd_same h2 t (.cells #[s1, s2] 35)
    have n1 := nbt g1
    have n2 := nbt g2
    have n3 := g1.nb hb1
    have n4 := g2.nb hb1
    refine w_for (fun (k : Nat) e h' => k ≤ ls.length ∧ Ext h h' ∧ ∃ O s1 s2, Inv xs O ∧ h' b = some (ia 49 (cc xs O)) ∧ h' t = some (.cells #[s1, s2] 35) ∧ Ints h' s1 xs ∧ Ints h' s2 O ∧ vb s1 ≠ some t ∧ vb s2 ≠ some t ∧ vb s1 ≠ some b ∧ vb s2 ≠ some b ∧ ∃ d7 d8 d9 d10 d12 d13 d14 d15 d16 d17 d18 d19 d20 d21 d22 d23 d24 d25 d26 d27 d28, e = [v, u, .bool false, .pointer (some ⟨b, 0, none⟩), .int .i64 0, .int .i64 k, .int .i64 ls.length, d7, d8, d9, d10, .pointer (some ⟨t, 0, none⟩), d12, d13, d14, d15, d16, d17, d18, d19, d20, d21, d22, d23, d24, d25, d26, d27, d28]) (fun k => ls.length - k) 0 ⟨by omega, x3, _, s1, s2, Inv.start hc, hb3, ht3, i1, i2, n1, n2, n3, n4, _, _, _, _, _, _, _, _, _, _, _, _, _, _, _, _, _, _, _, _, _, rfl⟩ ?_
    clear hb1 g1 g2 g3 e1 x3 i1 i2 hb3 ht3 n1 n2 n3 n4 
    rintro k _ h3 ⟨hk, x3, O, s1, s2, hI, hb3, ht3, i1, i2, n1, n2, n3, n4, d7, d8, d9, d10, d12, d13, d14, d15, d16, d17, d18, d19, d20, d21, d22, d23, d24, d25, d26, d27, d28, rfl⟩
    by_cases hlt : k < ls.length
    · have ld := (hu.ext x3).ld hlt
      simp (disch := omega) only [exW, exX, exV, exB, ld]
      by_cases hr : ls.getD k 0 < 0 ∨ 1073741824 < ls.getD k 0
      · refine (next_out_runs hr).mono ?_
        rintro _ h3 ⟨rfl, rfl⟩
        simp (disch := omega) only [exW, exX, exV, exB, ld]
        exact ⟨k + 1, ⟨by omega, x3, O, s1, s2, hI, hb3, ht3, i1, i2, n1, n2, n3, n4, _, _, _, _, _, _, _, _, _, _, _, _, _, _, _, _, _, _, _, _, _, rfl⟩, by omega⟩
      · refine (next_runs hb3 hI (by omega) (by omega)).mono ?_
        rintro _ h4 ⟨x4, p, rfl, o4⟩
        obtain ⟨w1, w2, w3, w4⟩ := next_law hI (n := ls.getD k 0) (by omega)
        have htb : t ≠ b := Ne.symm hbt
        have y4 : ∀ j q, h3 j = some q → j ≠ b → h4 j = some q := fun j q hj hne => x4 _ _ (by rw [upd_ne _ _ hne]; exact hj)
        have z4 : Ext h h4 := fun j q hj => y4 _ _ (x3 _ _ hj) (ne_of hj hb)
        have hb4 : h4 b = some (ia 49 (cc xs (nextF xs O (ls.getD k 0)).2)) := x4 _ _ (upd_same _ _ _)
        have ht4 := y4 _ _ ht3 htb
        have fr4 : Frm (.slice (some ⟨b, 0, none⟩) 0 0) h3 h4 := fun j q hj hne => y4 _ _ hj (by rintro rfl; exact hne rfl)
        have i14 := i1.frm fr4 (.inr (by simpa using Ne.symm n3))
        have i24 := i2.frm fr4 (.inr (by simpa using Ne.symm n4))
        have ld4 := (hu.ext z4).ld hlt
        have pt : vb p ≠ some t := o4.nb (b := t) (by rw [upd_ne _ _ htb]; exact ht3)
        have pb : vb p ≠ some b := o4.nb (b := b) (upd_same _ _ _)
        generalize hst : nextF xs O (ls.getD k 0) = st at *
        obtain ⟨parts, O'⟩ := st
        have rt := lda_blk (o := 0) (n := 2) ht4 (by simp)
        simp (disch := omega) only [exW, exX, exV, exB] at rt
        simp (disch := omega) only [exW, exX, exV, exB, ld4, rt]
        refine ⟨?ga, ?gb⟩
        case' ga =>
          intro nb hnb
          have ht5 := upd_get (o := .cells #[.slice none 0 0, .slice none 0 0] 35) ht4 hnb
          have rt5 := lda_blk (o := 0) (n := 2) ht5 (by simp)
          have x5 := ext_new hnb (.cells #[.slice none 0 0, .slice none 0 0] 35)
          have ld5 := (hu.ext (ext_trans z4 x5)).ld hlt
          simp (disch := omega) only [exW, exX, exV, exB] at rt5
          simp (disch := omega) only [exW, exX, exV, exB, ld5, rt5]
          have RN := refNext_runs (n := ls.getD k 0) (i14.ext x5) (i24.ext x5) hI (by omega) (by omega)
          rw [hst] at RN
          refine RN.mono ?_
          rintro _ h6 ⟨x6, w, _, rfl, ow, t1, t2, rfl, o61, o62, ap6⟩
          have hn6 := x6 _ _ (upd_same _ _ _)
          have ht6 := x6 _ _ ht5
          have hb6 := x6 _ _ (upd_get (o := .cells #[.slice none 0 0, .slice none 0 0] 35) hb4 hnb)
          have ntb := ne_of ht4 hnb
          have nbb := ne_of hb4 hnb
          have zz := ext_out (ext_trans z4 (ext_trans x5 x6)) (ext_none z4 hnb) (.cells #[t1, t2] 35)
          have m1 := o61.nb ht5
          have m2 := o62.nb ht5
          have m3 := o61.nb (upd_get (o := .cells #[.slice none 0 0, .slice none 0 0] 35) hb4 hnb)
          have m4 := o62.nb (upd_get (o := .cells #[.slice none 0 0, .slice none 0 0] 35) hb4 hnb)
          have pp := (o4.ext (ext_trans x5 x6)).ints.upd (o4.fresh hnb) (.cells #[t1, t2] 35)
          have ww := ow.ints.upd (ow.nb (upd_same _ _ _)) (.cells #[t1, t2] 35)
          have tt1 := o61.ints.upd (o61.nb (upd_same _ _ _)) (.cells #[t1, t2] 35)
          have tt2 := o62.ints.upd (o62.nb (upd_same _ _ _)) (.cells #[t1, t2] 35)
          have g6 := stn_blk (n := 0 + 2) (o := 0) (cs := [t1, t2]) hn6 (by simp) rfl (by simp [o61.one, o62.one])
          simp (disch := omega) only [exW, exX, exV, exB, List.drop_nil, List.append_nil] at g6
          simp (disch := omega) only [exW, exX, exV, exB, g6]
        case' gb =>
          have RN := refNext_runs (n := ls.getD k 0) i14 i24 hI (by omega) (by omega)
          rw [hst] at RN
          refine RN.mono ?_
          rintro _ h6 ⟨x6, w, _, rfl, ow, t1, t2, rfl, o61, o62, ap6⟩
          simp (disch := omega) only [exW, exX, exV, exB]
          intro nb hnb
          have ht6 := x6 _ _ ht4
          have hb6 := x6 _ _ hb4
          have ntb := ne_of ht6 hnb
          have nbb := ne_of hb6 hnb
          have zz := ext_out (ext_trans z4 x6) (ext_none (ext_trans z4 x6) hnb) (.cells #[t1, t2] 35)
          have m1 := o61.nb ht4
          have m2 := o62.nb ht4
          have m3 := o61.nb hb4
          have m4 := o62.nb hb4
          have pp := (o4.ext x6).ints.upd ((o4.ext x6).fresh hnb) (.cells #[t1, t2] 35)
          have ww := ow.ints.upd (ow.fresh hnb) (.cells #[t1, t2] 35)
          have tt1 := o61.ints.upd (o61.fresh hnb) (.cells #[t1, t2] 35)
          have tt2 := o62.ints.upd (o62.fresh hnb) (.cells #[t1, t2] 35)
          have g6 := stn_blk (n := 0 + 2) (o := 0) (cs := [t1, t2]) (upd_same h6 nb (.cells [.slice none 0 0, .slice none 0 0].toArray 35)) (by simp) rfl (by simp [o61.one, o62.one])
          simp (disch := omega) only [exW, exX, exV, exB, List.drop_nil, List.append_nil, upd_upd] at g6
          simp (disch := omega) only [exW, exX, exV, exB, g6]
        all_goals
          have hbb := (upd_ne h6 (.cells #[t1, t2] 35) nbb).trans hb6
          have htt := (upd_ne h6 (.cells #[t1, t2] 35) ntb).trans ht6
          have hnn := upd_same h6 nb (.cells [t1, t2].toArray 35)
          generalize upd h6 nb (.cells #[t1, t2] 35) = hh at *
          have r25 := ld1_blk (o := 1) hnn (by simp)
          have hpl : parts.length ≤ 1000000 := by simp only at w2; omega
          refine (same_runs pp ww hpl).mono ?_
          rintro _ _ ⟨rfl, rfl⟩
          simp (disch := omega) only [exW, exX, exV, exB, r25]
          refine (owed_runs hbb (by omega) w1.len).mono ?_
          rintro o h7 ⟨x7, o7⟩
          simp (disch := omega) only [exW, exX, exV, exB]
          have hol : O'.length ≤ 1000000 := by have := w1.len; simp only at this; omega
          refine ⟨x7, (same_runs o7.ints (tt2.ext x7) hol).mono ?_⟩
          rintro _ _ ⟨rfl, rfl⟩
          have g7 := lda_blk (o := 0) (n := 2) (x7 _ _ hnn) (by simp)
          have g8 := stn_blk (n := 0 + 2) (o := 0) (cs := [t1, t2]) (x7 _ _ htt) (by simp) rfl (by simp [tt1.one, tt2.one])
          simp (disch := omega) only [exW, exX, exV, exB, List.drop_nil, List.append_nil] at g7 g8
          simp (disch := omega) only [exW, exX, exV, exB, g7, g8]
          refine ⟨k + 1, ⟨by omega, ext_out (ext_trans zz x7) ht0 _, O', t1, t2, w1, ?_, upd_same _ _ _, (tt1.ext x7).upd m1 _, (tt2.ext x7).upd m2 _, m1, m2, m3, m4, _, _, _, _, _, _, _, _, _, _, _, _, _, _, _, _, _, _, _, _, _, rfl⟩, by omega⟩
          rw [upd_ne _ _ hbt]; exact x7 _ _ hbb
    · have hkl : k = ls.length := by omega
      subst hkl
      have r22 := ld1_blk (l := [s1, s2]) (o := 1) ht3 (by simp)
      simp (disch := omega) only [exW, exX, exV, exB, r22]
      refine (owed_runs hb3 (by omega) hI.len).mono ?_
      rintro o h7 ⟨x7, o7⟩
      simp (disch := omega) only [exW, exX, exV, exB]
      have hol : O.length ≤ 1000000 := by have := hI.len; omega
      refine ⟨x7, (same_runs o7.ints (i2.ext x7) hol).mono ?_⟩
      rintro _ h7 ⟨rfl, rfl⟩
      simp (disch := omega) only [exW, exX, exV, exB]
      refine (carries_runs h7).mono ?_
      rintro _ h9 ⟨rfl, x9⟩
      simp (disch := omega) only [exW, exX, exV, exB, f_law11_ShareCarry]
      exact ⟨trivial, ext_trans x3 (ext_trans x7 x9)⟩
  · have both : ∀ h9, Ext h1 h9 → Ext h h9 := fun h9 hx => ext_trans x1 hx
    rcases hn with ⟨hc', rfl⟩ | ⟨hc', b, hb, hb1, rfl⟩
    · simp (disch := omega) only [exW, exX, exV, exB]
      refine (check_runs (hv.ext x1)).mono ?_
      rintro _ h1 ⟨rfl, rfl⟩
      simp (disch := omega) only [exW, exX, exV, exB, lu]
      refine (check_runs (hv.ext x1)).mono ?_
      rintro _ h1 ⟨rfl, rfl⟩
      have hd : decide (chk xs = 0) = false := by simp [hc']
      simp (disch := omega) only [exW, exX, exV, exB, hd]
      refine (carries_runs h1).mono ?_
      rintro _ h9 ⟨rfl, x9⟩
      simp (disch := omega) only [exW, exX, exV, exB, f_law11_ShareCarry]
      exact ⟨trivial, both _ x9⟩
    · simp (disch := omega) only [exW, exX, exV, exB]
      refine (check_runs (hv.ext x1)).mono ?_
      rintro _ h1 ⟨rfl, rfl⟩
      simp (disch := omega) only [exW, exX, exV, exB, lu, hc']
      refine (check_runs (hv.ext x1)).mono ?_
      rintro _ h1 ⟨rfl, rfl⟩
      simp (disch := omega) only [exW, exX, exV, exB, hc']
      refine (carries_runs h1).mono ?_
      rintro _ h9 ⟨rfl, x9⟩
      simp (disch := omega) only [exW, exX, exV, exB, f_law11_ShareCarry]
      exact ⟨trivial, both _ x9⟩
end Go.Proofs.Ytnpbnlafaoldcaa
