/- The contract of the reference's Next. No statement is claimed here. -/
import Derived.Test.YtnpbnlafaoldcaaSg
namespace Go.Proofs.Ytnpbnlafaoldcaa
open Go Go.Lft
set_option linter.unusedSimpArgs false
attribute [local congr] ob_congr bw_congr iw_congr ib_congr itx_congr runs_congr wp_congr sq_congr bk_congr lg_congr

/-- What is in memory while the reference's Next runs. -/
structure NS (h h' : Heap) (a r t : Nat) (c1 c2 s1 s2 out : Value) (R parts owed : List Int) : Prop where
  x : Ext h h'
  ha : h' a = some (.cells [c1, c2].toArray 35)
  hr : h' r = some (.cells [Value.slice none 0 0, .slice none 0 0].toArray 35)
  ht : h' t = some (.cells [s1, s2].toArray 35)
  o0 : OwnI h h' out parts
  o1 : OwnI h h' s1 R
  o2 : OwnI h h' s2 owed
  p01 : vb s1 = none ∨ vb out ≠ vb s1
  p02 : vb s2 = none ∨ vb out ≠ vb s2
  p12 : vb s2 = none ∨ vb s1 ≠ vb s2
  q0 : vb out ≠ some a ∧ vb out ≠ some r ∧ vb out ≠ some t
  q1 : vb s1 ≠ some a ∧ vb s1 ≠ some r ∧ vb s1 ≠ some t
  q2 : vb s2 ≠ some a ∧ vb s2 ≠ some r ∧ vb s2 ≠ some t

section
variable {h h' : Heap} {a r t : Nat} {c1 c2 s1 s2 out : Value} {R parts owed : List Int}
theorem NS.set2 (N : NS h h' a r t c1 c2 s1 s2 out R parts owed) {i : Nat} (hi : i < owed.length) :
    ∃ p, idxv 1 s2 (.int .i64 i) = some p ∧ ld1v h' p = some (.int .i64 (owed.getD i 0)) ∧ ∀ y, ∃ h'', st1 h' p (.int .i64 y) = some h'' ∧ NS h h'' a r t c1 c2 s1 s2 out R parts (owed.set i y) := by
  obtain ⟨p, g1, g2, g3⟩ := N.o2.st N.x hi
  refine ⟨p, g1, g2, fun y => ?_⟩
  obtain ⟨h'', k1, k2, k3, k4⟩ := g3 y
  exact ⟨h'', k1, k4, k3 _ _ N.ha N.q2.1, k3 _ _ N.hr N.q2.2.1, k3 _ _ N.ht N.q2.2.2, N.o0.frm k3 (apart_symm N.p02), N.o1.frm k3 (apart_symm N.p12), k2, N.p01, N.p02, N.p12, N.q0, N.q1, N.q2⟩
theorem NS.set0 (N : NS h h' a r t c1 c2 s1 s2 out R parts owed) {i : Nat} (hi : i < parts.length) :
    ∃ p, idxv 1 out (.int .i64 i) = some p ∧ ld1v h' p = some (.int .i64 (parts.getD i 0)) ∧ ∀ y, ∃ h'', st1 h' p (.int .i64 y) = some h'' ∧ NS h h'' a r t c1 c2 s1 s2 out R (parts.set i y) owed := by
  obtain ⟨p, g1, g2, g3⟩ := N.o0.st N.x hi
  refine ⟨p, g1, g2, fun y => ?_⟩
  obtain ⟨h'', k1, k2, k3, k4⟩ := g3 y
  exact ⟨h'', k1, k4, k3 _ _ N.ha N.q0.1, k3 _ _ N.hr N.q0.2.1, k3 _ _ N.ht N.q0.2.2, k2, N.o1.frm k3 N.p01, N.o2.frm k3 N.p02, N.p01, N.p02, N.p12, N.q0, N.q1, N.q2⟩
theorem NS.app (N : NS h h' a r t c1 c2 s1 s2 out R parts owed) {h'' : Heap} {out' : Value} {l : List Int} (o : OwnI h h'' out' l) (x : Ext h h'') (f : Frm out h' h'') (v : vb out' = vb out ∨ ∃ b, vb out' = some b ∧ h' b = none) : NS h h'' a r t c1 c2 s1 s2 out' R l owed :=
  ⟨x, f _ _ N.ha N.q0.1, f _ _ N.hr N.q0.2.1, f _ _ N.ht N.q0.2.2, o, N.o1.frm f N.p01, N.o2.frm f N.p02, vb_apart v N.o1 N.p01, vb_apart v N.o2 N.p02, N.p12, ⟨vb_new v N.ha N.q0.1, vb_new v N.hr N.q0.2.1, vb_new v N.ht N.q0.2.2⟩, N.q1, N.q2⟩
end

theorem refNext_runs {h : Heap} {c1 c2 : Value} {R O : List Int} {n : Int} (hc1 : Ints h c1 R) (hc2 : Ints h c2 O) (hi : Inv R O) (hn0 : 0 ≤ n) (hn1 : n ≤ 1073741824) :
    Runs P n_ref11_Next [.agg #[c1, c2], .int .i64 n] h (fun r h' => Ext h h' ∧ ∃ p st, r = .tuple #[p, st] ∧ OwnI h h' p (nextF R O n).1 ∧ IsSt h h' st R (nextF R O n).2) := by
  obtain ⟨r1, r2, r3, r4⟩ := chk_ok hi.ok
  have hOl := hi.len
  refine of_ref11_Next (by simp) ?_
  simp (disch := omega) only [s_ref11_Next, env0, v_ref11_Next, List.map_cons, List.map_nil, exW, exX, exV, exB, List.getD_nil]
  intro a ha r hr o ho
  have hra := ne_of (upd_same _ _ _) hr
  have hoa : o ≠ a := Ne.symm (ne_of (show upd (upd h a (.cells #[c1, c2] 35)) r (.cells #[.slice none 0 0, .slice none 0 0] 35) a = some (.cells #[c1, c2] 35) by rw [upd_ne _ _ hra]; exact upd_same _ _ _) ho)
  have hor : o ≠ r := Ne.symm (ne_of (upd_same _ _ _) ho)
  have hr0 : h r = none := by rw [upd_ne _ _ (Ne.symm hra)] at hr; exact hr
  have ho0 : h o = none := by rw [upd_ne _ _ hor, upd_ne _ _ hoa] at ho; exact ho
  have x0 : Ext h (upd (upd (upd h a (.cells #[c1, c2] 35)) r (.cells #[.slice none 0 0, .slice none 0 0] 35)) o (.cells #[] 3)) := ext_out (ext_out (ext_new ha _) hr0 _) ho0 _
  have k1 : (upd (upd (upd h a (.cells #[c1, c2] 35)) r (.cells #[.slice none 0 0, .slice none 0 0] 35)) o (.cells #[] 3)) a = some (.cells [c1, c2].toArray 35) := by
    rw [upd_ne _ _ (Ne.symm hoa), upd_ne _ _ hra, upd_same]
  have k2 : (upd (upd (upd h a (.cells #[c1, c2] 35)) r (.cells #[.slice none 0 0, .slice none 0 0] 35)) o (.cells #[] 3)) r = some (.cells [Value.slice none 0 0, .slice none 0 0].toArray 35) := by
    rw [upd_ne _ _ (Ne.symm hor), upd_same]
  have k3 : (upd (upd (upd h a (.cells #[c1, c2] 35)) r (.cells #[.slice none 0 0, .slice none 0 0] 35)) o (.cells #[] 3)) o = some (.cells #[] 3) := upd_same _ _ _
  have k4 : OwnI h (upd (upd (upd h a (.cells #[c1, c2] 35)) r (.cells #[.slice none 0 0, .slice none 0 0] 35)) o (.cells #[] 3)) (.slice (some ⟨o, 0, none⟩) 0 0) [] := OwnI.mk (xs := []) ho0
  generalize (upd (upd (upd h a (.cells #[c1, c2] 35)) r (.cells #[.slice none 0 0, .slice none 0 0] 35)) o (.cells #[] 3)) = h0 at x0 k1 k2 k3 k4 ⊢
  have f0 := ld1_blk (o := 0) k1 (by simp)
  simp (disch := omega) only [exW, exX, exV, exB, Nat.zero_add, Nat.add_zero, f0]
  refine (start_runs (hc1.ext x0) (by omega)).mono ?_
  rintro _ h1 ⟨x1, s1, s2, rfl, g1, g2, g3⟩
  simp (disch := omega) only [exW, exX, exV, exB]
  intro t ht
  have hta := ne_of (x1 _ _ k1) ht
  have htr := ne_of (x1 _ _ k2) ht
  have hto := ne_of (x1 _ _ k3) ht
  have e1 := stn_blk (n := 0 + 2) (o := 0) (cs := [s1, s2]) (upd_same h1 t (.cells [Value.slice none 0 0, .slice none 0 0].toArray 35)) (by simp) rfl (by simp [g1.one, g2.one])
  simp (disch := omega) only [exW, exX, exV, exB, Nat.zero_add, Nat.add_zero, List.drop_nil, upd_upd] at e1 ⊢
  simp (disch := omega) only [exW, exX, exV, exB, Nat.zero_add, Nat.add_zero, e1]
  have hst0 : h t = none := ext_none (ext_trans x0 x1) ht
  have nbt : ∀ {v xs}, OwnI h0 h1 v xs → vb v ≠ some t := fun hv hb => by
    obtain ⟨p, hp⟩ := (Own.mem hv t hb).2; rw [ht] at hp; cases hp
  have N0 : NS h (upd h1 t (.cells #[s1, s2] 35)) a r t c1 c2 s1 s2 (.slice (some ⟨o, 0, none⟩) 0 0) R [] (List.replicate R.length 0) :=
    ⟨ext_out (ext_trans x0 x1) hst0 _, by rw [upd_ne _ _ hta]; exact x1 _ _ k1, by rw [upd_ne _ _ htr]; exact x1 _ _ k2, upd_same _ _ _, (k4.ext x1).upd (by simpa using hto) _, (g1.base x0).upd (nbt g1) _, (g2.base x0).upd (nbt g2) _,
      .inr (by simpa using fun h => (g1.nb k3) h.symm), .inr (by simpa using fun h => (g2.nb k3) h.symm), g3, ⟨by simpa using hoa, by simpa using hor, by simpa using hto⟩, ⟨g1.nb k1, g1.nb k2, nbt g1⟩, ⟨g2.nb k1, g2.nb k2, nbt g2⟩⟩
  have hML : (R.map (n / 1000 * ·)).length = R.length := by simp
  refine w_for (fun (i : Nat) e h' => i ≤ R.length ∧ (∃ out, NS h h' a r t c1 c2 s1 s2 out R ((R.map (n / 1000 * ·)).take i) (O.take i ++ List.replicate (R.length - i) 0) ∧ ∃ d2 d8 d9 d10 d11 d12 d13 d14, e = [.agg #[c1, c2], .int .i64 n, d2, .pointer (some ⟨r, 0, none⟩), out, .pointer (some ⟨a, 0, none⟩), .int .i64 i, .pointer (some ⟨t, 0, none⟩), d8, d9, d10, d11, d12, d13, d14])) (fun i => R.length - i) 0 ⟨by omega, _, by simpa using N0, _, _, _, _, _, _, _, _, rfl⟩ ?_
  rintro i _ h2 ⟨hk, out, N, d2, d8, d9, d10, d11, d12, d13, d14, rfl⟩
  have l1 := (hc1.ext N.x).len
  have f50 := ld1_blk (o := 0) N.ha (by simp)
  by_cases hlt : i < R.length
  · have q1 := (hc1.ext N.x).ld hlt
    have hr3 := r3 i hlt
    have m1 : 0 ≤ n / 1000 * R.getD i 0 := Int.mul_nonneg (by omega) hr3.1
    have m2 : n / 1000 * R.getD i 0 ≤ n / 1000 * 1000 := Int.mul_le_mul_of_nonneg_left hr3.2 (by omega)
    simp (disch := omega) only [exW, exX, exV, exB, l1, f50, q1]
    intro b hb
    refine OwnI.app1 (y := n / 1000 * R.getD i 0) N.o0 rfl rfl (Nat.le_refl 1) hb (by simp; omega) N.x ?_
    intro w h3 t1 t2 t3 t4
    have N1 := N.app t1 t2 t3 t4
    have f51 := ld1_blk (o := 1) N1.ha (by simp)
    have f71 := ld1_blk (o := 1) N1.ht (by simp)
    have q2 := (hc2.ext N1.x).ld (show i < O.length by omega)
    obtain ⟨p, u1, u2, u3⟩ := N1.set2 (i := i) (by simp; omega)
    obtain ⟨h4, u4, N2⟩ := u3 (O.getD i 0)
    simp (disch := omega) only [exW, exX, exV, exB, f51, f71, q2, u1, u4]
    refine ⟨i + 1, ⟨by omega, w, ?_, _, _, _, _, _, _, _, _, rfl⟩, by omega⟩
    rw [fill_set hOl hlt, ← map_get R (n / 1000), ← take_succ_getD (by omega)] at N2
    exact N2
  have hiR : i = R.length := by omega
  subst hiR
  have hfull : ((R.map (n / 1000 * ·)).take R.length) = R.map (n / 1000 * ·) := by rw [← hML, List.take_length]
  have hfullO : (O.take R.length ++ List.replicate (R.length - R.length) 0) = O := by rw [Nat.sub_self, List.replicate_zero, List.append_nil, ← hOl, List.take_length]
  rw [hfull, hfullO] at N
  simp (disch := omega) only [exW, exX, exV, l1, f50]
  -- the single units
  refine w_for (fun (j : Nat) e h' => j ≤ (n % 1000).toNat ∧ NS h h' a r t c1 c2 s1 s2 out R (units R j (R.map (n / 1000 * ·), O)).1 (units R j (R.map (n / 1000 * ·), O)).2 ∧ ∃ d2 d6 d9 d10 d11 d12 d13 d14, e = [.agg #[c1, c2], .int .i64 n, d2, .pointer (some ⟨r, 0, none⟩), out, .pointer (some ⟨a, 0, none⟩), d6, .pointer (some ⟨t, 0, none⟩), .int .i64 j, d9, d10, d11, d12, d13, d14]) (fun j => (n % 1000).toNat - j) 0 ⟨by omega, N, _, _, _, _, _, _, _, _, rfl⟩ ?_
  clear N
  rintro j _ h3 ⟨hj, N, d2, d6, d9, d10, d11, d12, d13, d14, rfl⟩
  obtain ⟨v1, v2, v3, v4⟩ := Inv.units hi (p := R.map (n / 1000 * ·)) hML j
  have hst : nextF R O n = units R (n % 1000).toNat (R.map (n / 1000 * ·), O) := rfl
  by_cases hjn : j < (n % 1000).toNat
  · have hnx : units R (j + 1) (R.map (n / 1000 * ·), O) = unit R (units R j (R.map (n / 1000 * ·), O)) := rfl
    have hpart : ∀ i, i < R.length → 0 ≤ (units R j (R.map (n / 1000 * ·), O)).1.getD i 0 ∧ (units R j (R.map (n / 1000 * ·), O)).1.getD i 0 ≤ 2000000000 := fun i hi => by
      have hr3 := r3 i hi
      have m1 : 0 ≤ n / 1000 * R.getD i 0 := Int.mul_nonneg (by omega) hr3.1
      have m2 : n / 1000 * R.getD i 0 ≤ n / 1000 * 1000 := Int.mul_le_mul_of_nonneg_left hr3.2 (by omega)
      have := v4 i hi
      rw [map_get] at this
      omega
    generalize units R j (R.map (n / 1000 * ·), O) = st at *
    obtain ⟨parts, Oj⟩ := st
    simp only at v1 v2 v3 v4 hpart N ⊢
    have hOj := v1.len
    simp (disch := omega) only [exW, exX, exV]
    refine w_for (fun (k : Nat) e h' => k ≤ R.length ∧ NS h h' a r t c1 c2 s1 s2 out R parts (inner R k Oj).1 ∧ ∃ d2 d6 d11 d12 d13 d14, e = [.agg #[c1, c2], .int .i64 n, d2, .pointer (some ⟨r, 0, none⟩), out, .pointer (some ⟨a, 0, none⟩), d6, .pointer (some ⟨t, 0, none⟩), .int .i64 j, .int .i64 (inner R k Oj).2, .int .i64 k, d11, d12, d13, d14]) (fun k => R.length - k) 0 ⟨by omega, N, _, _, _, _, _, _, rfl⟩ ?_
    clear N
    rintro k _ h4 ⟨hk, N, d2, d6, d11, d12, d13, d14, rfl⟩
    have hil := inner_len R k Oj
    have hml := inner_lt R k Oj (by omega) (by omega)
    have f71 := ld1_blk (o := 1) N.ht (by simp)
    have f50 := ld1_blk (o := 0) N.ha (by simp)
    have l2 := N.o2.len
    rw [hil, hOj] at l2
    by_cases hkl : k < R.length
    · have q1 := (hc1.ext N.x).ld hkl
      have b1 := inner_bound v1 k (by omega) k (by omega)
      have b2 := r3 k hkl
      obtain ⟨p, u1, u2, u3⟩ := N.set2 (i := k) (by omega)
      obtain ⟨h5, u4, N2⟩ := u3 ((inner R k Oj).1.getD k 0 + R.getD k 0)
      have f72 := ld1_blk (o := 1) N2.ht (by simp)
      have y1 := N2.o2.ints.ld (i := k) (by simp; omega)
      rw [u1, ob_some] at y1
      have y2 := N2.o2.ints.ld (i := (inner R k Oj).2) (by simp; omega)
      obtain ⟨p', z1, z2, _⟩ := N2.set2 (i := (inner R k Oj).2) (by simp; omega)
      by_cases hgt : ((inner R k Oj).1.set k ((inner R k Oj).1.getD k 0 + R.getD k 0)).getD (inner R k Oj).2 0 < ((inner R k Oj).1.set k ((inner R k Oj).1.getD k 0 + R.getD k 0)).getD k 0
      · simp (disch := omega) only [exW, exX, exV, f71, f50, l2, q1, u1, u2, u4, f72, y1, z1, z2]
        refine ⟨k + 1, ⟨by omega, ?_, ?_⟩, by omega⟩
        · rw [inner_gt hgt]; exact N2
        · rw [inner_gt hgt]; exact ⟨_, _, _, _, _, _, rfl⟩
      · simp (disch := omega) only [exW, exX, exV, f71, f50, l2, q1, u1, u2, u4, f72, y1, z1, z2]
        refine ⟨k + 1, ⟨by omega, ?_, ?_⟩, by omega⟩
        · rw [inner_le hgt]; exact N2
        · rw [inner_le hgt]; exact ⟨_, _, _, _, _, _, rfl⟩
    · have hkR : k = R.length := by omega
      subst hkR
      have hp1 := hpart _ (show (inner R R.length Oj).2 < R.length by omega)
      have b1 := inner_bound v1 R.length (by omega) (inner R R.length Oj).2 (by omega)
      obtain ⟨p, u1, u2, u3⟩ := N.set2 (i := (inner R R.length Oj).2) (by omega)
      obtain ⟨h5, u4, N2⟩ := u3 ((inner R R.length Oj).1.getD (inner R R.length Oj).2 0 - 1000)
      obtain ⟨p', z1, z2, z3⟩ := N2.set0 (i := (inner R R.length Oj).2) (by omega)
      obtain ⟨h6, z4, N3⟩ := z3 (parts.getD (inner R R.length Oj).2 0 + 1)
      simp (disch := omega) only [exW, exX, exV, f71, l2, u1, u2, u4, z1, z2, z4]
      refine ⟨j + 1, ⟨by omega, ?_, _, _, _, _, _, _, _, _, rfl⟩, by omega⟩
      rw [hnx]; exact N3
  · have hjn' : j = (n % 1000).toNat := by omega
    subst hjn'
    rw [← hst] at v1 v2 v3 v4 N
    have g7 := lda_blk (o := 0) (n := 2) N.ht (by simp)
    have gst := stn_blk (n := 0 + 2) (o := 0) (cs := [s1, s2]) N.hr (by simp) rfl (by simp [N.o1.one, N.o2.one])
    have grd := lda_blk (o := 0) (n := 2) (upd_same h3 r (.cells [s1, s2].toArray 35)) (by simp)
    simp (disch := omega) only [exW, exX, exV, exB, List.drop_nil, List.append_nil] at g7 gst grd
    simp (disch := omega) only [exW, exX, exV, exB, g7, gst, grd, f_ref11_Next]
    exact ⟨ext_out N.x hr0 _, _, _, rfl, N.o0.upd N.q0.2.1 _, s1, s2, rfl, N.o1.upd N.q1.2.1 _, N.o2.upd N.q2.2.1 _, N.p12⟩
end Go.Proofs.Ytnpbnlafaoldcaa
