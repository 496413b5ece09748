/- The chapter's example of a Carry holds. No statement is claimed here. -/
import Derived.Test.YtnpbnlafaoldcaaSd
namespace Go.Proofs.Ytnpbnlafaoldcaa
open Go Go.Lft
set_option linter.unusedSimpArgs false
attribute [local congr] ob_congr bw_congr iw_congr ib_congr itx_congr runs_congr wp_congr sq_congr bk_congr lg_congr

theorem chk_ex : chk [300, 700] = 0 := by
  rw [chk_sum (by decide) (by decide)]
  · decide
  · intro i hi
    match i, hi with
    | 0, _ => decide
    | 1, _ => decide

theorem carries_runs (h : Heap) : Runs P n_law11_carries [] h (fun r h' => r = .bool true ∧ Ext h h') := by
  refine of_law11_carries (by simp) ?_
  simp (disch := omega) only [s_law11_carries, env0, v_law11_carries, List.map_cons, List.map_nil, exW, exX, exV, exB, List.getD_nil]
  intro b0 hb0
  have hv0 := ints_of_ia (h := upd h b0 (ia 3 [300, 700])) (b := b0) (c := 2) (upd_same _ _ _) (by decide)
  have x0 : Ext h (upd h b0 (ia 3 [300, 700])) := ext_new hb0 _
  refine (new_runs hv0).mono ?_
  rintro _ h1 ⟨x1, ⟨hc, _⟩ | ⟨_, b, hb, hb1, rfl⟩⟩
  · exact absurd chk_ex hc
  simp (disch := omega) only [exW, exX, exV, exB, ext_tup]
  have hI := Inv.start chk_ex
  have w1 : nextF [300, 700] [0, 0] 1 = ([0, 1], [300, -300]) := by decide
  have w2 : nextF [300, 700] [300, -300] 1 = ([1, 0], [-400, 400]) := by decide
  have hI2 := (next_law hI (n := 1) (by omega)).1
  change Inv _ (nextF [300, 700] [0, 0] 1).2 at hI2
  rw [w1] at hI2
  have n1 := next_runs (n := 1) hb1 hI (by omega) (by omega)
  change Runs _ _ _ _ (fun r h' => Ext (upd h1 b (ia 49 (cc [300, 700] (nextF [300, 700] [0, 0] 1).2))) h' ∧ ∃ v, r = .tuple #[v, .int .i64 0] ∧ OwnI (upd h1 b (ia 49 (cc [300, 700] (nextF [300, 700] [0, 0] 1).2))) h' v (nextF [300, 700] [0, 0] 1).1) at n1
  rw [w1] at n1
  refine n1.mono ?_
  rintro _ h2 ⟨x2, p1, rfl, o1⟩
  have hb2 : h2 b = some (ia 49 (cc [300, 700] [300, -300])) := x2 _ _ (upd_same _ _ _)
  have n2 := next_runs (n := 1) hb2 hI2 (by omega) (by omega)
  rw [w2] at n2
  simp (disch := omega) only [exW, exX, exV, exB]
  refine n2.mono ?_
  rintro _ h3 ⟨x3, p2, rfl, o2⟩
  simp (disch := omega) only [exW, exX, exV, exB]
  intro b3 hb3
  have hp1 : ∀ k q, h2 k = some q → k ≠ b → h3 k = some q := fun k q hq hne => x3 _ _ (by rw [upd_ne _ _ hne]; exact hq)
  have q1 : OwnI (upd h1 b (ia 49 (cc [300, 700] [300, -300]))) h3 p1 [0, 1] := Own.keep o1 fun k q hk hq => hp1 k q hq (by
    rintro rfl
    have := (o1.mem k hk).1
    rw [upd_same] at this; cases this)
  have q2 := o2.ints
  have x4 : Ext h3 (upd h3 b3 (ia 3 [0, 1])) := ext_new hb3 _
  have e3 := ints_of_ia (h := upd h3 b3 (ia 3 [0, 1])) (b := b3) (c := 2) (upd_same _ _ _) (by decide)
  refine (same_runs (q1.ext x4).ints e3 (by decide)).mono ?_
  rintro _ h4 ⟨rfl, rfl⟩
  have c1 : decide ([(0 : Int), 1] = [0, 1]) = true := by decide
  have c2 : decide ([(1 : Int), 0] = [1, 0]) = true := by decide
  simp (disch := omega) only [exW, exX, exV, exB, c1]
  intro b4 hb4
  have x5 := ext_new hb4 (ia 3 [1, 0])
  have e4 := ints_of_ia (h := upd (upd h3 b3 (ia 3 [0, 1])) b4 (ia 3 [1, 0])) (b := b4) (c := 2) (upd_same _ _ _) (by decide)
  refine (same_runs ((q2.ext x4).ext x5) e4 (by decide)).mono ?_
  rintro _ h5 ⟨rfl, rfl⟩
  simp (disch := omega) only [exW, exX, exV, exB, c2, f_law11_carries]
  refine ⟨trivial, fun k q hk => x5 _ _ (x4 _ _ ?_)⟩
  have hk0 := x0 _ _ hk
  have hkb := ne_of hk0 hb
  exact hp1 _ _ (x2 _ _ (by rw [upd_ne _ _ hkb]; exact x1 _ _ hk0)) hkb
end Go.Proofs.Ytnpbnlafaoldcaa
