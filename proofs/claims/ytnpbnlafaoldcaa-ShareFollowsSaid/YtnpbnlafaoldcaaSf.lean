/- ShareNew: the walk through the law. No statement is claimed here. -/
import Derived.Test.YtnpbnlafaoldcaaSe
namespace Go.Proofs.Ytnpbnlafaoldcaa
open Go Go.Lft
set_option linter.unusedSimpArgs false
attribute [local congr] ob_congr bw_congr iw_congr ib_congr itx_congr runs_congr wp_congr sq_congr bk_congr lg_congr

theorem sum_zeros (n : Nat) : (List.replicate n (0 : Int)).sum = 0 := by
  induction n with
  | zero => rfl
  | succ n ih => simp [List.replicate_succ, ih]

theorem shareNew_runs {h : Heap} {v : Value} {xs : List Int} (n : Int) (hv : Ints h v xs) : Runs P n_law11_ShareNew [v, .int .i64 n] h (fun r h' => r = .bool true ∧ Ext h h') := by
  refine of_law11_ShareNew (by simp) ?_
  have hlen := hv.len
  simp (disch := omega) only [s_law11_ShareNew, env0, v_law11_ShareNew, List.map_cons, List.map_nil, exW, exX, exV, exB, List.getD_nil, f_law11_ShareNew]
  refine (check_runs hv).mono ?_
  rintro _ _ ⟨rfl, rfl⟩
  simp (disch := omega) only [exW, exX, exV, exB]
  refine (new_runs hv).mono ?_
  rintro _ h1 ⟨x1, ⟨hc, rfl⟩ | ⟨hc, b, hb, hb1, rfl⟩⟩
  · simp (disch := omega) only [exW, exX, exV, exB]
    refine (next_nil_runs h1 n).mono ?_
    rintro _ h1 ⟨rfl, rfl⟩
    have hd : decide (chk xs ≠ 0) = true := by simp [hc]
    simp (disch := omega) only [exW, exX, exV, exB, hd]
    refine (owed_nil_runs h1).mono ?_
    rintro _ h1 ⟨rfl, rfl⟩
    simp (disch := omega) only [exW, exX, exV, exB]
    refine (carries_runs h1).mono ?_
    rintro _ h9 ⟨rfl, x9⟩
    simp (disch := omega) only [exW, exX, exV, exB, f_law11_ShareNew]
    exact ⟨trivial, ext_trans x1 x9⟩
  · have hd : decide (chk xs ≠ 0) = false := by simp [hc]
    obtain ⟨r1, r2, r3, r4⟩ := chk_ok hc
    simp (disch := omega) only [exW, exX, exV, exB, hc]
    refine (next_nil_runs h1 n).mono ?_
    rintro _ h1 ⟨rfl, rfl⟩
    simp (disch := omega) only [exW, exX, exV, exB, hd]
    refine (owed_nil_runs h1).mono ?_
    rintro _ h1 ⟨rfl, rfl⟩
    simp (disch := omega) only [exW, exX, exV, exB]
    refine (owed_runs hb1 r2 (by simp)).mono ?_
    rintro w h2 ⟨x2, o2⟩
    have l2 := o2.len
    rw [List.length_replicate] at l2
    simp (disch := omega) only [exW, exX, exV, exB, l2, hlen]
    have hb2 := x2 _ _ hb1
    refine (owed_runs hb2 r2 (by simp)).mono ?_
    rintro w h3 ⟨x3, o3⟩
    simp (disch := omega) only [exW, exX, exV, exB]
    refine (total_runs o3.ints (by simp; omega) (fun k hk => ?_)).mono ?_
    · simp only [List.take_replicate, sum_zeros]; omega
    rintro _ h3 ⟨rfl, rfl⟩
    rw [sum_zeros]
    simp (disch := omega) only [exW, exX, exV, exB]
    refine (carries_runs h3).mono ?_
    rintro _ h9 ⟨rfl, x9⟩
    simp (disch := omega) only [exW, exX, exV, exB, f_law11_ShareNew]
    exact ⟨trivial, ext_trans x1 (ext_trans x2 (ext_trans x3 x9))⟩
end Go.Proofs.Ytnpbnlafaoldcaa
