/- Contracts of the functions of the reference for share: Start and Next. No statement is claimed here. -/
import Derived.Test.YtnpbnlafaoldcaaSf
namespace Go.Proofs.Ytnpbnlafaoldcaa
open Go Go.Lft
set_option linter.unusedSimpArgs false
attribute [local congr] ob_congr bw_congr iw_congr ib_congr itx_congr runs_congr wp_congr sq_congr bk_congr lg_congr

/-- What the reference's state is: two lists of its own. -/
def IsSt (h0 h : Heap) (r : Value) (R O : List Int) : Prop := ∃ v1 v2, r = .agg #[v1, v2] ∧ OwnI h0 h v1 R ∧ OwnI h0 h v2 O ∧ (vb v2 = none ∨ vb v1 ≠ vb v2)

theorem start_runs {h : Heap} {v : Value} {xs : List Int} (hv : Ints h v xs) (hl : xs.length ≤ 1000000) : Runs P n_ref11_Start [v] h (fun r h' => Ext h h' ∧ IsSt h h' r xs (List.replicate xs.length 0)) := by
  refine of_ref11_Start (by simp) ?_
  simp (disch := omega) only [s_ref11_Start, env0, v_ref11_Start, List.map_cons, List.map_nil, exW, exX, exV, exB, List.getD_nil]
  intro r0 hr0 s hs
  have hsr : s ≠ r0 := by rintro rfl; rw [upd_same] at hs; cases hs
  have hs0 : h s = none := by rw [upd_ne _ _ hsr] at hs; exact hs
  have e1 := stn_blk (n := 0 + 2) (o := 0) (cs := [Value.slice none 0 0, .slice none 0 0]) (upd_same (upd h r0 (.cells [Value.slice none 0 0, .slice none 0 0].toArray 35)) s (.cells [Value.slice none 0 0, .slice none 0 0].toArray 35)) (by simp) rfl rfl
  simp (disch := omega) only [exW, exX, exV, exB, e1, List.drop_nil]
  refine w_for (fun (k : Nat) e h' => k ≤ xs.length ∧ Ext h h' ∧ (∃ v1 v2, OwnI h h' v1 (xs.take k) ∧ OwnI h h' v2 (List.replicate k 0) ∧ (vb v2 = none ∨ vb v1 ≠ vb v2) ∧ vb v1 ≠ some s ∧ vb v2 ≠ some s ∧ vb v1 ≠ some r0 ∧ vb v2 ≠ some r0 ∧ h' s = some (.cells [v1, v2].toArray 35) ∧ h' r0 = some (.cells [Value.slice none 0 0, .slice none 0 0].toArray 35)) ∧ ∃ d4 d5 d6 d7, e = [v, .pointer (some ⟨r0, 0, none⟩), .int .i64 k, .pointer (some ⟨s, 0, none⟩), d4, d5, d6, d7]) (fun k => xs.length - k) 0 ⟨by omega, ?_, ⟨.slice none 0 0, .slice none 0 0, OwnI.nil _ _, OwnI.nil _ _, .inl rfl, by simp, by simp, by simp, by simp, ?_, ?_⟩, _, _, _, _, rfl⟩ ?_
  · intro k p hk
    have n1 := ne_of hk hs0
    have n2 := ne_of hk hr0
    rw [upd_ne _ _ n1, upd_ne _ _ n1, upd_ne _ _ n2]; exact hk
  · rw [upd_same]
  · rw [upd_ne _ _ (Ne.symm hsr), upd_ne _ _ (Ne.symm hsr), upd_same]
  rintro k _ h1 ⟨hk, x1, ⟨v1, v2, o1, o2, ap, a1, a2, a3, a4, hs1, hr1⟩, d4, d5, d6, d7, rfl⟩
  have hlen := hv.len
  have f0 := ld1_blk (o := 0) hs1 (by simp)
  have f1 := ld1_blk (o := 1) hs1 (by simp)
  by_cases hlt : k < xs.length
  · have hld := (hv.ext x1).ld hlt
    simp (disch := omega) only [exW, exX, exV, exB, Nat.zero_add, Nat.add_zero, hlen, f0, f1, hld]
    intro b hb
    refine OwnI.app1 (y := xs.getD k 0) o1 ?_ rfl (Nat.le_refl 1) hb (by simp; omega) x1 ?_
    · have := ld1_blk (o := 0) (upd_get (o := ia 3 [xs.getD k 0]) hs1 hb) (by simp)
      simp (disch := omega) only [exW, exX, exV, Nat.zero_add, Nat.add_zero, this]
    intro w1 h2 q1 q2 q3 q4
    have hs2 := q3 _ _ hs1 a1
    have hr2 := q3 _ _ hr1 a3
    have p2 := o2.frm q3 ap
    have b1 := vb_new q4 hs1 a1
    have b3 := vb_new q4 hr1 a3
    have ap' := vb_apart q4 o2 ap
    have g1 := st1_blk (o := 0) hs2 (by simp) q1.one
    have hs3 := upd_same h2 s (.cells ([v1, v2].set 0 w1).toArray 35)
    have f3 := ld1_blk (o := 1) hs3 (by simp)
    have x3 := ext_out q2 hs0 (.cells ([v1, v2].set 0 w1).toArray 35)
    simp (disch := omega) only [exW, exX, exV, exB, Nat.zero_add, Nat.add_zero, g1] at f3 hs3 x3 ⊢
    simp (disch := omega) only [exW, exX, exV, exB, Nat.zero_add, Nat.add_zero, f3]
    intro c hc
    refine OwnI.app1 (y := 0) (p2.upd a2 _) ?_ rfl (Nat.le_refl 1) hc (by simp; omega) x3 ?_
    · have := ld1_blk (o := 1) (upd_get (o := ia 3 [0]) hs3 hc) (by simp)
      simp (disch := omega) only [exW, exX, exV, Nat.zero_add, Nat.add_zero, this]
    intro w2 h4 t1 t2 t3 t4
    have hs4 := t3 _ _ hs3 a2
    have hr4 := t3 _ _ (show upd h2 s (.cells #[w1, v2] 35) r0 = some _ by rw [upd_ne _ _ (Ne.symm hsr)]; exact hr2) a4
    have s1 := (q1.upd b1 (.cells #[w1, v2] 35)).frm t3 (apart_symm ap')
    have c2 := vb_new t4 hs3 a2
    have c4 := vb_new t4 (show upd h2 s (.cells #[w1, v2] 35) r0 = some _ by rw [upd_ne _ _ (Ne.symm hsr)]; exact hr2) a4
    have ap2 := vb_apart t4 (q1.upd b1 (.cells #[w1, v2] 35)) (apart_symm ap')
    have g2 := st1_blk (o := 1) hs4 (by simp) t1.one
    simp (disch := omega) only [exW, exX, exV, exB, Nat.zero_add, Nat.add_zero, g2]
    refine ⟨k + 1, ⟨by omega, ext_out t2 hs0 _, ⟨w1, w2, ?_, ?_, apart_symm ap2, b1, c2, b3, c4, upd_same _ _ _, ?_⟩, ?_⟩, by omega⟩
    · rw [take_succ_getD hlt]; exact s1.upd b1 _
    · have := t1.upd c2 (.cells #[w1, w2] 35)
      rw [← List.replicate_succ'] at this
      exact this
    · rw [upd_ne _ _ (Ne.symm hsr)]; exact hr4
    · exact ⟨_, _, _, _, rfl⟩
  · have hkn : k = xs.length := by omega
    subst hkn
    have g1 := lda_blk (o := 0) (n := 2) hs1 (by simp)
    have g2 := stn_blk (n := 0 + 2) (o := 0) (cs := [v1, v2]) hr1 (by simp) rfl (by simp [o1.one, o2.one])
    have g3 := lda_blk (o := 0) (n := 2) (upd_same h1 r0 (.cells [v1, v2].toArray 35)) (by simp)
    simp (disch := omega) only [exW, exX, exV, exB, Nat.zero_add, Nat.add_zero, hlen, g1, List.drop_nil, List.append_nil, f_ref11_Start] at g2 g3 ⊢
    simp (disch := omega) only [exW, exX, exV, exB, Nat.zero_add, Nat.add_zero, g2, g3]
    rw [List.take_length] at o1
    exact ⟨ext_out x1 hr0 _, v1, v2, rfl, o1.upd a3 _, o2.upd a4 _, ap⟩
end Go.Proofs.Ytnpbnlafaoldcaa
