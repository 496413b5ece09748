/- Memory that is not known in full: what lies at a place after a change elsewhere. Plain lemmas; no statement is claimed here. -/
import Derived.Test.YtjhdedifmhkhbaaVi
namespace Go.Lft
open Go
set_option linter.unusedVariables false
set_option linter.unusedSimpArgs false

theorem blkAt_lt {H : List Blk} {i ver : Nat} {l : List A} (h : blkAt H i ver = some l) : i < H.length := by
  obtain ⟨B, h1, _⟩ := blkAt_iff.1 h; exact (List.getElem?_eq_some_iff.1 h1).1
theorem blkAt_set_ne (H : List Blk) (i j ver : Nat) (B : Blk) (h : i ≠ j) : blkAt (H.set j B) i ver = blkAt H i ver := by
  induction H generalizing i j with
  | nil => rfl
  | cons C r ih =>
    cases j with
    | zero => cases i with
      | zero => omega
      | succ i => rfl
    | succ j => cases i with
      | zero => rfl
      | succ i => exact ih i j (by omega)
theorem blkAt_set_same (H : List Blk) (j ver : Nat) (l : List A) (h : j < H.length) : blkAt (H.set j ⟨ver, l⟩) j ver = some l := by
  induction H generalizing j with
  | nil => simp at h
  | cons C r ih =>
    cases j with
    | zero => simp [blkAt]
    | succ j => exact ih j (by simpa using h)
theorem blkAt_app (H l : List Blk) (i ver : Nat) (h : i < H.length) : blkAt (H ++ l) i ver = blkAt H i ver := by
  induction H generalizing i with
  | nil => simp at h
  | cons C r ih =>
    cases i with
    | zero => rfl
    | succ i => exact ih i (by simpa using h)
theorem blkAt_new (H l : List Blk) (k ver : Nat) : blkAt (H ++ l) (H.length + k) ver = blkAt l k ver := by
  induction H with
  | nil => simp
  | cons C r ih => rw [List.cons_append, List.length_cons, show r.length + 1 + k = (r.length + k) + 1 by omega]; exact ih
theorem blkAt_new0 (H l : List Blk) (ver : Nat) : blkAt (H ++ l) H.length ver = blkAt l 0 ver := blkAt_new H l 0 ver
theorem setB_set (H : List Blk) (j : Nat) (B C : Blk) : (H.set j B).set j C = H.set j C := List.set_set _
theorem lenB_set (H : List Blk) (j : Nat) (B : Blk) : (H.set j B).length = H.length := List.length_set
theorem lenB_app (H l : List Blk) : (H ++ l).length = H.length + l.length := List.length_append
theorem setB_app (H l : List Blk) (i : Nat) (B : Blk) (h : i < H.length) : (H ++ l).set i B = H.set i B ++ l := List.set_append_left _ _ h
theorem setB_new (H l : List Blk) (k : Nat) (B : Blk) : (H ++ l).set (H.length + k) B = H ++ l.set k B := by
  rw [List.set_append_right _ _ (by omega)]; congr 2; omega
theorem setB_new0 (H l : List Blk) (B : Blk) : (H ++ l).set H.length B = H ++ l.set 0 B := setB_new H l 0 B
theorem appB_app (H l m : List Blk) : (H ++ l) ++ m = H ++ (l ++ m) := List.append_assoc _ _ _

/-- All cells name blocks below n. -/
def okB (n : Nat) (H : List Blk) : Prop := ∀ B ∈ H, A.bdL n B.cells = true
theorem okB.set {n : Nat} {H : List Blk} (h : okB n H) {j ver : Nat} {l : List A} (hl : A.bdL n l = true) : okB n (H.set j ⟨ver, l⟩) := fun B hB => by
  rcases List.mem_or_eq_of_mem_set hB with h1 | rfl
  · exact h B h1
  · exact hl
theorem okB.app {n : Nat} {H l : List Blk} (h : okB n H) (hl : okB n l) : okB n (H ++ l) := fun B hB => by
  rcases List.mem_append.1 hB with h1 | h1
  · exact h B h1
  · exact hl B h1
mutual
theorem A.bd_up {m n : Nat} (hmn : m ≤ n) : ∀ (a : A), a.bd m = true → a.bd n = true
  | .any, _ => rfl
  | .v _, _ => rfl
  | .agg l, h => bdL_up hmn l h
  | .tup l, h => bdL_up hmn l h
  | .fn _ l, h => bdL_up hmn l h
  | .fs _ l, h => bdL_up hmn l h
  | .fp _ l, h => bdL_up hmn l h
  | .sl i _ _ _ _, h => by simp only [A.bd, decide_eq_true_eq] at h ⊢; omega
  | .lp i _ _, h => by simp only [A.bd, decide_eq_true_eq] at h ⊢; omega
  | .vs i _ _ _, h => by simp only [A.bd, decide_eq_true_eq] at h ⊢; omega
theorem bdL_up {m n : Nat} (hmn : m ≤ n) : ∀ (l : List A), A.bdL m l = true → A.bdL n l = true
  | [], _ => rfl
  | a :: l, h => by
    simp only [A.bdL, Bool.and_eq_true] at h ⊢
    exact ⟨A.bd_up hmn a h.1, bdL_up hmn l h.2⟩
end
theorem okB.up {m n : Nat} {H : List Blk} (h : okB m H) (hmn : m ≤ n) : okB n H := fun B hB => bdL_up hmn _ (h B hB)
/-- What was made besides is dropped. -/
theorem Cut.app {n0 : Nat} {e e' : List A} {H T : List Blk} (hn : n0 ≤ H.length) (hb : okB H.length H) (he : FzL H.length (H ++ T) e e') : Cut n0 e (H ++ T) e' H :=
  Cut.of hn rfl (fun i B' h => ⟨B', by rw [List.getElem?_append_left (List.getElem?_eq_some_iff.1 h).1]; exact h, rfl, FzL.refl (hb B' (List.mem_of_getElem? h))⟩) he
/-- The same where the memory stays; what is named may be forgotten. -/
theorem Cut.same {n0 : Nat} {e e' : List A} {H : List Blk} (hn : n0 ≤ H.length) (hb : okB H.length H) (he : FzL H.length H e e') : Cut n0 e H e' H := by
  have := Cut.app (T := []) hn hb (by simpa using he)
  simpa using this
/-- The end of a function that turns memory of its caller's. -/
theorem post1 {n0 : Nat} {H T : List Blk} {R : A → List Blk → Prop} {l : List A} {r : A} (hn : n0 ≤ H.length) (hb : okB H.length H) (hf : Fz H.length (H ++ T) (retA l) r) (h : R r H) : apost n0 (H ++ T) R l :=
  ⟨r, H, Cut.app hn hb ⟨hf, trivial⟩, h⟩
theorem post2 {n0 : Nat} {H : List Blk} {R : A → List Blk → Prop} {l : List A} (h : R (retA l) H) : apost n0 H R l := ⟨_, H, Cut.refl _ _ _, h⟩

theorem pc_get (l : List (Int × Int)) (j : Nat) (h : j < l.length) : ((pcells l).drop (j * 2)).take 2 = [.v (.int .i64 (l.getD j (0, 0)).1), .v (.int .i64 (l.getD j (0, 0)).2)] := by
  induction l generalizing j with
  | nil => simp at h
  | cons a r ih =>
    cases j with
    | zero => rfl
    | succ j => rw [show (j + 1) * 2 = j * 2 + 1 + 1 by omega]; exact ih j (by simpa using h)
theorem pc_get0 (l : List (Int × Int)) (h : 0 < l.length) : (pcells l).take 2 = [.v (.int .i64 (l.getD 0 (0, 0)).1), .v (.int .i64 (l.getD 0 (0, 0)).2)] := pc_get l 0 h
theorem pc_lda (l : List (Int × Int)) (j : Nat) (h : j < l.length) : ldac 2 (j * 2) (pcells l) = some (.agg [.v (.int .i64 (l.getD j (0, 0)).1), .v (.int .i64 (l.getD j (0, 0)).2)]) := by
  rw [ldac_eq, pc_get l j h]; exact ifo_pos _ _ (by rw [pc_len]; omega)
theorem pc_lda0 (l : List (Int × Int)) (h : 0 < l.length) : ldac 2 0 (pcells l) = some (.agg [.v (.int .i64 (l.getD 0 (0, 0)).1), .v (.int .i64 (l.getD 0 (0, 0)).2)]) := pc_lda l 0 h
theorem pc_nth (l : List (Int × Int)) (j : Nat) (h : j < l.length) : nthA (pcells l) (j * 2) = some (.v (.int .i64 (l.getD j (0, 0)).1)) := by
  have := congrArg (·[0]?) (pc_get l j h)
  simpa [nthA_get] using this
theorem pc_nth0 (l : List (Int × Int)) (h : 0 < l.length) : nthA (pcells l) 0 = some (.v (.int .i64 (l.getD 0 (0, 0)).1)) := pc_nth l 0 h
theorem pc_nth1 (l : List (Int × Int)) (j : Nat) (h : j < l.length) : nthA (pcells l) (j * 2 + 1) = some (.v (.int .i64 (l.getD j (0, 0)).2)) := by
  have := congrArg (·[1]?) (pc_get l j h)
  simpa [nthA_get] using this
theorem pc_spl (l : List (Int × Int)) (j : Nat) (x y : Int) (h : j < l.length) : splA (pcells l) (j * 2) [.v (.int .i64 x), .v (.int .i64 y)] = pcells (l.set j (x, y)) := by
  induction l generalizing j with
  | nil => simp at h
  | cons a r ih =>
    cases j with
    | zero => rfl
    | succ j =>
      rw [show (j + 1) * 2 = j * 2 + 1 + 1 by omega, show pcells (a :: r) = .v (.int .i64 a.1) :: .v (.int .i64 a.2) :: pcells r from rfl, spl_succ, spl_succ, ih j (by simpa using h)]; rfl
theorem pc_spl0 (l : List (Int × Int)) (x y : Int) (h : 0 < l.length) : splA (pcells l) 0 [.v (.int .i64 x), .v (.int .i64 y)] = pcells (l.set 0 (x, y)) := pc_spl l 0 x y h
theorem pc_take (l : List (Int × Int)) (n : Nat) : (pcells l).take (n * 2) = pcells (l.take n) := by
  induction l generalizing n with
  | nil => simp [pcells]
  | cons a r ih =>
    cases n with
    | zero => rfl
    | succ n => rw [show (n + 1) * 2 = n * 2 + 1 + 1 by omega, show pcells (a :: r) = .v (.int .i64 a.1) :: .v (.int .i64 a.2) :: pcells r from rfl, List.take_succ_cons, List.take_succ_cons, ih n]; rfl
theorem p_take (l : List (Int × Int)) (n : Nat) : (pairs l).take n = pairs (l.take n) := by simp [pairs, List.map_take]
/-- The front of a block of pairs, lent. -/
theorem ld_slPt (H : List Blk) (i ver : Nat) (n : Nat) (xs : List (Int × Int)) (hn : n ≤ xs.length) (hb : blkAt H i ver = some (pcells xs)) : Ld H (.sl i ver 2 0 n) (.fs false (pairs (xs.take n))) := by
  refine Ld.sl hb (LdL.refl (pc_bd 0 xs)) ?_ ?_ ?_
  · simp only [List.drop_zero]; rw [pc_take]; exact p_flat _
  · simp [p_len, hn]
  · simp [pc_len]; omega

theorem aH :
    (∀ (H : List Blk) (i j ver : Nat) (B : Blk) (h : i ≠ j), blkAt (H.set j B) i ver = blkAt H i ver) ∧
    (∀ (H : List Blk) (j ver : Nat) (l : List A) (h : j < H.length), blkAt (H.set j ⟨ver, l⟩) j ver = some l) ∧
    (∀ (H l : List Blk) (i ver : Nat) (h : i < H.length), blkAt (H ++ l) i ver = blkAt H i ver) ∧
    (∀ (H l : List Blk) (k ver : Nat), blkAt (H ++ l) (H.length + k) ver = blkAt l k ver) ∧
    (∀ (H l : List Blk) (ver : Nat), blkAt (H ++ l) H.length ver = blkAt l 0 ver) ∧
    (∀ (H : List Blk) (j : Nat) (B C : Blk), (H.set j B).set j C = H.set j C) ∧
    (∀ (H : List Blk) (j : Nat) (B : Blk), (H.set j B).length = H.length) ∧
    (∀ (H l : List Blk), (H ++ l).length = H.length + l.length) ∧
    (∀ (H l : List Blk) (i : Nat) (B : Blk) (h : i < H.length), (H ++ l).set i B = H.set i B ++ l) ∧
    (∀ (H l : List Blk) (k : Nat) (B : Blk), (H ++ l).set (H.length + k) B = H ++ l.set k B) ∧
    (∀ (H l : List Blk) (B : Blk), (H ++ l).set H.length B = H ++ l.set 0 B) ∧
    (∀ (H l m : List Blk), (H ++ l) ++ m = H ++ (l ++ m)) ∧
    (∀ (l : List (Int × Int)) (j : Nat) (h : j < l.length), ((pcells l).drop (j * 2)).take 2 = [.v (.int .i64 (l.getD j (0, 0)).1), .v (.int .i64 (l.getD j (0, 0)).2)]) ∧
    (∀ (l : List (Int × Int)) (h : 0 < l.length), (pcells l).take 2 = [.v (.int .i64 (l.getD 0 (0, 0)).1), .v (.int .i64 (l.getD 0 (0, 0)).2)]) ∧
    (∀ (l : List (Int × Int)) (j : Nat) (h : j < l.length), nthA (pcells l) (j * 2) = some (.v (.int .i64 (l.getD j (0, 0)).1))) ∧
    (∀ (l : List (Int × Int)) (h : 0 < l.length), nthA (pcells l) 0 = some (.v (.int .i64 (l.getD 0 (0, 0)).1))) ∧
    (∀ (l : List (Int × Int)) (j : Nat) (h : j < l.length), nthA (pcells l) (j * 2 + 1) = some (.v (.int .i64 (l.getD j (0, 0)).2))) ∧
    (∀ (l : List (Int × Int)) (j : Nat) (x y : Int) (h : j < l.length), splA (pcells l) (j * 2) [.v (.int .i64 x), .v (.int .i64 y)] = pcells (l.set j (x, y))) ∧
    (∀ (l : List (Int × Int)) (x y : Int) (h : 0 < l.length), splA (pcells l) 0 [.v (.int .i64 x), .v (.int .i64 y)] = pcells (l.set 0 (x, y))) ∧
    (∀ (l : List (Int × Int)) (n : Nat), (pcells l).take (n * 2) = pcells (l.take n)) :=
  ⟨@blkAt_set_ne, @blkAt_set_same, @blkAt_app, @blkAt_new, @blkAt_new0, @setB_set, @lenB_set, @lenB_app, @setB_app, @setB_new, @setB_new0, @appB_app, @pc_get, @pc_get0, @pc_nth, @pc_nth0, @pc_nth1, @pc_spl, @pc_spl0, @pc_take⟩
end Go.Lft
