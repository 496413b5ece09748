/- Rows of numbers in memory of one's own. Plain definitions and lemmas; no statement is claimed here. -/
import Derived.Test.YtggnafgbjnemoaaFns
import Derived.Test.YtggnafgbjnemoaaVn
namespace Go.Proofs.Ytggnafgbjnemoaa
open Go Go.Lft
set_option linter.unusedSimpArgs false
set_option linter.unusedVariables false

/-- k rows of n numbers. -/
def mtx (k n : Nat) (f : Nat → Nat → Int) : List (List Int) := (List.range k).map fun o => (List.range n).map fun i => f o i
theorem mtx_len (k n : Nat) (f : Nat → Nat → Int) : (mtx k n f).length = k := by simp [mtx]
theorem mtx_get (k n : Nat) (f : Nat → Nat → Int) (o : Nat) (h : o < k) : (mtx k n f).getD o [] = (List.range n).map fun i => f o i := by
  simp [mtx, List.getD_eq_getElem?_getD, h]
theorem mtx_row (n : Nat) (g : Nat → Int) (i : Nat) (h : i < n) : ((List.range n).map g).getD i 0 = g i := by simp [List.getD_eq_getElem?_getD, h]
theorem mtx_rl (n : Nat) (g : Nat → Int) : ((List.range n).map g).length = n := by simp
theorem mtx_ext {k n : Nat} {f g : Nat → Nat → Int} (h : ∀ o i, o < k → i < n → f o i = g o i) : mtx k n f = mtx k n g := by
  unfold mtx
  refine List.map_congr_left fun o ho => List.map_congr_left fun i hi => h o i (by simpa using ho) (by simpa using hi)
theorem mtx_set {k n : Nat} (f : Nat → Nat → Int) (o i : Nat) (v : Int) (ho : o < k) (hi : i < n) : (mtx k n f).set o (((List.range n).map fun i => f o i).set i v) = mtx k n fun a b => if a = o ∧ b = i then v else f a b := by
  refine List.ext_getElem (by simp [mtx]) fun a h1 h2 => ?_
  simp only [mtx, List.getElem_set, List.getElem_map, List.getElem_range]
  by_cases h : o = a
  · subst h
    rw [if_pos rfl]
    refine List.ext_getElem (by simp) fun b h3 h4 => ?_
    simp only [List.getElem_set, List.getElem_map, List.getElem_range, true_and]
    by_cases hb : i = b
    · subst hb; simp
    · rw [if_neg hb, if_neg (fun h => hb h.symm)]
  · rw [if_neg h]
    refine List.map_congr_left fun b _ => ?_
    rw [if_neg (fun hh => h hh.1.symm)]
theorem mtx_zero (k n : Nat) : mtx k n (fun _ _ => 0) ++ [List.replicate n 0] = mtx (k + 1) n fun _ _ => 0 := by
  simp only [mtx, List.range_succ, List.map_append, List.map_cons, List.map_nil]
  congr 2
  rw [List.map_const', List.length_range]
theorem mtx_z0 (n : Nat) (f : Nat → Nat → Int) : mtx 0 n f = [] := rfl

def rowB (M : List (List Int)) : List Blk := M.map fun l => ⟨0, ints l⟩
/-- Where the rows lie. -/
def ptrA (k n : Nat) : List A := (List.range k).map fun o => .sl (o + 2) 0 1 0 n
theorem ptr_len (k n : Nat) : (ptrA k n).length = k := by simp [ptrA]
theorem ptr_nth (k n o : Nat) (h : o < k) : nthA (ptrA k n) o = some (.sl (o + 2) 0 1 0 n) := by simp [nthA_get, ptrA, h]
theorem ptr_app (k n : Nat) : ptrA k n ++ [.sl (k + 2) 0 1 0 n] = ptrA (k + 1) n := by simp [ptrA, List.range_succ]
theorem bdL_mem {n : Nat} : ∀ {l : List A}, (∀ a ∈ l, A.bd n a = true) → A.bdL n l = true
  | [], _ => rfl
  | a :: l, h => by
    simp only [A.bdL, Bool.and_eq_true]
    exact ⟨h a (by simp), bdL_mem fun b hb => h b (by simp [hb])⟩
theorem ptr_bd (k n m : Nat) (h : k + 2 ≤ m) : A.bdL m (ptrA k n) = true := by
  refine bdL_mem fun a ha => ?_
  obtain ⟨o, ho, rfl⟩ := List.mem_map.1 ha
  have : o < k := by simpa using ho
  simp only [A.bd, decide_eq_true_eq]; omega
theorem row_spl (n : Nat) (g : Nat → Int) (x : Nat) (y : Int) (h : x < n) : splA (ints ((List.range n).map g)) x [.v (.int .i64 y)] = ints (((List.range n).map g).set x y) := ii_spl _ _ _ (by simpa using h)
/-- Two things, and the rows. -/
def hm (b : List A) (v : Nat) (p : List A) (M : List (List Int)) : List Blk := ⟨0, b⟩ :: ⟨v, p⟩ :: rowB M
theorem hm_of (b : List A) (v : Nat) (p : List A) : [(⟨0, b⟩ : Blk), ⟨v, p⟩] = hm b v p [] := rfl
theorem hm_len (b : List A) (v : Nat) (p : List A) (M : List (List Int)) : (hm b v p M).length = M.length + 2 := by simp [hm, rowB]
theorem hm_b (b : List A) (v : Nat) (p : List A) (M : List (List Int)) : blkAt (hm b v p M) 0 0 = some b := by simp [hm, blkAt]
theorem hm_p (b : List A) (v : Nat) (p : List A) (M : List (List Int)) : blkAt (hm b v p M) 1 v = some p := by simp [hm, blkAt]
theorem rowB_at : ∀ (M : List (List Int)) (o : Nat), o < M.length → blkAt (rowB M) o 0 = some (ints (M.getD o []))
  | [], o, h => by simp at h
  | l :: M, 0, _ => by simp [rowB, blkAt]
  | l :: M, o + 1, h => by
    have := rowB_at M o (by simpa using h)
    simpa [rowB, blkAt] using this
theorem hm_r (b : List A) (v : Nat) (p : List A) (M : List (List Int)) (o : Nat) (h : o < M.length) : blkAt (hm b v p M) (o + 2) 0 = some (ints (M.getD o [])) := by
  exact rowB_at M o h
theorem hm_rm (b : List A) (v : Nat) (p : List A) (k n : Nat) (f : Nat → Nat → Int) (o : Nat) (h : o < k) : blkAt (hm b v p (mtx k n f)) (o + 2) 0 = some (ints ((List.range n).map fun i => f o i)) := by
  rw [hm_r _ _ _ _ _ (by rw [mtx_len]; exact h), mtx_get _ _ _ _ h]
theorem hm_sp (b : List A) (v v' : Nat) (p q : List A) (M : List (List Int)) : (hm b v p M).set 1 ⟨v', q⟩ = hm b v' q M := rfl
theorem hm_sr (b : List A) (v : Nat) (p : List A) (M : List (List Int)) (o : Nat) (l : List Int) : (hm b v p M).set (o + 2) ⟨0, ints l⟩ = hm b v p (M.set o l) := by
  simp [hm, rowB, List.map_set]
theorem hm_app (b : List A) (v : Nat) (p : List A) (M : List (List Int)) (l : List Int) : hm b v p M ++ [⟨0, ints l⟩] = hm b v p (M ++ [l]) := by simp [hm, rowB]
theorem hm_ok {b : List A} {v : Nat} {p : List A} {M : List (List Int)} {n : Nat} (h1 : A.bdL n b = true) (h2 : A.bdL n p = true) : okB n (hm b v p M) := by
  intro B hB
  rcases List.mem_cons.1 hB with rfl | hB
  · exact h1
  rcases List.mem_cons.1 hB with rfl | hB
  · exact h2
  obtain ⟨l, _, rfl⟩ := List.mem_map.1 hB
  exact ii_bd n l

/-- The same before all is there. -/
def padA (j k n : Nat) : List A := ptrA j n ++ List.replicate (k - j) (.v (.slice none 0 0))
theorem pad_len (j k n : Nat) (h : j ≤ k) : (padA j k n).length = k := by simp [padA, ptr_len]; omega
theorem pad_zero (k n : Nat) : List.replicate k (A.v (.slice none 0 0)) = padA 0 k n := by simp [padA, ptrA]
theorem pad_all (k n : Nat) : padA k k n = ptrA k n := by simp [padA]
theorem spl_mid (p r : List A) (a b : A) : splA (p ++ a :: r) p.length [b] = p ++ [b] ++ r := by
  induction p with
  | nil => rfl
  | cons c p ih => simp only [List.cons_append, List.length_cons, spl_succ]; rw [ih]
theorem pad_spl (j k n : Nat) (h : j < k) : splA (padA j k n) j [.sl (j + 2) 0 1 0 n] = padA (j + 1) k n := by
  have := spl_mid (ptrA j n) (List.replicate (k - (j + 1)) (.v (.slice none 0 0))) (.v (.slice none 0 0)) (.sl (j + 2) 0 1 0 n)
  rw [ptr_len, ptr_app, ← List.replicate_succ, show k - (j + 1) + 1 = k - j by omega] at this
  exact this
theorem pad_bd (j k n m : Nat) (h : j + 2 ≤ m) : A.bdL m (padA j k n) = true := by
  refine bdL_mem fun a ha => ?_
  rcases List.mem_append.1 ha with h1 | h1
  · obtain ⟨o, ho, rfl⟩ := List.mem_map.1 h1
    have : o < j := by simpa using ho
    simp only [A.bd, decide_eq_true_eq]; omega
  · rw [(List.mem_replicate.1 h1).2]; rfl
theorem pad_nth (j k n o : Nat) (h : o < j) : nthA (padA j k n) o = some (.sl (o + 2) 0 1 0 n) := by
  rw [nthA_get, padA, List.getElem?_append_left (by rw [ptr_len]; exact h), ← nthA_get, ptr_nth _ _ _ h]

theorem aQ :
    (∀ (j k n : Nat) (h : j ≤ k), (padA j k n).length = k) ∧
    (∀ (j k n : Nat) (h : j < k), splA (padA j k n) j [.sl (j + 2) 0 1 0 n] = padA (j + 1) k n) ∧
    (∀ (k n : Nat) (f : Nat → Nat → Int), (mtx k n f).length = k) ∧
    (∀ (k n : Nat) (f : Nat → Nat → Int) (o : Nat) (h : o < k), (mtx k n f).getD o [] = (List.range n).map fun i => f o i) ∧
    (∀ (n : Nat) (g : Nat → Int) (i : Nat) (h : i < n), ((List.range n).map g).getD i 0 = g i) ∧
    (∀ (n : Nat) (g : Nat → Int), ((List.range n).map g).length = n) ∧
    (∀ (k n : Nat), (ptrA k n).length = k) ∧
    (∀ (k n o : Nat) (h : o < k), nthA (ptrA k n) o = some (.sl (o + 2) 0 1 0 n)) ∧
    (∀ (b : List A) (v : Nat) (p : List A) (M : List (List Int)), (hm b v p M).length = M.length + 2) ∧
    (∀ (b : List A) (v : Nat) (p : List A) (M : List (List Int)), blkAt (hm b v p M) 0 0 = some b) ∧
    (∀ (b : List A) (v : Nat) (p : List A) (M : List (List Int)), blkAt (hm b v p M) 1 v = some p) ∧
    (∀ (n : Nat) (g : Nat → Int) (x : Nat) (y : Int) (h : x < n), splA (ints ((List.range n).map g)) x [.v (.int .i64 y)] = ints (((List.range n).map g).set x y)) ∧
    (∀ (b : List A) (v : Nat) (p : List A) (k n : Nat) (f : Nat → Nat → Int) (o : Nat) (h : o < k), blkAt (hm b v p (mtx k n f)) (o + 2) 0 = some (ints ((List.range n).map fun i => f o i))) ∧
    (∀ (b : List A) (v v' : Nat) (p q : List A) (M : List (List Int)), (hm b v p M).set 1 ⟨v', q⟩ = hm b v' q M) ∧
    (∀ (b : List A) (v : Nat) (p : List A) (M : List (List Int)) (o : Nat) (l : List Int), (hm b v p M).set (o + 2) ⟨0, ints l⟩ = hm b v p (M.set o l)) ∧
    (∀ (b : List A) (v : Nat) (p : List A) (M : List (List Int)) (l : List Int), hm b v p M ++ [⟨0, ints l⟩] = hm b v p (M ++ [l])) :=
  ⟨@pad_len, @pad_spl, @mtx_len, @mtx_get, @mtx_row, @mtx_rl, @ptr_len, @ptr_nth, @hm_len, @hm_b, @hm_p, @row_spl, @hm_rm, @hm_sp, @hm_sr, @hm_app⟩

theorem cut_hm {n0 : Nat} {e e' : List A} {b b' : List A} {v : Nat} {p : List A} {M : List (List Int)} (hn : n0 ≤ M.length + 2) (hb : FzL (M.length + 2) (hm b v p M) b b') (hp : A.bdL (M.length + 2) p = true) (he : FzL (M.length + 2) (hm b v p M) e e') : Cut n0 e (hm b v p M) e' (hm b' v p M) := by
  refine Cut.of hn (hm_len _ _ _ _) (fun i B' h => ?_) he
  match i with
  | 0 => cases h; exact ⟨⟨0, b⟩, rfl, rfl, hb⟩
  | 1 => cases h; exact ⟨⟨v, p⟩, rfl, rfl, FzL.refl hp⟩
  | i + 2 =>
    refine ⟨B', h, rfl, FzL.refl ?_⟩
    obtain ⟨l, _, rfl⟩ := List.mem_map.1 (List.mem_of_getElem? (l := rowB M) h)
    exact ii_bd _ l
/-- The rows, as what they show. -/
theorem fz_ptr {m : Nat} {b : List A} {v : Nat} {p : List A} {M : List (List Int)} {k n : Nat} (hm2 : m ≤ 2) (hk : M.length = k) (hn : ∀ l ∈ M, l.length = n) : FzL m (hm b v p M) (ptrA k n) (rows true M) := by
  have z : ∀ j, j ≤ k → FzL m (hm b v p M) (ptrA j n) (rows true (M.take j)) := by
    intro j
    induction j with
    | zero => intro _; exact trivial
    | succ j ih =>
      intro hj
      rw [← ptr_app, List.take_succ_eq_append_getElem (by omega), ← r_app1]
      refine FzL.cat (ih (by omega)) ⟨?_, trivial⟩
      have he : M.getD j [] = M[j]'(by omega) := by simp [List.getD_eq_getElem?_getD, show j < M.length by omega]
      exact fz_slI m _ (j + 2) 0 n _ (by omega) (hn _ (List.getElem_mem _)).symm (by rw [hm_r _ _ _ _ _ (by omega), he])
  have := z k (Nat.le_refl _)
  rwa [List.take_of_length_le (by omega)] at this
theorem ld_ptr {b : List A} {v : Nat} {p : List A} {M : List (List Int)} {k n : Nat} (hk : M.length = k) (hn : ∀ l ∈ M, l.length = n) : LdL (hm b v p M) (ptrA k n) (rows false M) := by
  have z : ∀ j, j ≤ k → LdL (hm b v p M) (ptrA j n) (rows false (M.take j)) := by
    intro j
    induction j with
    | zero => intro _; exact trivial
    | succ j ih =>
      intro hj
      rw [← ptr_app, List.take_succ_eq_append_getElem (by omega), ← r_app1]
      refine LdL.cat (ih (by omega)) ⟨?_, trivial⟩
      have he : M.getD j [] = M[j]'(by omega) := by simp [List.getD_eq_getElem?_getD, show j < M.length by omega]
      exact ld_slI _ (j + 2) 0 n _ (hn _ (List.getElem_mem _)).symm (by rw [hm_r _ _ _ _ _ (by omega), he])
  have := z k (Nat.le_refl _)
  rwa [List.take_of_length_le (by omega)] at this
theorem fz_mtx {b : List A} {v : Nat} {M : List (List Int)} {k n : Nat} (hk : M.length = k) (hn : ∀ l ∈ M, l.length = n) : Fz 0 (hm b v (ptrA k n) M) (.sl 1 v 1 0 k) (.fs true (rows true M)) := by
  subst hk
  refine Fz.sl (Nat.zero_le _) (hm_p _ _ _ _) (fz_ptr (by omega) rfl hn) ?_ (r_len _ _) (by rw [r_len]; omega)
  rw [List.drop_zero, Nat.mul_one, ← r_len true M, List.take_length]; exact r_flat _ _
theorem fz_mtxV {b : List A} {v : Nat} {M : List (List Int)} {k n : Nat} (hk : M.length = k) (hn : ∀ l ∈ M, l.length = n) : Fz 0 (hm b v (ptrA k n) M) (.vs 1 v 1 k) (.fs true (rows true M)) := by
  subst hk
  refine Fz.vs (Nat.zero_le _) (hm_p _ _ _ _) (fz_ptr (by omega) rfl hn) ?_ (r_len _ _) (by rw [r_len]; omega)
  rw [Nat.mul_one, ← r_len true M, List.take_length]; exact r_flat _ _
theorem mtx_rows {k n : Nat} {f : Nat → Nat → Int} : ∀ l ∈ mtx k n f, l.length = n := by
  intro l hl
  obtain ⟨o, _, rfl⟩ := List.mem_map.1 hl
  simp
end Go.Proofs.Ytggnafgbjnemoaa
