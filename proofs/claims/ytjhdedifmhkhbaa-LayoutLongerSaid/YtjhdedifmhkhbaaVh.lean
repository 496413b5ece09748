/- Lists of numbers, of truth values, of pairs, as values without addresses. Plain lemmas; no statement is claimed here. -/
import Derived.Test.YtjhdedifmhkhbaaVg
namespace Go.Lft
open Go
set_option linter.unusedVariables false
set_option linter.unusedSimpArgs false

def ints (xs : List Int) : List A := xs.map fun n => .v (.int .i64 n)
def bools (xs : List Bool) : List A := xs.map fun n => .v (.bool n)

section
variable {α : Type} {f : α → A}
theorem map_nth (xs : List α) (k : Nat) (d : α) (h : k < xs.length) : nthA (xs.map f) k = some (f (xs.getD k d)) := by
  rw [nthA_get, List.getElem?_map]; simp [h]
theorem map_set (xs : List α) (k : Nat) (y : α) : (xs.map f).set k (f y) = (xs.set k y).map f := by rw [List.map_set]
theorem map_one (xs : List α) (h : ∀ x, (f x).one = true) : (xs.map f).all A.one = true := by
  rw [List.all_eq_true]; intro a ha; obtain ⟨x, _, rfl⟩ := List.mem_map.1 ha; exact h x
theorem map_bd (n : Nat) (xs : List α) (h : ∀ x, (f x).bd n = true) : A.bdL n (xs.map f) = true := bdL_iff.2 fun a ha => by
  obtain ⟨x, _, rfl⟩ := List.mem_map.1 ha; exact h x
theorem map_cl (xs : List α) (h : ∀ x, (f x).cl = true) : A.clL (xs.map f) = true := clL_iff.2 fun a ha => by
  obtain ⟨x, _, rfl⟩ := List.mem_map.1 ha; exact h x
theorem map_sz (n : Nat) (xs : List α) (cs : α → List A) (h : ∀ x, (f x).cells = some (cs x)) (hn : ∀ x, (cs x).length = n) : szB n (xs.map f) = true := by
  unfold szB; rw [List.all_eq_true]; intro a ha; obtain ⟨x, _, rfl⟩ := List.mem_map.1 ha; rw [h]; simp [hn]
theorem map_flat (n : Nat) (cs : α → List A) (h : ∀ x, (f x).cells = some (cs x)) (hn : ∀ x, (cs x).length = n) : ∀ (xs : List α), flatA n (xs.map f) = some (xs.flatMap cs)
  | [] => rfl
  | x :: r => by simp [flatA, h, hn, map_flat n cs h hn r]
theorem map_idx (n : Nat) (w : Bool) (xs : List α) (d : α) (kk : IntKind) (j : Int) (cs : α → List A) (h : ∀ x, (f x).cells = some (cs x)) (hn : ∀ x, (cs x).length = n) (h1 : 0 ≤ j) (h2 : j < xs.length) :
    idxA n (.fs w (xs.map f)) (.v (.int kk j)) = some (.fp w (cs (xs.getD j.toNat d))) := by
  simp only [idxA, List.length_map]
  rw [if_pos ⟨h1, h2⟩, map_nth xs _ d (by omega)]
  simp [h, hn]
end

theorem all_one_cells : ∀ {l : List A}, l.all A.one = true → flatA 1 l = some l
  | [], _ => rfl
  | a :: l, h => by
    simp only [List.all_cons, Bool.and_eq_true] at h
    have hc : a.cells = some [a] := by cases a <;> first | (cases h.1; done) | (simp only [A.cells]; rw [if_pos h.1])
    simp [flatA, hc, all_one_cells h.2]

theorem ii_len (xs : List Int) : (ints xs).length = xs.length := by simp [ints]
theorem ii_nth (xs : List Int) (k : Nat) (h : k < xs.length) : nthA (ints xs) k = some (.v (.int .i64 (xs.getD k 0))) := map_nth xs k 0 h
theorem ii_idx (w : Bool) (xs : List Int) (kk : IntKind) (j : Int) (h1 : 0 ≤ j) (h2 : j < xs.length) : idxA 1 (.fs w (ints xs)) (.v (.int kk j)) = some (.fp w [.v (.int .i64 (xs.getD j.toNat 0))]) :=
  map_idx 1 w xs 0 kk j (fun n => [.v (.int .i64 n)]) (fun _ => rfl) (fun _ => rfl) h1 h2
theorem ii_set (xs : List Int) (k : Nat) (y : Int) : (ints xs).set k (.v (.int .i64 y)) = ints (xs.set k y) := map_set xs k y
theorem ii_spl (xs : List Int) (k : Nat) (y : Int) (h : k < xs.length) : splA (ints xs) k [.v (.int .i64 y)] = ints (xs.set k y) := spl_setI (fun n => .v (.int .i64 n)) xs k y h
theorem ii_app1 (xs : List Int) (y : Int) : ints xs ++ [.v (.int .i64 y)] = ints (xs ++ [y]) := by simp [ints]
theorem ii_app (xs ys : List Int) : ints xs ++ ints ys = ints (xs ++ ys) := by simp [ints]
theorem ii_nil : ints [] = [] := rfl
theorem ii_rep (n : Nat) (y : Int) : List.replicate n (A.v (.int .i64 y)) = ints (List.replicate n y) := by simp [ints]
theorem ii_take (n : Nat) (xs : List Int) : (ints xs).take n = ints (xs.take n) := by simp [ints, List.map_take]
theorem ii_drop (n : Nat) (xs : List Int) : (ints xs).drop n = ints (xs.drop n) := by simp [ints, List.map_drop]
theorem ii_one (xs : List Int) : (ints xs).all A.one = true := map_one xs fun _ => rfl
theorem ii_bd (n : Nat) (xs : List Int) : A.bdL n (ints xs) = true := map_bd n xs fun _ => rfl
theorem ii_cl (xs : List Int) : A.clL (ints xs) = true := map_cl xs fun _ => rfl
theorem ii_sz (xs : List Int) : szB 1 (ints xs) = true := map_sz 1 xs (fun n => [.v (.int .i64 n)]) (fun _ => rfl) (fun _ => rfl)
theorem ii_flat (xs : List Int) : flatA 1 (ints xs) = some (ints xs) := all_one_cells (ii_one xs)
theorem ii_new (H : List Blk) (w : Bool) (xs : List Int) : newsA H 1 (.fs w (ints xs)) = some (xs.length, ints xs) := by
  simp only [newsA, ii_flat, Option.bind_some, ii_one, if_true, ii_len]
theorem b_lenB (xs : List Bool) : (bools xs).length = xs.length := by simp [bools]
theorem b_nth (xs : List Bool) (k : Nat) (h : k < xs.length) : nthA (bools xs) k = some (.v (.bool (xs.getD k false))) := map_nth xs k false h
theorem b_idx (w : Bool) (xs : List Bool) (kk : IntKind) (j : Int) (h1 : 0 ≤ j) (h2 : j < xs.length) : idxA 1 (.fs w (bools xs)) (.v (.int kk j)) = some (.fp w [.v (.bool (xs.getD j.toNat false))]) :=
  map_idx 1 w xs false kk j (fun n => [.v (.bool n)]) (fun _ => rfl) (fun _ => rfl) h1 h2
theorem b_set (xs : List Bool) (k : Nat) (y : Bool) : (bools xs).set k (.v (.bool y)) = bools (xs.set k y) := map_set xs k y
theorem b_spl (xs : List Bool) (k : Nat) (y : Bool) (h : k < xs.length) : splA (bools xs) k [.v (.bool y)] = bools (xs.set k y) := spl_setI (fun n => .v (.bool n)) xs k y h
theorem b_app1 (xs : List Bool) (y : Bool) : bools xs ++ [.v (.bool y)] = bools (xs ++ [y]) := by simp [bools]
theorem b_rep (n : Nat) (y : Bool) : List.replicate n (A.v (.bool y)) = bools (List.replicate n y) := by simp [bools]
theorem b_take (n : Nat) (xs : List Bool) : (bools xs).take n = bools (xs.take n) := by simp [bools, List.map_take]
theorem b_drop (n : Nat) (xs : List Bool) : (bools xs).drop n = bools (xs.drop n) := by simp [bools, List.map_drop]
theorem b_one (xs : List Bool) : (bools xs).all A.one = true := map_one xs fun _ => rfl
theorem b_bd (n : Nat) (xs : List Bool) : A.bdL n (bools xs) = true := map_bd n xs fun _ => rfl
theorem b_cl (xs : List Bool) : A.clL (bools xs) = true := map_cl xs fun _ => rfl
theorem b_flat (xs : List Bool) : flatA 1 (bools xs) = some (bools xs) := all_one_cells (b_one xs)

/-! ### Structs of numbers: pairs -/
def pairA (a : Int × Int) : A := .agg [.v (.int .i64 a.1), .v (.int .i64 a.2)]
def pairs (l : List (Int × Int)) : List A := l.map pairA
def pcells (l : List (Int × Int)) : List A := l.flatMap fun a => [.v (.int .i64 a.1), .v (.int .i64 a.2)]
theorem p_len (l : List (Int × Int)) : (pairs l).length = l.length := by simp [pairs]
theorem p_idx (w : Bool) (l : List (Int × Int)) (kk : IntKind) (j : Int) (h1 : 0 ≤ j) (h2 : j < l.length) : idxA 2 (.fs w (pairs l)) (.v (.int kk j)) = some (.fp w [.v (.int .i64 (l.getD j.toNat (0, 0)).1), .v (.int .i64 (l.getD j.toNat (0, 0)).2)]) :=
  map_idx 2 w l (0, 0) kk j (fun a => [.v (.int .i64 a.1), .v (.int .i64 a.2)]) (fun _ => rfl) (fun _ => rfl) h1 h2
theorem p_bd (n : Nat) (l : List (Int × Int)) : A.bdL n (pairs l) = true := map_bd n l fun _ => rfl
theorem p_cl (l : List (Int × Int)) : A.clL (pairs l) = true := map_cl l fun _ => rfl
theorem p_flat (l : List (Int × Int)) : flatA 2 (pairs l) = some (pcells l) := map_flat 2 _ (fun _ => rfl) (fun _ => rfl) l
theorem pc_len (l : List (Int × Int)) : (pcells l).length = l.length * 2 := by unfold pcells; induction l with
  | nil => rfl
  | cons a r ih => rw [List.flatMap_cons, List.length_append, ih]; simp; omega
theorem pc_one (l : List (Int × Int)) : (pcells l).all A.one = true := by unfold pcells; induction l with
  | nil => rfl
  | cons a r ih => rw [List.flatMap_cons, List.all_append, ih]; rfl
theorem pc_bd (n : Nat) (l : List (Int × Int)) : A.bdL n (pcells l) = true := by unfold pcells; induction l with
  | nil => rfl
  | cons a r ih => simp [List.flatMap_cons, A.bdL, A.bd]; simpa using ih
theorem pc_app (l m : List (Int × Int)) : pcells l ++ pcells m = pcells (l ++ m) := by simp [pcells]
theorem pc_app1 (l : List (Int × Int)) (x y : Int) : pcells l ++ [.v (.int .i64 x), .v (.int .i64 y)] = pcells (l ++ [(x, y)]) := by simp [pcells]
theorem pc_nil : pcells [] = [] := rfl
theorem p_new (H : List Blk) (w : Bool) (l : List (Int × Int)) : newsA H 2 (.fs w (pairs l)) = some (l.length, pcells l) := by
  simp only [newsA, p_flat, Option.bind_some, pc_one, if_true, p_len]

/-! ### Lists of lists of numbers -/
def rows (w : Bool) (l : List (List Int)) : List A := l.map fun r => .fs w (ints r)
theorem r_len (w : Bool) (l : List (List Int)) : (rows w l).length = l.length := by simp [rows]
theorem r_nth (w : Bool) (l : List (List Int)) (k : Nat) (h : k < l.length) : nthA (rows w l) k = some (.fs w (ints (l.getD k []))) := map_nth l k [] h
theorem r_idx (w v : Bool) (l : List (List Int)) (kk : IntKind) (j : Int) (h1 : 0 ≤ j) (h2 : j < l.length) : idxA 1 (.fs w (rows v l)) (.v (.int kk j)) = some (.fp w [.fs v (ints (l.getD j.toNat []))]) :=
  map_idx 1 w l [] kk j (fun r => [.fs v (ints r)]) (fun _ => rfl) (fun _ => rfl) h1 h2
theorem r_spl (w : Bool) (l : List (List Int)) (k : Nat) (r : List Int) (h : k < l.length) : splA (rows w l) k [.fs w (ints r)] = rows w (l.set k r) := spl_setI (fun r => .fs w (ints r)) l k r h
theorem r_app1 (w : Bool) (l : List (List Int)) (r : List Int) : rows w l ++ [.fs w (ints r)] = rows w (l ++ [r]) := by simp [rows]
theorem r_set (w : Bool) (l : List (List Int)) (k : Nat) (r : List Int) : (rows w l).set k (.fs w (ints r)) = rows w (l.set k r) := map_set l k r
theorem r_take (n : Nat) (w : Bool) (l : List (List Int)) : (rows w l).take n = rows w (l.take n) := by simp [rows, List.map_take]
theorem r_drop (n : Nat) (w : Bool) (l : List (List Int)) : (rows w l).drop n = rows w (l.drop n) := by simp [rows, List.map_drop]
theorem r_one (w : Bool) (l : List (List Int)) : (rows w l).all A.one = true := map_one l fun _ => rfl
theorem r_bd (n : Nat) (w : Bool) (l : List (List Int)) : A.bdL n (rows w l) = true := map_bd n l fun r => ii_bd n r
theorem r_cl (l : List (List Int)) : A.clL (rows true l) = true := map_cl l fun r => by simp [A.cl, ii_cl]
theorem r_sz (w : Bool) (l : List (List Int)) : szB 1 (rows w l) = true := map_sz 1 l (fun r => [.fs w (ints r)]) (fun _ => rfl) (fun _ => rfl)
theorem r_flat (w : Bool) (l : List (List Int)) : flatA 1 (rows w l) = some (rows w l) := all_one_cells (r_one w l)
theorem r_new (H : List Blk) (v w : Bool) (l : List (List Int)) : newsA H 1 (.fs v (rows w l)) = some (l.length, rows w l) := by
  simp only [newsA, r_flat, Option.bind_some, r_one, if_true, r_len]
theorem r_nil (w : Bool) : rows w [] = [] := rfl

theorem tkI_all (n : Nat) (xs : List Int) (h : xs.length ≤ n) : xs.take n = xs := List.take_of_length_le h
theorem tkB_all (n : Nat) (xs : List Bool) (h : xs.length ≤ n) : xs.take n = xs := List.take_of_length_le h
theorem tkR_all (n : Nat) (xs : List (List Int)) (h : xs.length ≤ n) : xs.take n = xs := List.take_of_length_le h
theorem tkPc (n : Nat) (l : List (Int × Int)) (h : n = l.length) : (pcells l).take (n * 2) = pcells l := by
  subst h; rw [← pc_len, List.take_length]
theorem drI_zero (xs : List Int) : xs.drop 0 = xs := rfl
theorem drB_zero (xs : List Bool) : xs.drop 0 = xs := rfl
theorem drR_zero (xs : List (List Int)) : xs.drop 0 = xs := rfl
theorem tk_lenI (xs : List Int) : xs.take xs.length = xs := List.take_length
theorem tk_lenB (xs : List Bool) : xs.take xs.length = xs := List.take_length
theorem tk_lenR (xs : List (List Int)) : xs.take xs.length = xs := List.take_length
theorem tk_lenA (xs : List A) : xs.take xs.length = xs := List.take_length
theorem st_lenI (xs : List Int) (k : Nat) (y : Int) : (xs.set k y).length = xs.length := List.length_set
theorem st_lenB (xs : List Bool) (k : Nat) (y : Bool) : (xs.set k y).length = xs.length := List.length_set
theorem st_lenR (xs : List (List Int)) (k : Nat) (y : List Int) : (xs.set k y).length = xs.length := List.length_set
theorem ap_lenI (xs : List Int) (y : Int) : (xs ++ [y]).length = xs.length + 1 := by simp
theorem ap_lenB (xs : List Bool) (y : Bool) : (xs ++ [y]).length = xs.length + 1 := by simp
theorem ap_lenP (xs : List (Int × Int)) (y : Int × Int) : (xs ++ [y]).length = xs.length + 1 := by simp
theorem ap_lenR (xs : List (List Int)) (y : List Int) : (xs ++ [y]).length = xs.length + 1 := by simp
theorem rp_lenI (n : Nat) (y : Int) : (List.replicate n y).length = n := List.length_replicate
theorem rp_lenB (n : Nat) (y : Bool) : (List.replicate n y).length = n := List.length_replicate

/-! ### Forgetting, freezing, lending: what is to be shown, piece by piece -/
theorem fz_any (m : Nat) (H : List Blk) (a : A) : Fz m H a .any = True := eq_true Fz.any
theorem fz_v (m : Nat) (H : List Blk) (x : Value) : Fz m H (.v x) (.v x) = True := eq_true (Fz.refl rfl)
theorem fz_fs (m : Nat) (H : List Blk) (w : Bool) (l : List A) (h : A.bdL m l = true) : Fz m H (.fs w l) (.fs w l) = True := eq_true (Fz.refl (by simpa [A.bd] using h))
theorem fz_fp (m : Nat) (H : List Blk) (w : Bool) (l : List A) (h : A.bdL m l = true) : Fz m H (.fp w l) (.fp w l) = True := eq_true (Fz.refl (by simpa [A.bd] using h))
theorem fz_sl (m : Nat) (H : List Blk) (i ver k o n : Nat) (h : i < m) : Fz m H (.sl i ver k o n) (.sl i ver k o n) = True := eq_true (Fz.refl (by simpa [A.bd] using h))
theorem fz_lp (m : Nat) (H : List Blk) (i ver o : Nat) (h : i < m) : Fz m H (.lp i ver o) (.lp i ver o) = True := eq_true (Fz.refl (by simpa [A.bd] using h))
theorem fz_vs (m : Nat) (H : List Blk) (i ver k n : Nat) (h : i < m) : Fz m H (.vs i ver k n) (.vs i ver k n) = True := eq_true (Fz.refl (by simpa [A.bd] using h))
theorem fz_agg (m : Nat) (H : List Blk) (l : List A) (h : A.bdL m l = true) : Fz m H (.agg l) (.agg l) = True := eq_true (Fz.refl (by simpa [A.bd] using h))
theorem fz_tup (m : Nat) (H : List Blk) (l : List A) (h : A.bdL m l = true) : Fz m H (.tup l) (.tup l) = True := eq_true (Fz.refl (by simpa [A.bd] using h))
theorem fz_fn (m : Nat) (H : List Blk) (f : Nat) (l : List A) (h : A.bdL m l = true) : Fz m H (.fn f l) (.fn f l) = True := eq_true (Fz.refl (by simpa [A.bd] using h))
theorem fzl_cons (m : Nat) (H : List Blk) (a b : A) (l r : List A) : FzL m H (a :: l) (b :: r) = (Fz m H a b ∧ FzL m H l r) := rfl
theorem fzl_nil (m : Nat) (H : List Blk) : FzL m H [] [] = True := rfl
theorem fzl_refl (m : Nat) (H : List Blk) (l : List A) (h : A.bdL m l = true) : FzL m H l l = True := eq_true (FzL.refl h)
theorem bdl_cons (n : Nat) (a : A) (l : List A) : A.bdL n (a :: l) = (a.bd n && A.bdL n l) := rfl
theorem bdl_nil (n : Nat) : A.bdL n [] = true := rfl
theorem bd_any (n : Nat) : A.bd n .any = true := rfl
theorem bd_v (n : Nat) (x : Value) : A.bd n (.v x) = true := rfl
theorem bd_fs (n : Nat) (w : Bool) (l : List A) : A.bd n (.fs w l) = A.bdL n l := rfl
theorem bd_fp (n : Nat) (w : Bool) (l : List A) : A.bd n (.fp w l) = A.bdL n l := rfl
theorem bd_agg (n : Nat) (l : List A) : A.bd n (.agg l) = A.bdL n l := rfl
theorem bd_tup (n : Nat) (l : List A) : A.bd n (.tup l) = A.bdL n l := rfl
theorem bd_fn (n f : Nat) (l : List A) : A.bd n (.fn f l) = A.bdL n l := rfl
theorem bd_sl (n i ver k o m : Nat) (h : i < n) : A.bd n (.sl i ver k o m) = true := by simpa [A.bd] using h
theorem bd_lp (n i ver o : Nat) (h : i < n) : A.bd n (.lp i ver o) = true := by simpa [A.bd] using h
theorem bd_vs (n i ver k m : Nat) (h : i < n) : A.bd n (.vs i ver k m) = true := by simpa [A.bd] using h
theorem cl_cons (a : A) (l : List A) : A.clL (a :: l) = (a.cl && A.clL l) := rfl
theorem cl_nil : A.clL [] = true := rfl
theorem cl_v (x : Value) : A.cl (.v x) = true := rfl
theorem cl_fs (w : Bool) (l : List A) : A.cl (.fs w l) = (w && A.clL l) := rfl
theorem cl_fp (w : Bool) (l : List A) : A.cl (.fp w l) = (w && A.clL l) := rfl
theorem cl_agg (l : List A) : A.cl (.agg l) = A.clL l := rfl
theorem cl_tup (l : List A) : A.cl (.tup l) = A.clL l := rfl
theorem cl_sl (i ver k o m : Nat) : A.cl (.sl i ver k o m) = true := rfl
theorem cl_vs (i ver k m : Nat) : A.cl (.vs i ver k m) = true := rfl
theorem cl_lp (i ver o : Nat) : A.cl (.lp i ver o) = true := rfl
/-- A slice of the function's own, frozen. -/
theorem fz_slI (m : Nat) (H : List Blk) (i ver : Nat) (n : Nat) (xs : List Int) (hi : m ≤ i) (hn : n = xs.length) (hb : blkAt H i ver = some (ints xs)) : Fz m H (.sl i ver 1 0 n) (.fs true (ints xs)) := by
  subst hn
  exact Fz.sl hi hb (FzL.refl (ii_bd m xs)) (by simp [ii_take, ii_flat, tk_lenI]) (ii_len xs) (by simp [ii_len])
theorem fz_slB (m : Nat) (H : List Blk) (i ver : Nat) (n : Nat) (xs : List Bool) (hi : m ≤ i) (hn : n = xs.length) (hb : blkAt H i ver = some (bools xs)) : Fz m H (.sl i ver 1 0 n) (.fs true (bools xs)) := by
  subst hn
  exact Fz.sl hi hb (FzL.refl (b_bd m xs)) (by simp [b_take, b_flat, tk_lenB]) (b_lenB xs) (by simp [b_lenB])
theorem fz_slP (m : Nat) (H : List Blk) (i ver : Nat) (n : Nat) (xs : List (Int × Int)) (hi : m ≤ i) (hn : n = xs.length) (hb : blkAt H i ver = some (pcells xs)) : Fz m H (.sl i ver 2 0 n) (.fs true (pairs xs)) := by
  subst hn
  exact Fz.sl hi hb (FzL.refl (pc_bd m xs)) (by simp only [List.drop_zero]; rw [← pc_len, List.take_length]; exact p_flat xs) (p_len xs) (by simp [pc_len])
theorem fz_slR (m : Nat) (H : List Blk) (i ver : Nat) (n : Nat) (xs : List (List Int)) (hi : m ≤ i) (hn : n = xs.length) (hb : blkAt H i ver = some (rows true xs)) : Fz m H (.sl i ver 1 0 n) (.fs true (rows true xs)) := by
  subst hn
  exact Fz.sl hi hb (FzL.refl (r_bd m true xs)) (by simp [r_take, r_flat, tk_lenR]) (r_len true xs) (by simp [r_len])
theorem fz_vsI (m : Nat) (H : List Blk) (i ver : Nat) (n : Nat) (xs : List Int) (hi : m ≤ i) (hn : n = xs.length) (hb : blkAt H i ver = some (ints xs)) : Fz m H (.vs i ver 1 n) (.fs true (ints xs)) := by
  subst hn
  exact Fz.vs hi hb (FzL.refl (ii_bd m xs)) (by simp [ii_take, ii_flat, tk_lenI]) (ii_len xs) (by simp [ii_len])
theorem fz_vsB (m : Nat) (H : List Blk) (i ver : Nat) (n : Nat) (xs : List Bool) (hi : m ≤ i) (hn : n = xs.length) (hb : blkAt H i ver = some (bools xs)) : Fz m H (.vs i ver 1 n) (.fs true (bools xs)) := by
  subst hn
  exact Fz.vs hi hb (FzL.refl (b_bd m xs)) (by simp [b_take, b_flat, tk_lenB]) (b_lenB xs) (by simp [b_lenB])
theorem fz_vsP (m : Nat) (H : List Blk) (i ver : Nat) (n : Nat) (xs : List (Int × Int)) (hi : m ≤ i) (hn : n = xs.length) (hb : blkAt H i ver = some (pcells xs)) : Fz m H (.vs i ver 2 n) (.fs true (pairs xs)) := by
  subst hn
  exact Fz.vs hi hb (FzL.refl (pc_bd m xs)) (by rw [← pc_len, List.take_length]; exact p_flat xs) (p_len xs) (by simp [pc_len])
theorem fz_vsR (m : Nat) (H : List Blk) (i ver : Nat) (n : Nat) (xs : List (List Int)) (hi : m ≤ i) (hn : n = xs.length) (hb : blkAt H i ver = some (rows true xs)) : Fz m H (.vs i ver 1 n) (.fs true (rows true xs)) := by
  subst hn
  exact Fz.vs hi hb (FzL.refl (r_bd m true xs)) (by simp [r_take, r_flat, tk_lenR]) (r_len true xs) (by simp [r_len])
theorem fz_nil (m : Nat) (H : List Blk) : Fz m H (.v (.slice none 0 0)) (.fs true []) := fun c v hH hs hr => by
  cases hr; exact .fs0 true none 0

theorem ld_any (H : List Blk) (a : A) : Ld H a .any = True := eq_true Ld.any
theorem ld_v (H : List Blk) (x : Value) : Ld H (.v x) (.v x) = True := eq_true (Ld.refl rfl)
theorem ld_fs (H : List Blk) (w : Bool) (l : List A) (h : A.bdL 0 l = true) : Ld H (.fs w l) (.fs false l) = True := eq_true (Ld.fs h)
theorem ld_fs' (H : List Blk) (w : Bool) (l : List A) (h : A.bdL 0 l = true) : Ld H (.fs w l) (.fs w l) = True := eq_true (Ld.refl (by simpa [A.bd] using h))
theorem ld_fpA (H : List Blk) (w : Bool) (l : List A) (h : A.bdL 0 l = true) : Ld H (.fp w l) (.fp false l) = True := eq_true (Ld.fp h)
theorem ld_fp' (H : List Blk) (w : Bool) (l : List A) (h : A.bdL 0 l = true) : Ld H (.fp w l) (.fp w l) = True := eq_true (Ld.refl (by simpa [A.bd] using h))
theorem ld_aggA (H : List Blk) (l r : List A) (h : LdL H l r) : Ld H (.agg l) (.agg r) = True := eq_true (Ld.agg h)
theorem ld_fnA (H : List Blk) (f : Nat) (l : List A) (h : A.bdL 0 l = true) : Ld H (.fn f l) (.fn f l) = True := eq_true (Ld.refl (by simpa [A.bd] using h))
theorem ldl_cons (H : List Blk) (a b : A) (l r : List A) : LdL H (a :: l) (b :: r) = (Ld H a b ∧ LdL H l r) := rfl
theorem ldl_nil (H : List Blk) : LdL H [] [] = True := rfl
theorem ld_slI (H : List Blk) (i ver : Nat) (n : Nat) (xs : List Int) (hn : n = xs.length) (hb : blkAt H i ver = some (ints xs)) : Ld H (.sl i ver 1 0 n) (.fs false (ints xs)) := by
  subst hn
  exact Ld.sl hb (LdL.refl (ii_bd 0 xs)) (by simp [ii_take, ii_flat, tk_lenI]) (ii_len xs) (by simp [ii_len])
theorem ld_slB (H : List Blk) (i ver : Nat) (n : Nat) (xs : List Bool) (hn : n = xs.length) (hb : blkAt H i ver = some (bools xs)) : Ld H (.sl i ver 1 0 n) (.fs false (bools xs)) := by
  subst hn
  exact Ld.sl hb (LdL.refl (b_bd 0 xs)) (by simp [b_take, b_flat, tk_lenB]) (b_lenB xs) (by simp [b_lenB])
theorem ld_slP (H : List Blk) (i ver : Nat) (n : Nat) (xs : List (Int × Int)) (hn : n = xs.length) (hb : blkAt H i ver = some (pcells xs)) : Ld H (.sl i ver 2 0 n) (.fs false (pairs xs)) := by
  subst hn
  exact Ld.sl hb (LdL.refl (pc_bd 0 xs)) (by simp only [List.drop_zero]; rw [← pc_len, List.take_length]; exact p_flat xs) (p_len xs) (by simp [pc_len])
theorem ld_slR (H : List Blk) (i ver : Nat) (n : Nat) (w : Bool) (xs : List (List Int)) (hn : n = xs.length) (hb : blkAt H i ver = some (rows w xs)) : Ld H (.sl i ver 1 0 n) (.fs false (rows w xs)) := by
  subst hn
  exact Ld.sl hb (LdL.refl (r_bd 0 w xs)) (by simp [r_take, r_flat, tk_lenR]) (r_len w xs) (by simp [r_len])
theorem ld_vsI (H : List Blk) (i ver : Nat) (n : Nat) (xs : List Int) (hn : n = xs.length) (hb : blkAt H i ver = some (ints xs)) : Ld H (.vs i ver 1 n) (.fs false (ints xs)) := by
  subst hn
  exact Ld.vs hb (LdL.refl (ii_bd 0 xs)) (by simp [ii_take, ii_flat, tk_lenI]) (ii_len xs) (by simp [ii_len])
theorem ld_vsB (H : List Blk) (i ver : Nat) (n : Nat) (xs : List Bool) (hn : n = xs.length) (hb : blkAt H i ver = some (bools xs)) : Ld H (.vs i ver 1 n) (.fs false (bools xs)) := by
  subst hn
  exact Ld.vs hb (LdL.refl (b_bd 0 xs)) (by simp [b_take, b_flat, tk_lenB]) (b_lenB xs) (by simp [b_lenB])
theorem ld_vsP (H : List Blk) (i ver : Nat) (n : Nat) (xs : List (Int × Int)) (hn : n = xs.length) (hb : blkAt H i ver = some (pcells xs)) : Ld H (.vs i ver 2 n) (.fs false (pairs xs)) := by
  subst hn
  exact Ld.vs hb (LdL.refl (pc_bd 0 xs)) (by rw [← pc_len, List.take_length]; exact p_flat xs) (p_len xs) (by simp [pc_len])
theorem ld_nilA (H : List Blk) : Ld H (.v (.slice none 0 0)) (.fs false []) := fun c v hH hs hr => by
  cases hr; exact .fs0 false none 0

/-- The memory before and after, block by block. -/
def FzB (m : Nat) (H : List Blk) : List Blk → List Blk → Prop
  | _, [] => True
  | B :: r, B' :: r' => B.ver = B'.ver ∧ FzL m H B.cells B'.cells ∧ FzB m H r r'
  | [], _ :: _ => False
theorem FzB.get {m : Nat} {H : List Blk} : ∀ {l r : List Blk}, FzB m H l r → ∀ (i : Nat) (B' : Blk), r[i]? = some B' → ∃ B, l[i]? = some B ∧ B.ver = B'.ver ∧ FzL m H B.cells B'.cells
  | _, [], _, i, B', h => by simp at h
  | B :: l, C :: r, hz, i, B', h => by
    cases i with
    | zero => simp at h; subst h; exact ⟨B, by simp, hz.1, hz.2.1⟩
    | succ i => simp at h; obtain ⟨D, h1, h2⟩ := FzB.get hz.2.2 i B' h; exact ⟨D, by simpa using h1, h2⟩
  | [], _ :: _, hz, _, _, _ => hz.elim
theorem fzb_nil (m : Nat) (H l : List Blk) : FzB m H l [] = True := by cases l <;> rfl
theorem fzb_cons (m : Nat) (H : List Blk) (v v' : Nat) (c c' : List A) (l r : List Blk) : FzB m H (⟨v, c⟩ :: l) (⟨v', c'⟩ :: r) = (v = v' ∧ FzL m H c c' ∧ FzB m H l r) := rfl
theorem Cut.of' {n0 : Nat} {e e' : List A} {H H' : List Blk} (m : Nat) (hl : H'.length = m) (hm : n0 ≤ m) (hb : FzB m H H H') (he : FzL m H e e') : Cut n0 e H e' H' := Cut.of hm hl (FzB.get hb) he
theorem Cut.refl (n0 : Nat) (e : List A) (H : List Blk) : Cut n0 e H e H := fun c ev h1 h2 h3 h4 => ⟨c, h1, rfl, Lat.refl _ _, h3, h4⟩

theorem aL :
    (∀ (xs : List Int), (ints xs).length = xs.length) ∧
    (∀ (xs : List Int) (k : Nat) (h : k < xs.length), nthA (ints xs) k = some (.v (.int .i64 (xs.getD k 0)))) ∧
    (∀ (w : Bool) (xs : List Int) (kk : IntKind) (j : Int) (h1 : 0 ≤ j) (h2 : j < xs.length), idxA 1 (.fs w (ints xs)) (.v (.int kk j)) = some (.fp w [.v (.int .i64 (xs.getD j.toNat 0))])) ∧
    (∀ (xs : List Int) (k : Nat) (y : Int), (ints xs).set k (.v (.int .i64 y)) = ints (xs.set k y)) ∧
    (∀ (xs : List Int) (k : Nat) (y : Int) (h : k < xs.length), splA (ints xs) k [.v (.int .i64 y)] = ints (xs.set k y)) ∧
    (∀ (xs : List Int) (y : Int), ints xs ++ [.v (.int .i64 y)] = ints (xs ++ [y])) ∧
    (∀ (xs ys : List Int), ints xs ++ ints ys = ints (xs ++ ys)) ∧
    (∀ (n : Nat) (y : Int), List.replicate n (A.v (.int .i64 y)) = ints (List.replicate n y)) ∧
    (∀ (n : Nat) (xs : List Int), (ints xs).take n = ints (xs.take n)) ∧
    (∀ (n : Nat) (xs : List Int), (ints xs).drop n = ints (xs.drop n)) ∧
    (∀ (xs : List Int), (ints xs).all A.one = true) ∧
    (∀ (n : Nat) (xs : List Int), A.bdL n (ints xs) = true) ∧
    (∀ (xs : List Int), A.clL (ints xs) = true) ∧
    (∀ (xs : List Int), szB 1 (ints xs) = true) ∧
    (∀ (xs : List Int), flatA 1 (ints xs) = some (ints xs)) ∧
    (∀ (H : List Blk) (w : Bool) (xs : List Int), newsA H 1 (.fs w (ints xs)) = some (xs.length, ints xs)) ∧
    (∀ (xs : List Bool), (bools xs).length = xs.length) ∧
    (∀ (xs : List Bool) (k : Nat) (h : k < xs.length), nthA (bools xs) k = some (.v (.bool (xs.getD k false)))) ∧
    (∀ (w : Bool) (xs : List Bool) (kk : IntKind) (j : Int) (h1 : 0 ≤ j) (h2 : j < xs.length), idxA 1 (.fs w (bools xs)) (.v (.int kk j)) = some (.fp w [.v (.bool (xs.getD j.toNat false))])) ∧
    (∀ (xs : List Bool) (k : Nat) (y : Bool), (bools xs).set k (.v (.bool y)) = bools (xs.set k y)) ∧
    (∀ (xs : List Bool) (k : Nat) (y : Bool) (h : k < xs.length), splA (bools xs) k [.v (.bool y)] = bools (xs.set k y)) ∧
    (∀ (xs : List Bool) (y : Bool), bools xs ++ [.v (.bool y)] = bools (xs ++ [y])) ∧
    (∀ (n : Nat) (y : Bool), List.replicate n (A.v (.bool y)) = bools (List.replicate n y)) ∧
    (∀ (n : Nat) (xs : List Bool), (bools xs).take n = bools (xs.take n)) ∧
    (∀ (n : Nat) (xs : List Bool), (bools xs).drop n = bools (xs.drop n)) ∧
    (∀ (xs : List Bool), (bools xs).all A.one = true) ∧
    (∀ (n : Nat) (xs : List Bool), A.bdL n (bools xs) = true) ∧
    (∀ (xs : List Bool), A.clL (bools xs) = true) ∧
    (∀ (xs : List Bool), flatA 1 (bools xs) = some (bools xs)) ∧
    (∀ (l : List (Int × Int)), (pairs l).length = l.length) ∧
    (∀ (w : Bool) (l : List (Int × Int)) (kk : IntKind) (j : Int) (h1 : 0 ≤ j) (h2 : j < l.length), idxA 2 (.fs w (pairs l)) (.v (.int kk j)) = some (.fp w [.v (.int .i64 (l.getD j.toNat (0, 0)).1), .v (.int .i64 (l.getD j.toNat (0, 0)).2)])) ∧
    (∀ (n : Nat) (l : List (Int × Int)), A.bdL n (pairs l) = true) ∧
    (∀ (l : List (Int × Int)), A.clL (pairs l) = true) ∧
    (∀ (l : List (Int × Int)), flatA 2 (pairs l) = some (pcells l)) ∧
    (∀ (l : List (Int × Int)), (pcells l).length = l.length * 2) ∧
    (∀ (l : List (Int × Int)), (pcells l).all A.one = true) ∧
    (∀ (n : Nat) (l : List (Int × Int)), A.bdL n (pcells l) = true) ∧
    (∀ (l m : List (Int × Int)), pcells l ++ pcells m = pcells (l ++ m)) ∧
    (∀ (l : List (Int × Int)) (x y : Int), pcells l ++ [.v (.int .i64 x), .v (.int .i64 y)] = pcells (l ++ [(x, y)])) ∧
    (∀ (H : List Blk) (w : Bool) (l : List (Int × Int)), newsA H 2 (.fs w (pairs l)) = some (l.length, pcells l)) ∧
    (∀ (w : Bool) (l : List (List Int)), (rows w l).length = l.length) ∧
    (∀ (w : Bool) (l : List (List Int)) (k : Nat) (h : k < l.length), nthA (rows w l) k = some (.fs w (ints (l.getD k [])))) ∧
    (∀ (w v : Bool) (l : List (List Int)) (kk : IntKind) (j : Int) (h1 : 0 ≤ j) (h2 : j < l.length), idxA 1 (.fs w (rows v l)) (.v (.int kk j)) = some (.fp w [.fs v (ints (l.getD j.toNat []))])) ∧
    (∀ (w : Bool) (l : List (List Int)) (k : Nat) (r : List Int) (h : k < l.length), splA (rows w l) k [.fs w (ints r)] = rows w (l.set k r)) ∧
    (∀ (w : Bool) (l : List (List Int)) (r : List Int), rows w l ++ [.fs w (ints r)] = rows w (l ++ [r])) ∧
    (∀ (w : Bool) (l : List (List Int)) (k : Nat) (r : List Int), (rows w l).set k (.fs w (ints r)) = rows w (l.set k r)) ∧
    (∀ (n : Nat) (w : Bool) (l : List (List Int)), (rows w l).take n = rows w (l.take n)) ∧
    (∀ (n : Nat) (w : Bool) (l : List (List Int)), (rows w l).drop n = rows w (l.drop n)) ∧
    (∀ (w : Bool) (l : List (List Int)), (rows w l).all A.one = true) ∧
    (∀ (n : Nat) (w : Bool) (l : List (List Int)), A.bdL n (rows w l) = true) ∧
    (∀ (l : List (List Int)), A.clL (rows true l) = true) ∧
    (∀ (w : Bool) (l : List (List Int)), szB 1 (rows w l) = true) ∧
    (∀ (w : Bool) (l : List (List Int)), flatA 1 (rows w l) = some (rows w l)) ∧
    (∀ (H : List Blk) (v w : Bool) (l : List (List Int)), newsA H 1 (.fs v (rows w l)) = some (l.length, rows w l)) ∧
    (∀ (n : Nat) (xs : List Int) (h : xs.length ≤ n), xs.take n = xs) ∧
    (∀ (n : Nat) (xs : List Bool) (h : xs.length ≤ n), xs.take n = xs) ∧
    (∀ (n : Nat) (xs : List (List Int)) (h : xs.length ≤ n), xs.take n = xs) ∧
    (∀ (n : Nat) (l : List (Int × Int)) (h : n = l.length), (pcells l).take (n * 2) = pcells l) ∧
    (∀ (xs : List Int), xs.drop 0 = xs) ∧
    (∀ (xs : List Bool), xs.drop 0 = xs) ∧
    (∀ (xs : List (List Int)), xs.drop 0 = xs) ∧
    (∀ (xs : List A), xs.take xs.length = xs) ∧
    (∀ (xs : List Int) (k : Nat) (y : Int), (xs.set k y).length = xs.length) ∧
    (∀ (xs : List Bool) (k : Nat) (y : Bool), (xs.set k y).length = xs.length) ∧
    (∀ (xs : List (List Int)) (k : Nat) (y : List Int), (xs.set k y).length = xs.length) ∧
    (∀ (xs : List Int) (y : Int), (xs ++ [y]).length = xs.length + 1) ∧
    (∀ (xs : List Bool) (y : Bool), (xs ++ [y]).length = xs.length + 1) ∧
    (∀ (xs : List (Int × Int)) (y : Int × Int), (xs ++ [y]).length = xs.length + 1) ∧
    (∀ (xs : List (List Int)) (y : List Int), (xs ++ [y]).length = xs.length + 1) ∧
    (∀ (n : Nat) (y : Int), (List.replicate n y).length = n) ∧
    (∀ (n : Nat) (y : Bool), (List.replicate n y).length = n) :=
  ⟨@ii_len, @ii_nth, @ii_idx, @ii_set, @ii_spl, @ii_app1, @ii_app, @ii_rep, @ii_take, @ii_drop, @ii_one, @ii_bd, @ii_cl, @ii_sz, @ii_flat, @ii_new, @b_lenB, @b_nth, @b_idx, @b_set, @b_spl, @b_app1, @b_rep, @b_take, @b_drop, @b_one, @b_bd, @b_cl, @b_flat, @p_len, @p_idx, @p_bd, @p_cl, @p_flat, @pc_len, @pc_one, @pc_bd, @pc_app, @pc_app1, @p_new, @r_len, @r_nth, @r_idx, @r_spl, @r_app1, @r_set, @r_take, @r_drop, @r_one, @r_bd, @r_cl, @r_sz, @r_flat, @r_new, @tkI_all, @tkB_all, @tkR_all, @tkPc, @drI_zero, @drB_zero, @drR_zero, @tk_lenA, @st_lenI, @st_lenB, @st_lenR, @ap_lenI, @ap_lenB, @ap_lenP, @ap_lenR, @rp_lenI, @rp_lenB⟩
theorem aF :
    (∀ (m : Nat) (H : List Blk) (a : A), Fz m H a .any = True) ∧
    (∀ (m : Nat) (H : List Blk) (x : Value), Fz m H (.v x) (.v x) = True) ∧
    (∀ (m : Nat) (H : List Blk) (w : Bool) (l : List A) (h : A.bdL m l = true), Fz m H (.fs w l) (.fs w l) = True) ∧
    (∀ (m : Nat) (H : List Blk) (w : Bool) (l : List A) (h : A.bdL m l = true), Fz m H (.fp w l) (.fp w l) = True) ∧
    (∀ (m : Nat) (H : List Blk) (i ver k o n : Nat) (h : i < m), Fz m H (.sl i ver k o n) (.sl i ver k o n) = True) ∧
    (∀ (m : Nat) (H : List Blk) (i ver o : Nat) (h : i < m), Fz m H (.lp i ver o) (.lp i ver o) = True) ∧
    (∀ (m : Nat) (H : List Blk) (i ver k n : Nat) (h : i < m), Fz m H (.vs i ver k n) (.vs i ver k n) = True) ∧
    (∀ (m : Nat) (H : List Blk) (l : List A) (h : A.bdL m l = true), Fz m H (.agg l) (.agg l) = True) ∧
    (∀ (m : Nat) (H : List Blk) (l : List A) (h : A.bdL m l = true), Fz m H (.tup l) (.tup l) = True) ∧
    (∀ (m : Nat) (H : List Blk) (f : Nat) (l : List A) (h : A.bdL m l = true), Fz m H (.fn f l) (.fn f l) = True) ∧
    (∀ (m : Nat) (H : List Blk) (a b : A) (l r : List A), FzL m H (a :: l) (b :: r) = (Fz m H a b ∧ FzL m H l r)) ∧
    (∀ (m : Nat) (H : List Blk), FzL m H [] [] = True) ∧
    (∀ (m : Nat) (H : List Blk) (l : List A) (h : A.bdL m l = true), FzL m H l l = True) ∧
    (∀ (n : Nat) (a : A) (l : List A), A.bdL n (a :: l) = (a.bd n && A.bdL n l)) ∧
    (∀ (n : Nat), A.bdL n [] = true) ∧
    (∀ (n : Nat), A.bd n .any = true) ∧
    (∀ (n : Nat) (x : Value), A.bd n (.v x) = true) ∧
    (∀ (n : Nat) (w : Bool) (l : List A), A.bd n (.fs w l) = A.bdL n l) ∧
    (∀ (n : Nat) (w : Bool) (l : List A), A.bd n (.fp w l) = A.bdL n l) ∧
    (∀ (n : Nat) (l : List A), A.bd n (.agg l) = A.bdL n l) ∧
    (∀ (n : Nat) (l : List A), A.bd n (.tup l) = A.bdL n l) ∧
    (∀ (n f : Nat) (l : List A), A.bd n (.fn f l) = A.bdL n l) ∧
    (∀ (n i ver k o m : Nat) (h : i < n), A.bd n (.sl i ver k o m) = true) ∧
    (∀ (n i ver o : Nat) (h : i < n), A.bd n (.lp i ver o) = true) ∧
    (∀ (n i ver k m : Nat) (h : i < n), A.bd n (.vs i ver k m) = true) ∧
    (∀ (a : A) (l : List A), A.clL (a :: l) = (a.cl && A.clL l)) ∧
    (A.clL [] = true) ∧
    (∀ (x : Value), A.cl (.v x) = true) ∧
    (∀ (w : Bool) (l : List A), A.cl (.fs w l) = (w && A.clL l)) ∧
    (∀ (w : Bool) (l : List A), A.cl (.fp w l) = (w && A.clL l)) ∧
    (∀ (l : List A), A.cl (.agg l) = A.clL l) ∧
    (∀ (l : List A), A.cl (.tup l) = A.clL l) ∧
    (∀ (i ver k o m : Nat), A.cl (.sl i ver k o m) = true) ∧
    (∀ (i ver o : Nat), A.cl (.lp i ver o) = true) ∧
    (∀ (i ver k m : Nat), A.cl (.vs i ver k m) = true) ∧
    (∀ (H : List Blk) (a : A), Ld H a .any = True) ∧
    (∀ (H : List Blk) (x : Value), Ld H (.v x) (.v x) = True) ∧
    (∀ (H : List Blk) (w : Bool) (l : List A) (h : A.bdL 0 l = true), Ld H (.fs w l) (.fs false l) = True) ∧
    (∀ (H : List Blk) (w : Bool) (l : List A) (h : A.bdL 0 l = true), Ld H (.fs w l) (.fs w l) = True) ∧
    (∀ (H : List Blk) (w : Bool) (l : List A) (h : A.bdL 0 l = true), Ld H (.fp w l) (.fp false l) = True) ∧
    (∀ (H : List Blk) (w : Bool) (l : List A) (h : A.bdL 0 l = true), Ld H (.fp w l) (.fp w l) = True) ∧
    (∀ (H : List Blk) (l r : List A) (h : LdL H l r), Ld H (.agg l) (.agg r) = True) ∧
    (∀ (H : List Blk) (f : Nat) (l : List A) (h : A.bdL 0 l = true), Ld H (.fn f l) (.fn f l) = True) ∧
    (∀ (H : List Blk) (a b : A) (l r : List A), LdL H (a :: l) (b :: r) = (Ld H a b ∧ LdL H l r)) ∧
    (∀ (H : List Blk), LdL H [] [] = True) ∧
    (∀ (m : Nat) (H l : List Blk), FzB m H l [] = True) ∧
    (∀ (m : Nat) (H : List Blk) (v v' : Nat) (c c' : List A) (l r : List Blk), FzB m H (⟨v, c⟩ :: l) (⟨v', c'⟩ :: r) = (v = v' ∧ FzL m H c c' ∧ FzB m H l r)) :=
  ⟨@fz_any, @fz_v, @fz_fs, @fz_fp, @fz_sl, @fz_lp, @fz_vs, @fz_agg, @fz_tup, @fz_fn, @fzl_cons, @fzl_nil, @fzl_refl, @bdl_cons, @bdl_nil, @bd_any, @bd_v, @bd_fs, @bd_fp, @bd_agg, @bd_tup, @bd_fn, @bd_sl, @bd_lp, @bd_vs, @cl_cons, @cl_nil, @cl_v, @cl_fs, @cl_fp, @cl_agg, @cl_tup, @cl_sl, @cl_lp, @cl_vs, @ld_any, @ld_v, @ld_fs, @ld_fs', @ld_fpA, @ld_fp', @ld_aggA, @ld_fnA, @ldl_cons, @ldl_nil, @fzb_nil, @fzb_cons⟩
end Go.Lft
