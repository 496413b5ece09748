/- Lemmas and walks that the proof of GraphMore uses. No statement is claimed here. -/
import Derived.Test.YtegnnfbmbnpgdaaGraphMoreZag
namespace Go.Lft
open Go
set_option linter.unusedVariables false
set_option linter.unusedSimpArgs false

def ints (xs : List Int) : List A := xs.map fun n => .v (.int .i64 n)
def bools (xs : List Bool) : List A := xs.map fun n => .v (.bool n)

section
variable {α : Type} {f : α → A}
theorem map_nth (xs : List α) (k : Nat) (d : α) (h : k < xs.length) : nthA (xs.map f) k = some (f (xs.getD k d)) := by
  rw [nthA_get, List.getElem?_map]; simp [h]
theorem map_set (xs : List α) (k : Nat) (y : α) : (xs.map f).set k (f y) = (xs.set k y).map f := by rw [List.map_set]
theorem map_one (xs : List α) (h : ∀ x, (f x).one = true) : (xs.map f).all A.one = true := by
  rw [List.all_eq_true]; intro a ha; obtain ⟨x, _, rfl⟩ := List.mem_map.1 ha; exact h x
theorem map_bd (n : Nat) (xs : List α) (h : ∀ x, (f x).bd n = true) : A.bdL n (xs.map f) = true := bdL_iff.2 fun a ha => by
  obtain ⟨x, _, rfl⟩ := List.mem_map.1 ha; exact h x
theorem map_cl (xs : List α) (h : ∀ x, (f x).cl = true) : A.clL (xs.map f) = true := clL_iff.2 fun a ha => by
  obtain ⟨x, _, rfl⟩ := List.mem_map.1 ha; exact h x
theorem map_sz (n : Nat) (xs : List α) (cs : α → List A) (h : ∀ x, (f x).cells = some (cs x)) (hn : ∀ x, (cs x).length = n) : szB n (xs.map f) = true := by
  unfold szB; rw [List.all_eq_true]; intro a ha; obtain ⟨x, _, rfl⟩ := List.mem_map.1 ha; rw [h]; simp [hn]
theorem map_flat (n : Nat) (cs : α → List A) (h : ∀ x, (f x).cells = some (cs x)) (hn : ∀ x, (cs x).length = n) : ∀ (xs : List α), flatA n (xs.map f) = some (xs.flatMap cs)
  | [] => rfl
  | x :: r => by simp [flatA, h, hn, map_flat n cs h hn r]
theorem map_idx (n : Nat) (w : Bool) (xs : List α) (d : α) (kk : IntKind) (j : Int) (cs : α → List A) (h : ∀ x, (f x).cells = some (cs x)) (hn : ∀ x, (cs x).length = n) (h1 : 0 ≤ j) (h2 : j < xs.length) :
    idxA n (.fs w (xs.map f)) (.v (.int kk j)) = some (.fp w (cs (xs.getD j.toNat d))) := by
  simp only [idxA, List.length_map]
  rw [if_pos ⟨h1, h2⟩, map_nth xs _ d (by omega)]
  simp [h, hn]
end

theorem all_one_cells : ∀ {l : List A}, l.all A.one = true → flatA 1 l = some l
  | [], _ => rfl
  | a :: l, h => by
    simp only [List.all_cons, Bool.and_eq_true] at h
    have hc : a.cells = some [a] := by cases a <;> first | (cases h.1; done) | (simp only [A.cells]; rw [if_pos h.1])
    simp [flatA, hc, all_one_cells h.2]

theorem ii_len (xs : List Int) : (ints xs).length = xs.length := by simp [ints]
theorem ii_nth (xs : List Int) (k : Nat) (h : k < xs.length) : nthA (ints xs) k = some (.v (.int .i64 (xs.getD k 0))) := map_nth xs k 0 h
theorem ii_idx (w : Bool) (xs : List Int) (kk : IntKind) (j : Int) (h1 : 0 ≤ j) (h2 : j < xs.length) : idxA 1 (.fs w (ints xs)) (.v (.int kk j)) = some (.fp w [.v (.int .i64 (xs.getD j.toNat 0))]) :=
  map_idx 1 w xs 0 kk j (fun n => [.v (.int .i64 n)]) (fun _ => rfl) (fun _ => rfl) h1 h2
theorem ii_set (xs : List Int) (k : Nat) (y : Int) : (ints xs).set k (.v (.int .i64 y)) = ints (xs.set k y) := map_set xs k y
theorem ii_spl (xs : List Int) (k : Nat) (y : Int) (h : k < xs.length) : splA (ints xs) k [.v (.int .i64 y)] = ints (xs.set k y) := spl_setI (fun n => .v (.int .i64 n)) xs k y h
theorem ii_app1 (xs : List Int) (y : Int) : ints xs ++ [.v (.int .i64 y)] = ints (xs ++ [y]) := by simp [ints]
theorem ii_app (xs ys : List Int) : ints xs ++ ints ys = ints (xs ++ ys) := by simp [ints]
theorem ii_nil : ints [] = [] := rfl
theorem ii_rep (n : Nat) (y : Int) : List.replicate n (A.v (.int .i64 y)) = ints (List.replicate n y) := by simp [ints]
theorem ii_take (n : Nat) (xs : List Int) : (ints xs).take n = ints (xs.take n) := by simp [ints, List.map_take]
theorem ii_drop (n : Nat) (xs : List Int) : (ints xs).drop n = ints (xs.drop n) := by simp [ints, List.map_drop]
theorem ii_one (xs : List Int) : (ints xs).all A.one = true := map_one xs fun _ => rfl
theorem ii_bd (n : Nat) (xs : List Int) : A.bdL n (ints xs) = true := map_bd n xs fun _ => rfl
theorem ii_cl (xs : List Int) : A.clL (ints xs) = true := map_cl xs fun _ => rfl
theorem ii_sz (xs : List Int) : szB 1 (ints xs) = true := map_sz 1 xs (fun n => [.v (.int .i64 n)]) (fun _ => rfl) (fun _ => rfl)
theorem ii_flat (xs : List Int) : flatA 1 (ints xs) = some (ints xs) := all_one_cells (ii_one xs)
theorem ii_new (H : List Blk) (w : Bool) (xs : List Int) : newsA H 1 (.fs w (ints xs)) = some (xs.length, ints xs) := by
  simp only [newsA, ii_flat, Option.bind_some, ii_one, if_true, ii_len]
theorem b_lenB (xs : List Bool) : (bools xs).length = xs.length := by simp [bools]
theorem b_nth (xs : List Bool) (k : Nat) (h : k < xs.length) : nthA (bools xs) k = some (.v (.bool (xs.getD k false))) := map_nth xs k false h
theorem b_idx (w : Bool) (xs : List Bool) (kk : IntKind) (j : Int) (h1 : 0 ≤ j) (h2 : j < xs.length) : idxA 1 (.fs w (bools xs)) (.v (.int kk j)) = some (.fp w [.v (.bool (xs.getD j.toNat false))]) :=
  map_idx 1 w xs false kk j (fun n => [.v (.bool n)]) (fun _ => rfl) (fun _ => rfl) h1 h2
theorem b_set (xs : List Bool) (k : Nat) (y : Bool) : (bools xs).set k (.v (.bool y)) = bools (xs.set k y) := map_set xs k y
theorem b_spl (xs : List Bool) (k : Nat) (y : Bool) (h : k < xs.length) : splA (bools xs) k [.v (.bool y)] = bools (xs.set k y) := spl_setI (fun n => .v (.bool n)) xs k y h
theorem b_app1 (xs : List Bool) (y : Bool) : bools xs ++ [.v (.bool y)] = bools (xs ++ [y]) := by simp [bools]
theorem b_rep (n : Nat) (y : Bool) : List.replicate n (A.v (.bool y)) = bools (List.replicate n y) := by simp [bools]
theorem b_take (n : Nat) (xs : List Bool) : (bools xs).take n = bools (xs.take n) := by simp [bools, List.map_take]
theorem b_drop (n : Nat) (xs : List Bool) : (bools xs).drop n = bools (xs.drop n) := by simp [bools, List.map_drop]
theorem b_one (xs : List Bool) : (bools xs).all A.one = true := map_one xs fun _ => rfl
theorem b_bd (n : Nat) (xs : List Bool) : A.bdL n (bools xs) = true := map_bd n xs fun _ => rfl
theorem b_cl (xs : List Bool) : A.clL (bools xs) = true := map_cl xs fun _ => rfl
theorem b_flat (xs : List Bool) : flatA 1 (bools xs) = some (bools xs) := all_one_cells (b_one xs)

/-! ### Structs of numbers: pairs -/
def pairA (a : Int × Int) : A := .agg [.v (.int .i64 a.1), .v (.int .i64 a.2)]
def pairs (l : List (Int × Int)) : List A := l.map pairA
def pcells (l : List (Int × Int)) : List A := l.flatMap fun a => [.v (.int .i64 a.1), .v (.int .i64 a.2)]
theorem p_len (l : List (Int × Int)) : (pairs l).length = l.length := by simp [pairs]
theorem p_idx (w : Bool) (l : List (Int × Int)) (kk : IntKind) (j : Int) (h1 : 0 ≤ j) (h2 : j < l.length) : idxA 2 (.fs w (pairs l)) (.v (.int kk j)) = some (.fp w [.v (.int .i64 (l.getD j.toNat (0, 0)).1), .v (.int .i64 (l.getD j.toNat (0, 0)).2)]) :=
  map_idx 2 w l (0, 0) kk j (fun a => [.v (.int .i64 a.1), .v (.int .i64 a.2)]) (fun _ => rfl) (fun _ => rfl) h1 h2
theorem p_bd (n : Nat) (l : List (Int × Int)) : A.bdL n (pairs l) = true := map_bd n l fun _ => rfl
theorem p_cl (l : List (Int × Int)) : A.clL (pairs l) = true := map_cl l fun _ => rfl
theorem p_flat (l : List (Int × Int)) : flatA 2 (pairs l) = some (pcells l) := map_flat 2 _ (fun _ => rfl) (fun _ => rfl) l
theorem pc_len (l : List (Int × Int)) : (pcells l).length = l.length * 2 := by unfold pcells; induction l with
  | nil => rfl
  | cons a r ih => rw [List.flatMap_cons, List.length_append, ih]; simp; omega
theorem pc_one (l : List (Int × Int)) : (pcells l).all A.one = true := by unfold pcells; induction l with
  | nil => rfl
  | cons a r ih => rw [List.flatMap_cons, List.all_append, ih]; rfl
theorem pc_bd (n : Nat) (l : List (Int × Int)) : A.bdL n (pcells l) = true := by unfold pcells; induction l with
  | nil => rfl
  | cons a r ih => simp [List.flatMap_cons, A.bdL, A.bd]; simpa using ih
theorem pc_app (l m : List (Int × Int)) : pcells l ++ pcells m = pcells (l ++ m) := by simp [pcells]
theorem pc_app1 (l : List (Int × Int)) (x y : Int) : pcells l ++ [.v (.int .i64 x), .v (.int .i64 y)] = pcells (l ++ [(x, y)]) := by simp [pcells]
theorem p_new (H : List Blk) (w : Bool) (l : List (Int × Int)) : newsA H 2 (.fs w (pairs l)) = some (l.length, pcells l) := by
  simp only [newsA, p_flat, Option.bind_some, pc_one, if_true, p_len]

/-! ### Lists of lists of numbers -/
def rows (w : Bool) (l : List (List Int)) : List A := l.map fun r => .fs w (ints r)
theorem r_len (w : Bool) (l : List (List Int)) : (rows w l).length = l.length := by simp [rows]
theorem r_nth (w : Bool) (l : List (List Int)) (k : Nat) (h : k < l.length) : nthA (rows w l) k = some (.fs w (ints (l.getD k []))) := map_nth l k [] h
theorem r_idx (w v : Bool) (l : List (List Int)) (kk : IntKind) (j : Int) (h1 : 0 ≤ j) (h2 : j < l.length) : idxA 1 (.fs w (rows v l)) (.v (.int kk j)) = some (.fp w [.fs v (ints (l.getD j.toNat []))]) :=
  map_idx 1 w l [] kk j (fun r => [.fs v (ints r)]) (fun _ => rfl) (fun _ => rfl) h1 h2
theorem r_spl (w : Bool) (l : List (List Int)) (k : Nat) (r : List Int) (h : k < l.length) : splA (rows w l) k [.fs w (ints r)] = rows w (l.set k r) := spl_setI (fun r => .fs w (ints r)) l k r h
theorem r_app1 (w : Bool) (l : List (List Int)) (r : List Int) : rows w l ++ [.fs w (ints r)] = rows w (l ++ [r]) := by simp [rows]
theorem r_set (w : Bool) (l : List (List Int)) (k : Nat) (r : List Int) : (rows w l).set k (.fs w (ints r)) = rows w (l.set k r) := map_set l k r
theorem r_take (n : Nat) (w : Bool) (l : List (List Int)) : (rows w l).take n = rows w (l.take n) := by simp [rows, List.map_take]
theorem r_drop (n : Nat) (w : Bool) (l : List (List Int)) : (rows w l).drop n = rows w (l.drop n) := by simp [rows, List.map_drop]
theorem r_one (w : Bool) (l : List (List Int)) : (rows w l).all A.one = true := map_one l fun _ => rfl
theorem r_bd (n : Nat) (w : Bool) (l : List (List Int)) : A.bdL n (rows w l) = true := map_bd n l fun r => ii_bd n r
theorem r_cl (l : List (List Int)) : A.clL (rows true l) = true := map_cl l fun r => by simp [A.cl, ii_cl]
theorem r_sz (w : Bool) (l : List (List Int)) : szB 1 (rows w l) = true := map_sz 1 l (fun r => [.fs w (ints r)]) (fun _ => rfl) (fun _ => rfl)
theorem r_flat (w : Bool) (l : List (List Int)) : flatA 1 (rows w l) = some (rows w l) := all_one_cells (r_one w l)
theorem r_new (H : List Blk) (v w : Bool) (l : List (List Int)) : newsA H 1 (.fs v (rows w l)) = some (l.length, rows w l) := by
  simp only [newsA, r_flat, Option.bind_some, r_one, if_true, r_len]
theorem r_nil (w : Bool) : rows w [] = [] := rfl

theorem tkI_all (n : Nat) (xs : List Int) (h : xs.length ≤ n) : xs.take n = xs := List.take_of_length_le h
theorem tkB_all (n : Nat) (xs : List Bool) (h : xs.length ≤ n) : xs.take n = xs := List.take_of_length_le h
theorem tkR_all (n : Nat) (xs : List (List Int)) (h : xs.length ≤ n) : xs.take n = xs := List.take_of_length_le h
theorem tkPc (n : Nat) (l : List (Int × Int)) (h : n = l.length) : (pcells l).take (n * 2) = pcells l := by
  subst h; rw [← pc_len, List.take_length]
theorem drI_zero (xs : List Int) : xs.drop 0 = xs := rfl
theorem drB_zero (xs : List Bool) : xs.drop 0 = xs := rfl
theorem drR_zero (xs : List (List Int)) : xs.drop 0 = xs := rfl
theorem tk_lenI (xs : List Int) : xs.take xs.length = xs := List.take_length
theorem tk_lenB (xs : List Bool) : xs.take xs.length = xs := List.take_length
theorem tk_lenR (xs : List (List Int)) : xs.take xs.length = xs := List.take_length
theorem tk_lenA (xs : List A) : xs.take xs.length = xs := List.take_length
theorem st_lenI (xs : List Int) (k : Nat) (y : Int) : (xs.set k y).length = xs.length := List.length_set
theorem st_lenB (xs : List Bool) (k : Nat) (y : Bool) : (xs.set k y).length = xs.length := List.length_set
theorem st_lenR (xs : List (List Int)) (k : Nat) (y : List Int) : (xs.set k y).length = xs.length := List.length_set
theorem ap_lenI (xs : List Int) (y : Int) : (xs ++ [y]).length = xs.length + 1 := by simp
theorem ap_lenB (xs : List Bool) (y : Bool) : (xs ++ [y]).length = xs.length + 1 := by simp
theorem ap_lenP (xs : List (Int × Int)) (y : Int × Int) : (xs ++ [y]).length = xs.length + 1 := by simp
theorem ap_lenR (xs : List (List Int)) (y : List Int) : (xs ++ [y]).length = xs.length + 1 := by simp
theorem rp_lenI (n : Nat) (y : Int) : (List.replicate n y).length = n := List.length_replicate
theorem rp_lenB (n : Nat) (y : Bool) : (List.replicate n y).length = n := List.length_replicate

/-! ### Forgetting, freezing, lending: what is to be shown, piece by piece -/
theorem fz_any (m : Nat) (H : List Blk) (a : A) : Fz m H a .any = True := eq_true Fz.any
theorem fz_v (m : Nat) (H : List Blk) (x : Value) : Fz m H (.v x) (.v x) = True := eq_true (Fz.refl rfl)
theorem fz_fs (m : Nat) (H : List Blk) (w : Bool) (l : List A) (h : A.bdL m l = true) : Fz m H (.fs w l) (.fs w l) = True := eq_true (Fz.refl (by simpa [A.bd] using h))
theorem fz_fp (m : Nat) (H : List Blk) (w : Bool) (l : List A) (h : A.bdL m l = true) : Fz m H (.fp w l) (.fp w l) = True := eq_true (Fz.refl (by simpa [A.bd] using h))
theorem fz_sl (m : Nat) (H : List Blk) (i ver k o n : Nat) (h : i < m) : Fz m H (.sl i ver k o n) (.sl i ver k o n) = True := eq_true (Fz.refl (by simpa [A.bd] using h))
theorem fz_lp (m : Nat) (H : List Blk) (i ver o : Nat) (h : i < m) : Fz m H (.lp i ver o) (.lp i ver o) = True := eq_true (Fz.refl (by simpa [A.bd] using h))
theorem fz_vs (m : Nat) (H : List Blk) (i ver k n : Nat) (h : i < m) : Fz m H (.vs i ver k n) (.vs i ver k n) = True := eq_true (Fz.refl (by simpa [A.bd] using h))
theorem fz_agg (m : Nat) (H : List Blk) (l : List A) (h : A.bdL m l = true) : Fz m H (.agg l) (.agg l) = True := eq_true (Fz.refl (by simpa [A.bd] using h))
theorem fz_tup (m : Nat) (H : List Blk) (l : List A) (h : A.bdL m l = true) : Fz m H (.tup l) (.tup l) = True := eq_true (Fz.refl (by simpa [A.bd] using h))
theorem fz_fn (m : Nat) (H : List Blk) (f : Nat) (l : List A) (h : A.bdL m l = true) : Fz m H (.fn f l) (.fn f l) = True := eq_true (Fz.refl (by simpa [A.bd] using h))
theorem fzl_cons (m : Nat) (H : List Blk) (a b : A) (l r : List A) : FzL m H (a :: l) (b :: r) = (Fz m H a b ∧ FzL m H l r) := rfl
theorem fzl_nil (m : Nat) (H : List Blk) : FzL m H [] [] = True := rfl
theorem fzl_refl (m : Nat) (H : List Blk) (l : List A) (h : A.bdL m l = true) : FzL m H l l = True := eq_true (FzL.refl h)
theorem bdl_cons (n : Nat) (a : A) (l : List A) : A.bdL n (a :: l) = (a.bd n && A.bdL n l) := rfl
theorem bdl_nil (n : Nat) : A.bdL n [] = true := rfl
theorem bd_any (n : Nat) : A.bd n .any = true := rfl
theorem bd_v (n : Nat) (x : Value) : A.bd n (.v x) = true := rfl
theorem bd_fs (n : Nat) (w : Bool) (l : List A) : A.bd n (.fs w l) = A.bdL n l := rfl
theorem bd_fp (n : Nat) (w : Bool) (l : List A) : A.bd n (.fp w l) = A.bdL n l := rfl
theorem bd_agg (n : Nat) (l : List A) : A.bd n (.agg l) = A.bdL n l := rfl
theorem bd_tup (n : Nat) (l : List A) : A.bd n (.tup l) = A.bdL n l := rfl
theorem bd_fn (n f : Nat) (l : List A) : A.bd n (.fn f l) = A.bdL n l := rfl
theorem bd_sl (n i ver k o m : Nat) (h : i < n) : A.bd n (.sl i ver k o m) = true := by simpa [A.bd] using h
theorem bd_lp (n i ver o : Nat) (h : i < n) : A.bd n (.lp i ver o) = true := by simpa [A.bd] using h
theorem bd_vs (n i ver k m : Nat) (h : i < n) : A.bd n (.vs i ver k m) = true := by simpa [A.bd] using h
theorem cl_cons (a : A) (l : List A) : A.clL (a :: l) = (a.cl && A.clL l) := rfl
theorem cl_nil : A.clL [] = true := rfl
theorem cl_v (x : Value) : A.cl (.v x) = true := rfl
theorem cl_fs (w : Bool) (l : List A) : A.cl (.fs w l) = (w && A.clL l) := rfl
theorem cl_fp (w : Bool) (l : List A) : A.cl (.fp w l) = (w && A.clL l) := rfl
theorem cl_agg (l : List A) : A.cl (.agg l) = A.clL l := rfl
theorem cl_tup (l : List A) : A.cl (.tup l) = A.clL l := rfl
theorem cl_sl (i ver k o m : Nat) : A.cl (.sl i ver k o m) = true := rfl
theorem cl_vs (i ver k m : Nat) : A.cl (.vs i ver k m) = true := rfl
theorem cl_lp (i ver o : Nat) : A.cl (.lp i ver o) = true := rfl
/-- A slice of the function's own, frozen. -/
theorem fz_slI (m : Nat) (H : List Blk) (i ver : Nat) (n : Nat) (xs : List Int) (hi : m ≤ i) (hn : n = xs.length) (hb : blkAt H i ver = some (ints xs)) : Fz m H (.sl i ver 1 0 n) (.fs true (ints xs)) := by
  subst hn
  exact Fz.sl hi hb (FzL.refl (ii_bd m xs)) (by simp [ii_take, ii_flat, tk_lenI]) (ii_len xs) (by simp [ii_len])
theorem fz_slB (m : Nat) (H : List Blk) (i ver : Nat) (n : Nat) (xs : List Bool) (hi : m ≤ i) (hn : n = xs.length) (hb : blkAt H i ver = some (bools xs)) : Fz m H (.sl i ver 1 0 n) (.fs true (bools xs)) := by
  subst hn
  exact Fz.sl hi hb (FzL.refl (b_bd m xs)) (by simp [b_take, b_flat, tk_lenB]) (b_lenB xs) (by simp [b_lenB])
theorem fz_vsI (m : Nat) (H : List Blk) (i ver : Nat) (n : Nat) (xs : List Int) (hi : m ≤ i) (hn : n = xs.length) (hb : blkAt H i ver = some (ints xs)) : Fz m H (.vs i ver 1 n) (.fs true (ints xs)) := by
  subst hn
  exact Fz.vs hi hb (FzL.refl (ii_bd m xs)) (by simp [ii_take, ii_flat, tk_lenI]) (ii_len xs) (by simp [ii_len])
theorem fz_vsR (m : Nat) (H : List Blk) (i ver : Nat) (n : Nat) (xs : List (List Int)) (hi : m ≤ i) (hn : n = xs.length) (hb : blkAt H i ver = some (rows true xs)) : Fz m H (.vs i ver 1 n) (.fs true (rows true xs)) := by
  subst hn
  exact Fz.vs hi hb (FzL.refl (r_bd m true xs)) (by simp [r_take, r_flat, tk_lenR]) (r_len true xs) (by simp [r_len])
theorem fz_nil (m : Nat) (H : List Blk) : Fz m H (.v (.slice none 0 0)) (.fs true []) := fun c v hH hs hr => by
  cases hr; exact .fs0 true none 0

theorem ld_any (H : List Blk) (a : A) : Ld H a .any = True := eq_true Ld.any
theorem ld_v (H : List Blk) (x : Value) : Ld H (.v x) (.v x) = True := eq_true (Ld.refl rfl)
theorem ld_fs (H : List Blk) (w : Bool) (l : List A) (h : A.bdL 0 l = true) : Ld H (.fs w l) (.fs false l) = True := eq_true (Ld.fs h)
theorem ld_fs' (H : List Blk) (w : Bool) (l : List A) (h : A.bdL 0 l = true) : Ld H (.fs w l) (.fs w l) = True := eq_true (Ld.refl (by simpa [A.bd] using h))
theorem ld_fpA (H : List Blk) (w : Bool) (l : List A) (h : A.bdL 0 l = true) : Ld H (.fp w l) (.fp false l) = True := eq_true (Ld.fp h)
theorem ld_fp' (H : List Blk) (w : Bool) (l : List A) (h : A.bdL 0 l = true) : Ld H (.fp w l) (.fp w l) = True := eq_true (Ld.refl (by simpa [A.bd] using h))
theorem ld_aggA (H : List Blk) (l r : List A) (h : LdL H l r) : Ld H (.agg l) (.agg r) = True := eq_true (Ld.agg h)
theorem ld_fnA (H : List Blk) (f : Nat) (l : List A) (h : A.bdL 0 l = true) : Ld H (.fn f l) (.fn f l) = True := eq_true (Ld.refl (by simpa [A.bd] using h))
theorem ldl_cons (H : List Blk) (a b : A) (l r : List A) : LdL H (a :: l) (b :: r) = (Ld H a b ∧ LdL H l r) := rfl
theorem ldl_nil (H : List Blk) : LdL H [] [] = True := rfl
theorem ld_slI (H : List Blk) (i ver : Nat) (n : Nat) (xs : List Int) (hn : n = xs.length) (hb : blkAt H i ver = some (ints xs)) : Ld H (.sl i ver 1 0 n) (.fs false (ints xs)) := by
  subst hn
  exact Ld.sl hb (LdL.refl (ii_bd 0 xs)) (by simp [ii_take, ii_flat, tk_lenI]) (ii_len xs) (by simp [ii_len])
theorem ld_slP (H : List Blk) (i ver : Nat) (n : Nat) (xs : List (Int × Int)) (hn : n = xs.length) (hb : blkAt H i ver = some (pcells xs)) : Ld H (.sl i ver 2 0 n) (.fs false (pairs xs)) := by
  subst hn
  exact Ld.sl hb (LdL.refl (pc_bd 0 xs)) (by simp only [List.drop_zero]; rw [← pc_len, List.take_length]; exact p_flat xs) (p_len xs) (by simp [pc_len])
theorem ld_nilA (H : List Blk) : Ld H (.v (.slice none 0 0)) (.fs false []) := fun c v hH hs hr => by
  cases hr; exact .fs0 false none 0

/-- The memory before and after, block by block. -/
def FzB (m : Nat) (H : List Blk) : List Blk → List Blk → Prop
  | _, [] => True
  | B :: r, B' :: r' => B.ver = B'.ver ∧ FzL m H B.cells B'.cells ∧ FzB m H r r'
  | [], _ :: _ => False
theorem FzB.get {m : Nat} {H : List Blk} : ∀ {l r : List Blk}, FzB m H l r → ∀ (i : Nat) (B' : Blk), r[i]? = some B' → ∃ B, l[i]? = some B ∧ B.ver = B'.ver ∧ FzL m H B.cells B'.cells
  | _, [], _, i, B', h => by simp at h
  | B :: l, C :: r, hz, i, B', h => by
    cases i with
    | zero => simp at h; subst h; exact ⟨B, by simp, hz.1, hz.2.1⟩
    | succ i => simp at h; obtain ⟨D, h1, h2⟩ := FzB.get hz.2.2 i B' h; exact ⟨D, by simpa using h1, h2⟩
  | [], _ :: _, hz, _, _, _ => hz.elim
theorem fzb_nil (m : Nat) (H l : List Blk) : FzB m H l [] = True := by cases l <;> rfl
theorem fzb_cons (m : Nat) (H : List Blk) (v v' : Nat) (c c' : List A) (l r : List Blk) : FzB m H (⟨v, c⟩ :: l) (⟨v', c'⟩ :: r) = (v = v' ∧ FzL m H c c' ∧ FzB m H l r) := rfl
theorem Cut.of' {n0 : Nat} {e e' : List A} {H H' : List Blk} (m : Nat) (hl : H'.length = m) (hm : n0 ≤ m) (hb : FzB m H H H') (he : FzL m H e e') : Cut n0 e H e' H' := Cut.of hm hl (FzB.get hb) he
theorem Cut.refl (n0 : Nat) (e : List A) (H : List Blk) : Cut n0 e H e H := fun c ev h1 h2 h3 h4 => ⟨c, h1, rfl, Lat.refl _ _, h3, h4⟩

theorem aL :
    (∀ (xs : List Int), (ints xs).length = xs.length) ∧
    (∀ (xs : List Int) (k : Nat) (h : k < xs.length), nthA (ints xs) k = some (.v (.int .i64 (xs.getD k 0)))) ∧
    (∀ (w : Bool) (xs : List Int) (kk : IntKind) (j : Int) (h1 : 0 ≤ j) (h2 : j < xs.length), idxA 1 (.fs w (ints xs)) (.v (.int kk j)) = some (.fp w [.v (.int .i64 (xs.getD j.toNat 0))])) ∧
    (∀ (xs : List Int) (k : Nat) (y : Int), (ints xs).set k (.v (.int .i64 y)) = ints (xs.set k y)) ∧
    (∀ (xs : List Int) (k : Nat) (y : Int) (h : k < xs.length), splA (ints xs) k [.v (.int .i64 y)] = ints (xs.set k y)) ∧
    (∀ (xs : List Int) (y : Int), ints xs ++ [.v (.int .i64 y)] = ints (xs ++ [y])) ∧
    (∀ (xs ys : List Int), ints xs ++ ints ys = ints (xs ++ ys)) ∧
    (∀ (n : Nat) (y : Int), List.replicate n (A.v (.int .i64 y)) = ints (List.replicate n y)) ∧
    (∀ (n : Nat) (xs : List Int), (ints xs).take n = ints (xs.take n)) ∧
    (∀ (n : Nat) (xs : List Int), (ints xs).drop n = ints (xs.drop n)) ∧
    (∀ (xs : List Int), (ints xs).all A.one = true) ∧
    (∀ (n : Nat) (xs : List Int), A.bdL n (ints xs) = true) ∧
    (∀ (xs : List Int), A.clL (ints xs) = true) ∧
    (∀ (xs : List Int), szB 1 (ints xs) = true) ∧
    (∀ (xs : List Int), flatA 1 (ints xs) = some (ints xs)) ∧
    (∀ (H : List Blk) (w : Bool) (xs : List Int), newsA H 1 (.fs w (ints xs)) = some (xs.length, ints xs)) ∧
    (∀ (xs : List Bool), (bools xs).length = xs.length) ∧
    (∀ (xs : List Bool) (k : Nat) (h : k < xs.length), nthA (bools xs) k = some (.v (.bool (xs.getD k false)))) ∧
    (∀ (w : Bool) (xs : List Bool) (kk : IntKind) (j : Int) (h1 : 0 ≤ j) (h2 : j < xs.length), idxA 1 (.fs w (bools xs)) (.v (.int kk j)) = some (.fp w [.v (.bool (xs.getD j.toNat false))])) ∧
    (∀ (xs : List Bool) (k : Nat) (y : Bool), (bools xs).set k (.v (.bool y)) = bools (xs.set k y)) ∧
    (∀ (xs : List Bool) (k : Nat) (y : Bool) (h : k < xs.length), splA (bools xs) k [.v (.bool y)] = bools (xs.set k y)) ∧
    (∀ (xs : List Bool) (y : Bool), bools xs ++ [.v (.bool y)] = bools (xs ++ [y])) ∧
    (∀ (n : Nat) (y : Bool), List.replicate n (A.v (.bool y)) = bools (List.replicate n y)) ∧
    (∀ (n : Nat) (xs : List Bool), (bools xs).take n = bools (xs.take n)) ∧
    (∀ (n : Nat) (xs : List Bool), (bools xs).drop n = bools (xs.drop n)) ∧
    (∀ (xs : List Bool), (bools xs).all A.one = true) ∧
    (∀ (n : Nat) (xs : List Bool), A.bdL n (bools xs) = true) ∧
    (∀ (xs : List Bool), A.clL (bools xs) = true) ∧
    (∀ (xs : List Bool), flatA 1 (bools xs) = some (bools xs)) ∧
    (∀ (l : List (Int × Int)), (pairs l).length = l.length) ∧
    (∀ (w : Bool) (l : List (Int × Int)) (kk : IntKind) (j : Int) (h1 : 0 ≤ j) (h2 : j < l.length), idxA 2 (.fs w (pairs l)) (.v (.int kk j)) = some (.fp w [.v (.int .i64 (l.getD j.toNat (0, 0)).1), .v (.int .i64 (l.getD j.toNat (0, 0)).2)])) ∧
    (∀ (n : Nat) (l : List (Int × Int)), A.bdL n (pairs l) = true) ∧
    (∀ (l : List (Int × Int)), A.clL (pairs l) = true) ∧
    (∀ (l : List (Int × Int)), flatA 2 (pairs l) = some (pcells l)) ∧
    (∀ (l : List (Int × Int)), (pcells l).length = l.length * 2) ∧
    (∀ (l : List (Int × Int)), (pcells l).all A.one = true) ∧
    (∀ (n : Nat) (l : List (Int × Int)), A.bdL n (pcells l) = true) ∧
    (∀ (l m : List (Int × Int)), pcells l ++ pcells m = pcells (l ++ m)) ∧
    (∀ (l : List (Int × Int)) (x y : Int), pcells l ++ [.v (.int .i64 x), .v (.int .i64 y)] = pcells (l ++ [(x, y)])) ∧
    (∀ (H : List Blk) (w : Bool) (l : List (Int × Int)), newsA H 2 (.fs w (pairs l)) = some (l.length, pcells l)) ∧
    (∀ (w : Bool) (l : List (List Int)), (rows w l).length = l.length) ∧
    (∀ (w : Bool) (l : List (List Int)) (k : Nat) (h : k < l.length), nthA (rows w l) k = some (.fs w (ints (l.getD k [])))) ∧
    (∀ (w v : Bool) (l : List (List Int)) (kk : IntKind) (j : Int) (h1 : 0 ≤ j) (h2 : j < l.length), idxA 1 (.fs w (rows v l)) (.v (.int kk j)) = some (.fp w [.fs v (ints (l.getD j.toNat []))])) ∧
    (∀ (w : Bool) (l : List (List Int)) (k : Nat) (r : List Int) (h : k < l.length), splA (rows w l) k [.fs w (ints r)] = rows w (l.set k r)) ∧
    (∀ (w : Bool) (l : List (List Int)) (r : List Int), rows w l ++ [.fs w (ints r)] = rows w (l ++ [r])) ∧
    (∀ (w : Bool) (l : List (List Int)) (k : Nat) (r : List Int), (rows w l).set k (.fs w (ints r)) = rows w (l.set k r)) ∧
    (∀ (n : Nat) (w : Bool) (l : List (List Int)), (rows w l).take n = rows w (l.take n)) ∧
    (∀ (n : Nat) (w : Bool) (l : List (List Int)), (rows w l).drop n = rows w (l.drop n)) ∧
    (∀ (w : Bool) (l : List (List Int)), (rows w l).all A.one = true) ∧
    (∀ (n : Nat) (w : Bool) (l : List (List Int)), A.bdL n (rows w l) = true) ∧
    (∀ (l : List (List Int)), A.clL (rows true l) = true) ∧
    (∀ (w : Bool) (l : List (List Int)), szB 1 (rows w l) = true) ∧
    (∀ (w : Bool) (l : List (List Int)), flatA 1 (rows w l) = some (rows w l)) ∧
    (∀ (H : List Blk) (v w : Bool) (l : List (List Int)), newsA H 1 (.fs v (rows w l)) = some (l.length, rows w l)) ∧
    (∀ (n : Nat) (xs : List Int) (h : xs.length ≤ n), xs.take n = xs) ∧
    (∀ (n : Nat) (xs : List Bool) (h : xs.length ≤ n), xs.take n = xs) ∧
    (∀ (n : Nat) (xs : List (List Int)) (h : xs.length ≤ n), xs.take n = xs) ∧
    (∀ (n : Nat) (l : List (Int × Int)) (h : n = l.length), (pcells l).take (n * 2) = pcells l) ∧
    (∀ (xs : List Int), xs.drop 0 = xs) ∧
    (∀ (xs : List Bool), xs.drop 0 = xs) ∧
    (∀ (xs : List (List Int)), xs.drop 0 = xs) ∧
    (∀ (xs : List A), xs.take xs.length = xs) ∧
    (∀ (xs : List Int) (k : Nat) (y : Int), (xs.set k y).length = xs.length) ∧
    (∀ (xs : List Bool) (k : Nat) (y : Bool), (xs.set k y).length = xs.length) ∧
    (∀ (xs : List (List Int)) (k : Nat) (y : List Int), (xs.set k y).length = xs.length) ∧
    (∀ (xs : List Int) (y : Int), (xs ++ [y]).length = xs.length + 1) ∧
    (∀ (xs : List Bool) (y : Bool), (xs ++ [y]).length = xs.length + 1) ∧
    (∀ (xs : List (Int × Int)) (y : Int × Int), (xs ++ [y]).length = xs.length + 1) ∧
    (∀ (xs : List (List Int)) (y : List Int), (xs ++ [y]).length = xs.length + 1) ∧
    (∀ (n : Nat) (y : Int), (List.replicate n y).length = n) ∧
    (∀ (n : Nat) (y : Bool), (List.replicate n y).length = n) :=
  ⟨@ii_len, @ii_nth, @ii_idx, @ii_set, @ii_spl, @ii_app1, @ii_app, @ii_rep, @ii_take, @ii_drop, @ii_one, @ii_bd, @ii_cl, @ii_sz, @ii_flat, @ii_new, @b_lenB, @b_nth, @b_idx, @b_set, @b_spl, @b_app1, @b_rep, @b_take, @b_drop, @b_one, @b_bd, @b_cl, @b_flat, @p_len, @p_idx, @p_bd, @p_cl, @p_flat, @pc_len, @pc_one, @pc_bd, @pc_app, @pc_app1, @p_new, @r_len, @r_nth, @r_idx, @r_spl, @r_app1, @r_set, @r_take, @r_drop, @r_one, @r_bd, @r_cl, @r_sz, @r_flat, @r_new, @tkI_all, @tkB_all, @tkR_all, @tkPc, @drI_zero, @drB_zero, @drR_zero, @tk_lenA, @st_lenI, @st_lenB, @st_lenR, @ap_lenI, @ap_lenB, @ap_lenP, @ap_lenR, @rp_lenI, @rp_lenB⟩
theorem aF :
    (∀ (m : Nat) (H : List Blk) (a : A), Fz m H a .any = True) ∧
    (∀ (m : Nat) (H : List Blk) (x : Value), Fz m H (.v x) (.v x) = True) ∧
    (∀ (m : Nat) (H : List Blk) (w : Bool) (l : List A) (h : A.bdL m l = true), Fz m H (.fs w l) (.fs w l) = True) ∧
    (∀ (m : Nat) (H : List Blk) (w : Bool) (l : List A) (h : A.bdL m l = true), Fz m H (.fp w l) (.fp w l) = True) ∧
    (∀ (m : Nat) (H : List Blk) (i ver k o n : Nat) (h : i < m), Fz m H (.sl i ver k o n) (.sl i ver k o n) = True) ∧
    (∀ (m : Nat) (H : List Blk) (i ver o : Nat) (h : i < m), Fz m H (.lp i ver o) (.lp i ver o) = True) ∧
    (∀ (m : Nat) (H : List Blk) (i ver k n : Nat) (h : i < m), Fz m H (.vs i ver k n) (.vs i ver k n) = True) ∧
    (∀ (m : Nat) (H : List Blk) (l : List A) (h : A.bdL m l = true), Fz m H (.agg l) (.agg l) = True) ∧
    (∀ (m : Nat) (H : List Blk) (l : List A) (h : A.bdL m l = true), Fz m H (.tup l) (.tup l) = True) ∧
    (∀ (m : Nat) (H : List Blk) (f : Nat) (l : List A) (h : A.bdL m l = true), Fz m H (.fn f l) (.fn f l) = True) ∧
    (∀ (m : Nat) (H : List Blk) (a b : A) (l r : List A), FzL m H (a :: l) (b :: r) = (Fz m H a b ∧ FzL m H l r)) ∧
    (∀ (m : Nat) (H : List Blk), FzL m H [] [] = True) ∧
    (∀ (m : Nat) (H : List Blk) (l : List A) (h : A.bdL m l = true), FzL m H l l = True) ∧
    (∀ (n : Nat) (a : A) (l : List A), A.bdL n (a :: l) = (a.bd n && A.bdL n l)) ∧
    (∀ (n : Nat), A.bdL n [] = true) ∧
    (∀ (n : Nat), A.bd n .any = true) ∧
    (∀ (n : Nat) (x : Value), A.bd n (.v x) = true) ∧
    (∀ (n : Nat) (w : Bool) (l : List A), A.bd n (.fs w l) = A.bdL n l) ∧
    (∀ (n : Nat) (w : Bool) (l : List A), A.bd n (.fp w l) = A.bdL n l) ∧
    (∀ (n : Nat) (l : List A), A.bd n (.agg l) = A.bdL n l) ∧
    (∀ (n : Nat) (l : List A), A.bd n (.tup l) = A.bdL n l) ∧
    (∀ (n f : Nat) (l : List A), A.bd n (.fn f l) = A.bdL n l) ∧
    (∀ (n i ver k o m : Nat) (h : i < n), A.bd n (.sl i ver k o m) = true) ∧
    (∀ (n i ver o : Nat) (h : i < n), A.bd n (.lp i ver o) = true) ∧
    (∀ (n i ver k m : Nat) (h : i < n), A.bd n (.vs i ver k m) = true) ∧
    (∀ (a : A) (l : List A), A.clL (a :: l) = (a.cl && A.clL l)) ∧
    (A.clL [] = true) ∧
    (∀ (x : Value), A.cl (.v x) = true) ∧
    (∀ (w : Bool) (l : List A), A.cl (.fs w l) = (w && A.clL l)) ∧
    (∀ (w : Bool) (l : List A), A.cl (.fp w l) = (w && A.clL l)) ∧
    (∀ (l : List A), A.cl (.agg l) = A.clL l) ∧
    (∀ (l : List A), A.cl (.tup l) = A.clL l) ∧
    (∀ (i ver k o m : Nat), A.cl (.sl i ver k o m) = true) ∧
    (∀ (i ver o : Nat), A.cl (.lp i ver o) = true) ∧
    (∀ (i ver k m : Nat), A.cl (.vs i ver k m) = true) ∧
    (∀ (H : List Blk) (a : A), Ld H a .any = True) ∧
    (∀ (H : List Blk) (x : Value), Ld H (.v x) (.v x) = True) ∧
    (∀ (H : List Blk) (w : Bool) (l : List A) (h : A.bdL 0 l = true), Ld H (.fs w l) (.fs false l) = True) ∧
    (∀ (H : List Blk) (w : Bool) (l : List A) (h : A.bdL 0 l = true), Ld H (.fs w l) (.fs w l) = True) ∧
    (∀ (H : List Blk) (w : Bool) (l : List A) (h : A.bdL 0 l = true), Ld H (.fp w l) (.fp false l) = True) ∧
    (∀ (H : List Blk) (w : Bool) (l : List A) (h : A.bdL 0 l = true), Ld H (.fp w l) (.fp w l) = True) ∧
    (∀ (H : List Blk) (l r : List A) (h : LdL H l r), Ld H (.agg l) (.agg r) = True) ∧
    (∀ (H : List Blk) (f : Nat) (l : List A) (h : A.bdL 0 l = true), Ld H (.fn f l) (.fn f l) = True) ∧
    (∀ (H : List Blk) (a b : A) (l r : List A), LdL H (a :: l) (b :: r) = (Ld H a b ∧ LdL H l r)) ∧
    (∀ (H : List Blk), LdL H [] [] = True) ∧
    (∀ (m : Nat) (H l : List Blk), FzB m H l [] = True) ∧
    (∀ (m : Nat) (H : List Blk) (v v' : Nat) (c c' : List A) (l r : List Blk), FzB m H (⟨v, c⟩ :: l) (⟨v', c'⟩ :: r) = (v = v' ∧ FzL m H c c' ∧ FzB m H l r)) :=
  ⟨@fz_any, @fz_v, @fz_fs, @fz_fp, @fz_sl, @fz_lp, @fz_vs, @fz_agg, @fz_tup, @fz_fn, @fzl_cons, @fzl_nil, @fzl_refl, @bdl_cons, @bdl_nil, @bd_any, @bd_v, @bd_fs, @bd_fp, @bd_agg, @bd_tup, @bd_fn, @bd_sl, @bd_lp, @bd_vs, @cl_cons, @cl_nil, @cl_v, @cl_fs, @cl_fp, @cl_agg, @cl_tup, @cl_sl, @cl_lp, @cl_vs, @ld_any, @ld_v, @ld_fs, @ld_fs', @ld_fpA, @ld_fp', @ld_aggA, @ld_fnA, @ldl_cons, @ldl_nil, @fzb_nil, @fzb_cons⟩
end Go.Lft
namespace Go.Lft
open Go
set_option linter.unusedVariables false
set_option linter.unusedSimpArgs false

/-- The call gives back r0, and no memory. -/
def isR (r0 : A) : A → List Blk → Prop := fun r G => r = r0 ∧ G = []

theorem VR.use {P : Program} {kp' : Bool} {f : Nat} {args args' : List A} {H : List Blk} {R : A → List Blk → Prop} {r0 : A} (hv : VR P false f args' [] (isR r0)) (hl : LdL H args args') (hc : (r0.cl && r0.bd 0) = true) (h : R r0 H) : VR P kp' f args H R := by
  simp only [Bool.and_eq_true] at hc
  refine (hv.lend hl fun r G hr => ?_).mono fun r H' ⟨r1, G, h1, h2, h3⟩ => ?_
  · obtain ⟨rfl, rfl⟩ := hr; exact ⟨hc.1, fun B hB => by simp at hB⟩
  · obtain ⟨rfl, rfl⟩ := h1
    rw [A.sh_bd _ hc.2] at h2
    subst h2
    rw [h3]; simpa using h

/-- The arguments as they are. -/
theorem VR.same {P : Program} {kp' : Bool} {f : Nat} {args : List A} {H : List Blk} {R : A → List Blk → Prop} {r0 : A} (hv : VR P false f args [] (isR r0)) (hl : A.bdL 0 args = true) (hc : (r0.cl && r0.bd 0) = true) (h : R r0 H) : VR P kp' f args H R :=
  hv.use (LdL.refl hl) hc h

/-- A call that gives back memory of its own. -/
def ownR (r0 : A) (G0 : List Blk) : A → List Blk → Prop := fun r G => r = r0 ∧ G = G0
theorem VR.useO {P : Program} {kp' : Bool} {f : Nat} {args args' : List A} {H : List Blk} {R : A → List Blk → Prop} {r0 : A} {G0 : List Blk} (hv : VR P false f args' [] (ownR r0 G0)) (hl : LdL H args args') (hc : (r0.cl && G0.all fun B => A.clL B.cells) = true)
    (h : R (r0.sh H.length) (H ++ G0.map (Blk.sh H.length))) : VR P kp' f args H R := by
  simp only [Bool.and_eq_true, List.all_eq_true] at hc
  refine (hv.lend hl fun r G hr => ?_).mono fun r H' ⟨r1, G, h1, h2, h3⟩ => ?_
  · obtain ⟨rfl, rfl⟩ := hr; exact hc
  · obtain ⟨rfl, rfl⟩ := h1
    subst h2; subst h3; exact h

theorem vtrue {p : Prop} [Decidable p] (h : p) : A.v (.bool true) = .v (.bool (decide p)) := by simp [h]
theorem vfalse {p : Prop} [Decidable p] (h : ¬ p) : A.v (.bool false) = .v (.bool (decide p)) := by simp [h]
theorem vdec {p q : Prop} [Decidable p] [Decidable q] (h : p ↔ q) : A.v (.bool (decide p)) = .v (.bool (decide q)) := by simp [h]
theorem aret_of {P : Program} {n0 : Nat} {Q : QA} {e : List A} {d : Option Nat} {k : S} {a : A} {H : List Blk} (h : aput P n0 Q e d k a H) : aret P n0 Q e d k a H := aw_sound h

/-- Any memory of one's own is dropped at the end. -/
theorem post0 {H : List Blk} {R : A → List Blk → Prop} {l : List A} {r : A} (hf : Fz 0 H (retA l) r) (h : R r []) : apost 0 H R l :=
  ⟨r, [], Cut.of' 0 rfl (Nat.le_refl _) (by rw [fzb_nil]; trivial) ⟨hf, trivial⟩, h⟩
theorem post_v {H : List Blk} {R : A → List Blk → Prop} {x : Value} (h : R (.v x) []) : apost 0 H R [.v x] := post0 (Fz.refl rfl) h

/-- A nil slice and an error. -/
theorem post_err {H : List Blk} {R : A → List Blk → Prop} {x : Value} (h : R (.tup [.fs true [], .v x]) []) : apost 0 H R [.v (.slice none 0 0), .v x] :=
  post0 (Fz.tup (l := [.v (.slice none 0 0), .v x]) (r := [.fs true [], .v x]) ⟨fz_nil _ _, Fz.refl rfl, trivial⟩) h

/-! ### Loops told by what they change -/
def setL (e : List A) : List (Nat × A) → List A
  | [] => e
  | (i, a) :: r => setL (e.set i a) r
def anyL (e : List A) : List Nat → List A
  | [] => e
  | i :: r => anyL (e.set i .any) r
def setB (H : List Blk) : List (Nat × Blk) → List Blk
  | [] => H
  | (i, B) :: r => setB (H.set i B) r
theorem setL_nil (e : List A) : setL e [] = e := rfl
theorem setL_cons (e : List A) (i : Nat) (a : A) (r : List (Nat × A)) : setL e ((i, a) :: r) = setL (e.set i a) r := rfl
theorem anyL_nil (e : List A) : anyL e [] = e := rfl
theorem anyL_cons (e : List A) (i : Nat) (r : List Nat) : anyL e (i :: r) = anyL (e.set i .any) r := rfl
theorem setB_nil (H : List Blk) : setB H [] = H := rfl
theorem setB_cons (H : List Blk) (i : Nat) (B : Blk) (r : List (Nat × Blk)) : setB H ((i, B) :: r) = setB (H.set i B) r := rfl

theorem AWP.loopP {P : Program} {n0 : Nat} {s : S} {Q : QA} {e : List A} {H : List Blk} {α : Type} (asg : List Nat) (I : α → Prop) (ps : α → List (Nat × A)) (hp : α → List (Nat × Blk)) (m : α → Nat) (a0 : α) (h0 : I a0)
    (hc : Cut n0 e H (setL (anyL e asg) (ps a0)) (setB H (hp a0)))
    (round : ∀ a, I a → s.aw P n0 (lgA n0 I (fun a => setL (anyL e asg) (ps a)) (fun a => setB H (hp a)) m (m a) Q) (setL (anyL e asg) (ps a)) (setB H (hp a))) : AWP P n0 (.loop s) Q e H :=
  AWP.loop I _ _ m a0 h0 hc fun a ha => aw_sound (round a ha)
/-- The same where the memory is told in full. -/
theorem AWP.loopM {P : Program} {n0 : Nat} {s : S} {Q : QA} {e : List A} {H : List Blk} {α : Type} (asg : List Nat) (I : α → Prop) (ps : α → List (Nat × A)) (mem : α → List Blk) (m : α → Nat) (a0 : α) (h0 : I a0)
    (hc : Cut n0 e H (setL (anyL e asg) (ps a0)) (mem a0))
    (round : ∀ a, I a → s.aw P n0 (lgA n0 I (fun a => setL (anyL e asg) (ps a)) mem m (m a) Q) (setL (anyL e asg) (ps a)) (mem a)) : AWP P n0 (.loop s) Q e H :=
  AWP.loop I _ _ m a0 h0 hc fun a ha => aw_sound (round a ha)
/-- A loop that is left in its first round. -/
theorem AWP.once {P : Program} {n0 : Nat} {s : S} {Q : QA} {e : List A} {H : List Blk} (h : s.aw P n0 (lgA n0 (fun _ : Unit => True) (fun _ => e) (fun _ => H) (fun _ => 0) 0 Q) e H) : AWP P n0 (.loop s) Q e H :=
  AWP.loop (fun _ => True) (fun _ => e) (fun _ => H) (fun _ => 0) () trivial (Cut.refl _ _ _) fun _ _ => aw_sound h
theorem aP :
    (∀ (e : List A), setL e [] = e) ∧
    (∀ (e : List A) (i : Nat) (a : A) (r : List (Nat × A)), setL e ((i, a) :: r) = setL (e.set i a) r) ∧
    (∀ (e : List A), anyL e [] = e) ∧
    (∀ (e : List A) (i : Nat) (r : List Nat), anyL e (i :: r) = anyL (e.set i .any) r) ∧
    (∀ (H : List Blk), setB H [] = H) ∧
    (∀ (H : List Blk) (i : Nat) (B : Blk) (r : List (Nat × Blk)), setB H ((i, B) :: r) = setB (H.set i B) r) :=
  ⟨@setL_nil, @setL_cons, @anyL_nil, @anyL_cons, @setB_nil, @setB_cons⟩
end Go.Lft
namespace Go.Lft
open Go
set_option linter.unusedVariables false
set_option linter.unusedSimpArgs false

theorem blkAt_lt {H : List Blk} {i ver : Nat} {l : List A} (h : blkAt H i ver = some l) : i < H.length := by
  obtain ⟨B, h1, _⟩ := blkAt_iff.1 h; exact (List.getElem?_eq_some_iff.1 h1).1
theorem blkAt_set_ne (H : List Blk) (i j ver : Nat) (B : Blk) (h : i ≠ j) : blkAt (H.set j B) i ver = blkAt H i ver := by
  induction H generalizing i j with
  | nil => rfl
  | cons C r ih =>
    cases j with
    | zero => cases i with
      | zero => omega
      | succ i => rfl
    | succ j => cases i with
      | zero => rfl
      | succ i => exact ih i j (by omega)
theorem blkAt_set_same (H : List Blk) (j ver : Nat) (l : List A) (h : j < H.length) : blkAt (H.set j ⟨ver, l⟩) j ver = some l := by
  induction H generalizing j with
  | nil => simp at h
  | cons C r ih =>
    cases j with
    | zero => simp [blkAt]
    | succ j => exact ih j (by simpa using h)
theorem blkAt_app (H l : List Blk) (i ver : Nat) (h : i < H.length) : blkAt (H ++ l) i ver = blkAt H i ver := by
  induction H generalizing i with
  | nil => simp at h
  | cons C r ih =>
    cases i with
    | zero => rfl
    | succ i => exact ih i (by simpa using h)
theorem blkAt_new (H l : List Blk) (k ver : Nat) : blkAt (H ++ l) (H.length + k) ver = blkAt l k ver := by
  induction H with
  | nil => simp
  | cons C r ih => rw [List.cons_append, List.length_cons, show r.length + 1 + k = (r.length + k) + 1 by omega]; exact ih
theorem blkAt_new0 (H l : List Blk) (ver : Nat) : blkAt (H ++ l) H.length ver = blkAt l 0 ver := blkAt_new H l 0 ver
theorem setB_set (H : List Blk) (j : Nat) (B C : Blk) : (H.set j B).set j C = H.set j C := List.set_set _
theorem lenB_set (H : List Blk) (j : Nat) (B : Blk) : (H.set j B).length = H.length := List.length_set
theorem lenB_app (H l : List Blk) : (H ++ l).length = H.length + l.length := List.length_append
theorem setB_app (H l : List Blk) (i : Nat) (B : Blk) (h : i < H.length) : (H ++ l).set i B = H.set i B ++ l := List.set_append_left _ _ h
theorem setB_new (H l : List Blk) (k : Nat) (B : Blk) : (H ++ l).set (H.length + k) B = H ++ l.set k B := by
  rw [List.set_append_right _ _ (by omega)]; congr 2; omega
theorem setB_new0 (H l : List Blk) (B : Blk) : (H ++ l).set H.length B = H ++ l.set 0 B := setB_new H l 0 B
theorem appB_app (H l m : List Blk) : (H ++ l) ++ m = H ++ (l ++ m) := List.append_assoc _ _ _

/-- All cells name blocks below n. -/
def okB (n : Nat) (H : List Blk) : Prop := ∀ B ∈ H, A.bdL n B.cells = true
theorem okB.set {n : Nat} {H : List Blk} (h : okB n H) {j ver : Nat} {l : List A} (hl : A.bdL n l = true) : okB n (H.set j ⟨ver, l⟩) := fun B hB => by
  rcases List.mem_or_eq_of_mem_set hB with h1 | rfl
  · exact h B h1
  · exact hl
theorem okB.app {n : Nat} {H l : List Blk} (h : okB n H) (hl : okB n l) : okB n (H ++ l) := fun B hB => by
  rcases List.mem_append.1 hB with h1 | h1
  · exact h B h1
  · exact hl B h1
mutual
theorem A.bd_up {m n : Nat} (hmn : m ≤ n) : ∀ (a : A), a.bd m = true → a.bd n = true
  | .any, _ => rfl
  | .v _, _ => rfl
  | .agg l, h => bdL_up hmn l h
  | .tup l, h => bdL_up hmn l h
  | .fn _ l, h => bdL_up hmn l h
  | .fs _ l, h => bdL_up hmn l h
  | .fp _ l, h => bdL_up hmn l h
  | .sl i _ _ _ _, h => by simp only [A.bd, decide_eq_true_eq] at h ⊢; omega
  | .lp i _ _, h => by simp only [A.bd, decide_eq_true_eq] at h ⊢; omega
  | .vs i _ _ _, h => by simp only [A.bd, decide_eq_true_eq] at h ⊢; omega
theorem bdL_up {m n : Nat} (hmn : m ≤ n) : ∀ (l : List A), A.bdL m l = true → A.bdL n l = true
  | [], _ => rfl
  | a :: l, h => by
    simp only [A.bdL, Bool.and_eq_true] at h ⊢
    exact ⟨A.bd_up hmn a h.1, bdL_up hmn l h.2⟩
end
theorem okB.up {m n : Nat} {H : List Blk} (h : okB m H) (hmn : m ≤ n) : okB n H := fun B hB => bdL_up hmn _ (h B hB)
/-- What was made besides is dropped. -/
theorem Cut.app {n0 : Nat} {e e' : List A} {H T : List Blk} (hn : n0 ≤ H.length) (hb : okB H.length H) (he : FzL H.length (H ++ T) e e') : Cut n0 e (H ++ T) e' H :=
  Cut.of hn rfl (fun i B' h => ⟨B', by rw [List.getElem?_append_left (List.getElem?_eq_some_iff.1 h).1]; exact h, rfl, FzL.refl (hb B' (List.mem_of_getElem? h))⟩) he
/-- The same where the memory stays; what is named may be forgotten. -/
theorem Cut.same {n0 : Nat} {e e' : List A} {H : List Blk} (hn : n0 ≤ H.length) (hb : okB H.length H) (he : FzL H.length H e e') : Cut n0 e H e' H := by
  have := Cut.app (T := []) hn hb (by simpa using he)
  simpa using this
theorem post2 {n0 : Nat} {H : List Blk} {R : A → List Blk → Prop} {l : List A} (h : R (retA l) H) : apost n0 H R l := ⟨_, H, Cut.refl _ _ _, h⟩

theorem pc_get (l : List (Int × Int)) (j : Nat) (h : j < l.length) : ((pcells l).drop (j * 2)).take 2 = [.v (.int .i64 (l.getD j (0, 0)).1), .v (.int .i64 (l.getD j (0, 0)).2)] := by
  induction l generalizing j with
  | nil => simp at h
  | cons a r ih =>
    cases j with
    | zero => rfl
    | succ j => rw [show (j + 1) * 2 = j * 2 + 1 + 1 by omega]; exact ih j (by simpa using h)
theorem pc_get0 (l : List (Int × Int)) (h : 0 < l.length) : (pcells l).take 2 = [.v (.int .i64 (l.getD 0 (0, 0)).1), .v (.int .i64 (l.getD 0 (0, 0)).2)] := pc_get l 0 h
theorem pc_nth (l : List (Int × Int)) (j : Nat) (h : j < l.length) : nthA (pcells l) (j * 2) = some (.v (.int .i64 (l.getD j (0, 0)).1)) := by
  have := congrArg (·[0]?) (pc_get l j h)
  simpa [nthA_get] using this
theorem pc_nth0 (l : List (Int × Int)) (h : 0 < l.length) : nthA (pcells l) 0 = some (.v (.int .i64 (l.getD 0 (0, 0)).1)) := pc_nth l 0 h
theorem pc_nth1 (l : List (Int × Int)) (j : Nat) (h : j < l.length) : nthA (pcells l) (j * 2 + 1) = some (.v (.int .i64 (l.getD j (0, 0)).2)) := by
  have := congrArg (·[1]?) (pc_get l j h)
  simpa [nthA_get] using this
theorem pc_spl (l : List (Int × Int)) (j : Nat) (x y : Int) (h : j < l.length) : splA (pcells l) (j * 2) [.v (.int .i64 x), .v (.int .i64 y)] = pcells (l.set j (x, y)) := by
  induction l generalizing j with
  | nil => simp at h
  | cons a r ih =>
    cases j with
    | zero => rfl
    | succ j =>
      rw [show (j + 1) * 2 = j * 2 + 1 + 1 by omega, show pcells (a :: r) = .v (.int .i64 a.1) :: .v (.int .i64 a.2) :: pcells r from rfl, spl_succ, spl_succ, ih j (by simpa using h)]; rfl
theorem pc_spl0 (l : List (Int × Int)) (x y : Int) (h : 0 < l.length) : splA (pcells l) 0 [.v (.int .i64 x), .v (.int .i64 y)] = pcells (l.set 0 (x, y)) := pc_spl l 0 x y h
theorem pc_take (l : List (Int × Int)) (n : Nat) : (pcells l).take (n * 2) = pcells (l.take n) := by
  induction l generalizing n with
  | nil => simp [pcells]
  | cons a r ih =>
    cases n with
    | zero => rfl
    | succ n => rw [show (n + 1) * 2 = n * 2 + 1 + 1 by omega, show pcells (a :: r) = .v (.int .i64 a.1) :: .v (.int .i64 a.2) :: pcells r from rfl, List.take_succ_cons, List.take_succ_cons, ih n]; rfl
/-- The front of a block of pairs, lent. -/
theorem ld_slPt (H : List Blk) (i ver : Nat) (n : Nat) (xs : List (Int × Int)) (hn : n ≤ xs.length) (hb : blkAt H i ver = some (pcells xs)) : Ld H (.sl i ver 2 0 n) (.fs false (pairs (xs.take n))) := by
  refine Ld.sl hb (LdL.refl (pc_bd 0 xs)) ?_ ?_ ?_
  · simp only [List.drop_zero]; rw [pc_take]; exact p_flat _
  · simp [p_len, hn]
  · simp [pc_len]; omega

theorem aH :
    (∀ (H : List Blk) (i j ver : Nat) (B : Blk) (h : i ≠ j), blkAt (H.set j B) i ver = blkAt H i ver) ∧
    (∀ (H : List Blk) (j ver : Nat) (l : List A) (h : j < H.length), blkAt (H.set j ⟨ver, l⟩) j ver = some l) ∧
    (∀ (H l : List Blk) (i ver : Nat) (h : i < H.length), blkAt (H ++ l) i ver = blkAt H i ver) ∧
    (∀ (H l : List Blk) (k ver : Nat), blkAt (H ++ l) (H.length + k) ver = blkAt l k ver) ∧
    (∀ (H l : List Blk) (ver : Nat), blkAt (H ++ l) H.length ver = blkAt l 0 ver) ∧
    (∀ (H : List Blk) (j : Nat) (B C : Blk), (H.set j B).set j C = H.set j C) ∧
    (∀ (H : List Blk) (j : Nat) (B : Blk), (H.set j B).length = H.length) ∧
    (∀ (H l : List Blk), (H ++ l).length = H.length + l.length) ∧
    (∀ (H l : List Blk) (i : Nat) (B : Blk) (h : i < H.length), (H ++ l).set i B = H.set i B ++ l) ∧
    (∀ (H l : List Blk) (k : Nat) (B : Blk), (H ++ l).set (H.length + k) B = H ++ l.set k B) ∧
    (∀ (H l : List Blk) (B : Blk), (H ++ l).set H.length B = H ++ l.set 0 B) ∧
    (∀ (H l m : List Blk), (H ++ l) ++ m = H ++ (l ++ m)) ∧
    (∀ (l : List (Int × Int)) (j : Nat) (h : j < l.length), ((pcells l).drop (j * 2)).take 2 = [.v (.int .i64 (l.getD j (0, 0)).1), .v (.int .i64 (l.getD j (0, 0)).2)]) ∧
    (∀ (l : List (Int × Int)) (h : 0 < l.length), (pcells l).take 2 = [.v (.int .i64 (l.getD 0 (0, 0)).1), .v (.int .i64 (l.getD 0 (0, 0)).2)]) ∧
    (∀ (l : List (Int × Int)) (j : Nat) (h : j < l.length), nthA (pcells l) (j * 2) = some (.v (.int .i64 (l.getD j (0, 0)).1))) ∧
    (∀ (l : List (Int × Int)) (h : 0 < l.length), nthA (pcells l) 0 = some (.v (.int .i64 (l.getD 0 (0, 0)).1))) ∧
    (∀ (l : List (Int × Int)) (j : Nat) (h : j < l.length), nthA (pcells l) (j * 2 + 1) = some (.v (.int .i64 (l.getD j (0, 0)).2))) ∧
    (∀ (l : List (Int × Int)) (j : Nat) (x y : Int) (h : j < l.length), splA (pcells l) (j * 2) [.v (.int .i64 x), .v (.int .i64 y)] = pcells (l.set j (x, y))) ∧
    (∀ (l : List (Int × Int)) (x y : Int) (h : 0 < l.length), splA (pcells l) 0 [.v (.int .i64 x), .v (.int .i64 y)] = pcells (l.set 0 (x, y))) ∧
    (∀ (l : List (Int × Int)) (n : Nat), (pcells l).take (n * 2) = pcells (l.take n)) :=
  ⟨@blkAt_set_ne, @blkAt_set_same, @blkAt_app, @blkAt_new, @blkAt_new0, @setB_set, @lenB_set, @lenB_app, @setB_app, @setB_new, @setB_new0, @appB_app, @pc_get, @pc_get0, @pc_nth, @pc_nth0, @pc_nth1, @pc_spl, @pc_spl0, @pc_take⟩
end Go.Lft
