/- Freezing and lending values that name memory in depth. Plain lemmas; no statement is claimed here. -/
import Derived.Test.YtjhdedifmhkhbaaVl
namespace Go.Lft
open Go
set_option linter.unusedVariables false
set_option linter.unusedSimpArgs false

/-! ### Freezing and lending all that a value names, told by what comes out -/
theorem FzL.cat {m : Nat} {H : List Blk} : ∀ {l r l' r' : List A}, FzL m H l l' → FzL m H r r' → FzL m H (l ++ r) (l' ++ r')
  | [], r, [], r', _, h => h
  | a :: l, r, b :: l', r', h, k => ⟨h.1, FzL.cat h.2 k⟩
  | [], _, _ :: _, _, h, _ => h.elim
  | _ :: _, _, [], _, h, _ => h.elim
theorem FzL.anys {m : Nat} {H : List Blk} : ∀ (l : List A), FzL m H l (List.replicate l.length .any)
  | [] => trivial
  | a :: l => ⟨Fz.any, FzL.anys l⟩
theorem LdL.cat {H : List Blk} : ∀ {l r l' r' : List A}, LdL H l l' → LdL H r r' → LdL H (l ++ r) (l' ++ r')
  | [], r, [], r', _, h => h
  | a :: l, r, b :: l', r', h, k => ⟨h.1, LdL.cat h.2 k⟩
  | [], _, _ :: _, _, h, _ => h.elim
  | _ :: _, _, [], _, h, _ => h.elim
theorem LdL.anys {H : List Blk} : ∀ (l : List A), LdL H l (List.replicate l.length .any)
  | [] => trivial
  | a :: l => ⟨Ld.any, LdL.anys l⟩
theorem part_eq {l : List A} {o m : Nat} (h : o + m ≤ l.length) : l.take o ++ ((l.drop o).take m ++ l.drop (o + m)) = l := by
  rw [← List.drop_drop, List.take_append_drop, List.take_append_drop]
theorem part_get {l : List A} {o m : Nat} (h : o + m ≤ l.length) {c : List A} (hc : c.length = m) : ((List.replicate (l.take o).length A.any ++ (c ++ List.replicate (l.drop (o + m)).length A.any)).drop o).take m = c := by
  have h1 : (l.take o).length = o := by simp; omega
  rw [h1, List.drop_append_of_le_length (by simp), List.drop_of_length_le (by simp), List.nil_append, List.take_append_of_le_length (by omega), List.take_of_length_le (by omega)]

def frzL (F : A → A → Prop) : List A → List A → Prop
  | [], [] => True
  | a :: l, b :: r => F a b ∧ frzL F l r
  | _, _ => False
def frzP (H : List Blk) : Nat → A → A → Prop
  | 0, _, _ => False
  | d + 1, a, b => match a, b with
    | _, .any => True
    | .v (.slice none 0 0), .fs true [] => True
    | .v x, .v y => x = y
    | .agg l, .agg r => frzL (frzP H d) l r
    | .tup l, .tup r => frzL (frzP H d) l r
    | .fn f l, .fn g r => f = g ∧ frzL (frzP H d) l r
    | .fs w l, .fs w' l' => A.bdL 0 l = true ∧ w = w' ∧ l = l'
    | .fp w l, .fp w' l' => A.bdL 0 l = true ∧ w = w' ∧ l = l'
    | .sl i ver k o n, .fs true els => ∃ l, blkAt H i ver = some l ∧ ∃ c, flatA k els = some c ∧ els.length = n ∧ o + n * k ≤ l.length ∧ frzL (frzP H d) ((l.drop o).take (n * k)) c
    | .vs i ver k n, .fs true els => ∃ l, blkAt H i ver = some l ∧ ∃ c, flatA k els = some c ∧ els.length = n ∧ n * k ≤ l.length ∧ frzL (frzP H d) (l.take (n * k)) c
    | .lp i ver o, .fp true c => ∃ l, blkAt H i ver = some l ∧ o ≤ l.length ∧ frzL (frzP H d) (l.drop o) c
    | _, _ => False
theorem frzL_len {F : A → A → Prop} : ∀ {l r : List A}, frzL F l r → l.length = r.length
  | [], [], _ => rfl
  | a :: l, b :: r, h => by simp [frzL_len h.2]
  | [], _ :: _, h => h.elim
  | _ :: _, [], h => h.elim
theorem frzL_sound {H : List Blk} {F : A → A → Prop} (hF : ∀ a b, F a b → Fz 0 H a b) : ∀ {l r : List A}, frzL F l r → FzL 0 H l r
  | [], [], _ => trivial
  | a :: l, b :: r, h => ⟨hF a b h.1, frzL_sound hF h.2⟩
  | [], _ :: _, h => h.elim
  | _ :: _, [], h => h.elim
theorem frzP_sound {H : List Blk} : ∀ (d : Nat) (a b : A), frzP H d a b → Fz 0 H a b
  | 0, a, b, h => h.elim
  | d + 1, a, b, h => by
    have ih := fun {l r : List A} (h : frzL (frzP H d) l r) => frzL_sound (frzP_sound d) h
    unfold frzP at h
    split at h
    · exact Fz.any
    · exact fz_nil _ _
    · subst h; exact Fz.refl rfl
    · exact Fz.agg (ih h)
    · exact Fz.tup (ih h)
    · obtain ⟨rfl, h⟩ := h; exact Fz.fn (ih h)
    · obtain ⟨h, rfl, rfl⟩ := h; exact Fz.refl h
    · obtain ⟨h, rfl, rfl⟩ := h; exact Fz.refl h
    · obtain ⟨l, h1, c, h2, h3, h4, h5⟩ := h
      have hc := frzL_len h5
      rw [List.length_take, List.length_drop] at hc
      rename_i i ver k o n els
      have h6 : FzL 0 H l (List.replicate (l.take o).length A.any ++ (c ++ List.replicate (l.drop (o + n * k)).length A.any)) := by
        have := FzL.cat (FzL.anys (m := 0) (H := H) (l.take o)) (FzL.cat (ih h5) (FzL.anys (l.drop (o + n * k))))
        rwa [part_eq h4] at this
      exact Fz.sl (Nat.zero_le _) h1 h6 (by rw [part_get h4 (by omega)]; exact h2) h3 (by have := h6.len; omega)
    · obtain ⟨l, h1, c, h2, h3, h4, h5⟩ := h
      have hc := frzL_len h5
      rw [List.length_take] at hc
      rename_i i ver k n els
      have h6 : FzL 0 H l (c ++ List.replicate (l.drop (n * k)).length A.any) := by
        have := FzL.cat (ih h5) (FzL.anys (l.drop (n * k)))
        rwa [List.take_append_drop] at this
      exact Fz.vs (Nat.zero_le _) h1 h6 (by rw [List.take_append_of_le_length (by omega), List.take_of_length_le (by omega)]; exact h2) h3 (by have := h6.len; omega)
    · obtain ⟨l, h1, h4, h5⟩ := h
      rename_i o c
      have h6 : FzL 0 H l (List.replicate (l.take o).length A.any ++ c) := by
        have := FzL.cat (FzL.anys (m := 0) (H := H) (l.take o)) (ih h5)
        rwa [List.take_append_drop] at this
      have h7 := Fz.lp (m := 0) (o := o) (Nat.zero_le _) h1 h6 (by have := h6.len; omega)
      have e : (List.replicate (l.take o).length A.any ++ c).drop o = c := by
        have : (l.take o).length = o := by simp; omega
        rw [this, List.drop_append_of_le_length (by simp), List.drop_of_length_le (by simp), List.nil_append]
      rw [e] at h7; exact h7
    · exact h.elim
theorem fz_all {H : List Blk} {a b : A} (h : frzP H 9 a b) : Fz 0 H a b := frzP_sound 9 a b h

def lndP (H : List Blk) : Nat → A → A → Prop
  | 0, _, _ => False
  | d + 1, a, b => match a, b with
    | _, .any => True
    | .v (.slice none 0 0), .fs false [] => True
    | .v x, .v y => x = y
    | .agg l, .agg r => frzL (lndP H d) l r
    | .fn f l, .fn g r => f = g ∧ frzL (lndP H d) l r
    | .fs w l, .fs w' l' => A.bdL 0 l = true ∧ (w = w' ∨ w' = false) ∧ l = l'
    | .fp w l, .fp w' l' => A.bdL 0 l = true ∧ (w = w' ∨ w' = false) ∧ l = l'
    | .sl i ver k o n, .fs false els => ∃ l, blkAt H i ver = some l ∧ ∃ c, flatA k els = some c ∧ els.length = n ∧ o + n * k ≤ l.length ∧ frzL (lndP H d) ((l.drop o).take (n * k)) c
    | .vs i ver k n, .fs false els => ∃ l, blkAt H i ver = some l ∧ ∃ c, flatA k els = some c ∧ els.length = n ∧ n * k ≤ l.length ∧ frzL (lndP H d) (l.take (n * k)) c
    | .lp i ver o, .fp false c => ∃ l, blkAt H i ver = some l ∧ o ≤ l.length ∧ frzL (lndP H d) (l.drop o) c
    | _, _ => False
theorem lndL_sound {H : List Blk} {F : A → A → Prop} (hF : ∀ a b, F a b → Ld H a b) : ∀ {l r : List A}, frzL F l r → LdL H l r
  | [], [], _ => trivial
  | a :: l, b :: r, h => ⟨hF a b h.1, lndL_sound hF h.2⟩
  | [], _ :: _, h => h.elim
  | _ :: _, [], h => h.elim
theorem lndP_sound {H : List Blk} : ∀ (d : Nat) (a b : A), lndP H d a b → Ld H a b
  | 0, a, b, h => h.elim
  | d + 1, a, b, h => by
    have ih := fun {l r : List A} (h : frzL (lndP H d) l r) => lndL_sound (lndP_sound d) h
    unfold lndP at h
    split at h
    · exact Ld.any
    · exact ld_nilA _
    · subst h; exact Ld.refl rfl
    · exact Ld.agg (ih h)
    · obtain ⟨rfl, h⟩ := h; exact Ld.fn (ih h)
    · obtain ⟨h, rfl | rfl, rfl⟩ := h
      · exact Ld.refl h
      · exact Ld.fs h
    · obtain ⟨h, rfl | rfl, rfl⟩ := h
      · exact Ld.refl h
      · exact Ld.fp h
    · obtain ⟨l, h1, c, h2, h3, h4, h5⟩ := h
      have hc := frzL_len h5
      rw [List.length_take, List.length_drop] at hc
      rename_i i ver k o n els
      have h6 : LdL H l (List.replicate (l.take o).length A.any ++ (c ++ List.replicate (l.drop (o + n * k)).length A.any)) := by
        have := LdL.cat (LdL.anys (H := H) (l.take o)) (LdL.cat (ih h5) (LdL.anys (l.drop (o + n * k))))
        rwa [part_eq h4] at this
      exact Ld.sl h1 h6 (by rw [part_get h4 (by omega)]; exact h2) h3 (by simp; omega)
    · obtain ⟨l, h1, c, h2, h3, h4, h5⟩ := h
      have hc := frzL_len h5
      rw [List.length_take] at hc
      rename_i i ver k n els
      have h6 : LdL H l (c ++ List.replicate (l.drop (n * k)).length A.any) := by
        have := LdL.cat (ih h5) (LdL.anys (l.drop (n * k)))
        rwa [List.take_append_drop] at this
      exact Ld.vs h1 h6 (by rw [List.take_append_of_le_length (by omega), List.take_of_length_le (by omega)]; exact h2) h3 (by simp; omega)
    · obtain ⟨l, h1, h4, h5⟩ := h
      rename_i o c
      have hc := frzL_len h5
      have h6 : LdL H l (List.replicate (l.take o).length A.any ++ c) := by
        have := LdL.cat (LdL.anys (H := H) (l.take o)) (ih h5)
        rwa [List.take_append_drop] at this
      have h7 := Ld.lp (o := o) h1 h6 (by simp; omega)
      have e : (List.replicate (l.take o).length A.any ++ c).drop o = c := by
        have : (l.take o).length = o := by simp; omega
        rw [this, List.drop_append_of_le_length (by simp), List.drop_of_length_le (by simp), List.nil_append]
      rw [e] at h7; exact h7
    · exact h.elim
theorem ld_all {H : List Blk} {l r : List A} (h : frzL (lndP H 9) l r) : LdL H l r := lndL_sound (lndP_sound 9) h


section
variable (H : List Blk) (d : Nat)
theorem frzL_nil (F : A → A → Prop) : frzL F [] [] = True := rfl
theorem frzL_cons (F : A → A → Prop) (a b : A) (l r : List A) : frzL F (a :: l) (b :: r) = (F a b ∧ frzL F l r) := rfl
theorem fzp_any (a : A) : frzP H (d + 1) a .any = True := by unfold frzP; cases a <;> first | rfl | (rename_i x; cases x <;> rfl)
theorem fzp_nil : frzP H (d + 1) (.v (.slice none 0 0)) (.fs true []) = True := rfl
theorem fzp_v (x y : Value) : frzP H (d + 1) (.v x) (.v y) = (x = y) := by unfold frzP; split <;> simp_all
theorem fzp_agg (l r : List A) : frzP H (d + 1) (.agg l) (.agg r) = frzL (frzP H d) l r := rfl
theorem fzp_tup (l r : List A) : frzP H (d + 1) (.tup l) (.tup r) = frzL (frzP H d) l r := rfl
theorem fzp_fn (f g : Nat) (l r : List A) : frzP H (d + 1) (.fn f l) (.fn g r) = (f = g ∧ frzL (frzP H d) l r) := rfl
theorem fzp_fs (w w' : Bool) (l r : List A) : frzP H (d + 1) (.fs w l) (.fs w' r) = (A.bdL 0 l = true ∧ w = w' ∧ l = r) := by cases w <;> cases w' <;> cases r <;> rfl
theorem fzp_fp (w w' : Bool) (l r : List A) : frzP H (d + 1) (.fp w l) (.fp w' r) = (A.bdL 0 l = true ∧ w = w' ∧ l = r) := by cases w <;> cases w' <;> cases r <;> rfl
theorem fzp_sl (i ver k o n : Nat) (els : List A) : frzP H (d + 1) (.sl i ver k o n) (.fs true els) = ∃ l, blkAt H i ver = some l ∧ ∃ c, flatA k els = some c ∧ els.length = n ∧ o + n * k ≤ l.length ∧ frzL (frzP H d) ((l.drop o).take (n * k)) c := by cases els <;> rfl
theorem fzp_vs (i ver k n : Nat) (els : List A) : frzP H (d + 1) (.vs i ver k n) (.fs true els) = ∃ l, blkAt H i ver = some l ∧ ∃ c, flatA k els = some c ∧ els.length = n ∧ n * k ≤ l.length ∧ frzL (frzP H d) (l.take (n * k)) c := by cases els <;> rfl
theorem fzp_lp (i ver o : Nat) (c : List A) : frzP H (d + 1) (.lp i ver o) (.fp true c) = ∃ l, blkAt H i ver = some l ∧ o ≤ l.length ∧ frzL (frzP H d) (l.drop o) c := by cases c <;> rfl
theorem ldp_any (a : A) : lndP H (d + 1) a .any = True := by unfold lndP; cases a <;> first | rfl | (rename_i x; cases x <;> rfl)
theorem ldp_nil : lndP H (d + 1) (.v (.slice none 0 0)) (.fs false []) = True := rfl
theorem ldp_v (x y : Value) : lndP H (d + 1) (.v x) (.v y) = (x = y) := by unfold lndP; split <;> simp_all
theorem ldp_agg (l r : List A) : lndP H (d + 1) (.agg l) (.agg r) = frzL (lndP H d) l r := rfl
theorem ldp_fn (f g : Nat) (l r : List A) : lndP H (d + 1) (.fn f l) (.fn g r) = (f = g ∧ frzL (lndP H d) l r) := rfl
theorem ldp_fs (w w' : Bool) (l r : List A) : lndP H (d + 1) (.fs w l) (.fs w' r) = (A.bdL 0 l = true ∧ (w = w' ∨ w' = false) ∧ l = r) := by cases w <;> cases w' <;> cases r <;> rfl
theorem ldp_fp (w w' : Bool) (l r : List A) : lndP H (d + 1) (.fp w l) (.fp w' r) = (A.bdL 0 l = true ∧ (w = w' ∨ w' = false) ∧ l = r) := by cases w <;> cases w' <;> cases r <;> rfl
theorem ldp_sl (i ver k o n : Nat) (els : List A) : lndP H (d + 1) (.sl i ver k o n) (.fs false els) = ∃ l, blkAt H i ver = some l ∧ ∃ c, flatA k els = some c ∧ els.length = n ∧ o + n * k ≤ l.length ∧ frzL (lndP H d) ((l.drop o).take (n * k)) c := by cases els <;> rfl
theorem ldp_vs (i ver k n : Nat) (els : List A) : lndP H (d + 1) (.vs i ver k n) (.fs false els) = ∃ l, blkAt H i ver = some l ∧ ∃ c, flatA k els = some c ∧ els.length = n ∧ n * k ≤ l.length ∧ frzL (lndP H d) (l.take (n * k)) c := by cases els <;> rfl
theorem ldp_lp (i ver o : Nat) (c : List A) : lndP H (d + 1) (.lp i ver o) (.fp false c) = ∃ l, blkAt H i ver = some l ∧ o ≤ l.length ∧ frzL (lndP H d) (l.drop o) c := by cases c <;> rfl
end
def flc (k : Nat) (l : List A) (cs : List A) : Option (List A) := if cs.length = k then (flatA k l).map (cs ++ ·) else none
theorem flat_nil (k : Nat) : flatA k [] = some [] := rfl
theorem flat_cons (k : Nat) (a : A) (l : List A) (cs : List A) (h1 : a.cells = some cs) (h2 : cs.length = k) : flatA k (a :: l) = (flatA k l).map (cs ++ ·) := by
  simp only [flatA, h1, Option.bind_some, h2, if_true]
  cases flatA k l <;> rfl
end Go.Lft
