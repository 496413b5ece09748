/- Lemmas and walks that the proof of LayoutForward uses. No statement is claimed here. -/
import Derived.Test.YtjhdedifmhkhbaaLayoutForwardZal
import Derived.WideShapes
import Derived.ChangeShapes
namespace Go.Lft
open Go Go.WideShapes
set_option linter.unusedVariables false
set_option linter.unusedSimpArgs false

theorem arg_open {Hh : Type} {enc : TypeId × Value → Hh} {P : Program} {w : World} {base b0 : Nat} {spare : Nat → Bool} {held : Bool} {r : Reach} (u : Bool) (ty : Ty) {t : TypeId} {v : Value} {d : DataW Hh} {ps : List MemPlace}
    (hi : ty.Is P t) (hok : Value.okWide P w r b0 t v) (h : DataW.Trod enc P w base spare held t v d ps) : ∃ es, ty.Sh u es ∧ Rel (fun _ => hp w) (fun _ _ => none) (ty.pk es) v := by
  obtain ⟨fuel, hf⟩ := h
  obtain ⟨es, h1, h2⟩ := Ty.open u ty hi hf
  refine ⟨es, h2, ?_⟩
  have single : v.cells.toList = [v] → (∃ a, es = [a]) → (∀ a, es = [a] → ty.pk es = a) → Rel (fun _ => hp w) (fun _ _ => none) (ty.pk es) v := fun hv ⟨a, ha⟩ hp => by
    rw [hp a ha]
    rw [hv, ha] at h1
    exact h1.2 0 a v rfl rfl
  cases ty with
  | int k =>
    simp only [Ty.Is] at hi
    obtain ⟨n, rfl⟩ := okWide_int hi hok
    simp only [Ty.Sh] at h2
    obtain ⟨m, rfl, _⟩ := h2
    exact single rfl ⟨_, rfl⟩ fun a ha => by cases ha; rfl
  | bool =>
    simp only [Ty.Is] at hi
    obtain ⟨n, rfl⟩ := okWide_bool hi hok
    simp only [Ty.Sh] at h2
    obtain ⟨m, rfl⟩ := h2
    exact single rfl ⟨_, rfl⟩ fun a ha => by cases ha; rfl
  | str =>
    simp only [Ty.Is] at hi
    obtain ⟨n, rfl⟩ := okWide_string hi hok
    simp only [Ty.Sh] at h2
    obtain ⟨m, rfl, _⟩ := h2
    exact single rfl ⟨_, rfl⟩ fun a ha => by cases ha; rfl
  | sl e =>
    simp only [Ty.Is] at hi
    obtain ⟨x, hx, _⟩ := hi
    obtain ⟨a, len, cap, rfl⟩ := okWide_slice hx hok
    simp only [Ty.Sh] at h2
    obtain ⟨m, rfl, _⟩ := h2
    exact single rfl ⟨_, rfl⟩ fun a ha => by cases ha; rfl
  | ar k e =>
    simp only [Ty.Is] at hi
    obtain ⟨x, hx, _⟩ := hi
    have hok' : ∃ cs : Array Value, v = .agg cs := by
      simp only [Value.okWide, hx] at hok
      obtain ⟨cs, h1, _⟩ := hok
      exact ⟨cs, h1⟩
    obtain ⟨cs, rfl⟩ := hok'
    have h1' : RL (fun _ => hp w) (fun _ _ => none) es cs.toList := h1
    have := Rel.agg (g := fun _ => hp w) (σ := fun _ _ => none) es cs.toList h1'.1 h1'.2
    simpa [Ty.pk] using this
  | st l =>
    simp only [Ty.Is] at hi
    obtain ⟨fs, hx, _⟩ := hi
    obtain ⟨cs, rfl, _⟩ := okWide_struct hx hok
    have h1' : RL (fun _ => hp w) (fun _ _ => none) es cs.toList := h1
    have := Rel.agg (g := fun _ => hp w) (σ := fun _ _ => none) es cs.toList h1'.1 h1'.2
    simpa [Ty.pk] using this

/-- A law's call, from the contract of its function. -/
theorem law_calls {P : Program} {f : Nat} {args : List A} {vs : List Value} {w : World} (hv : VR P false f args [] (isR (.v (.bool true)))) (hr : RL (fun _ => hp w) (fun _ _ => none) args vs) :
    Calls P f vs.toArray w fun e w' => e = .returned (.bool true) ∧ Go.RowKit.Below w.heap.size w w' :=
  law_of (VR.law (hv.mono fun r G h => h.1) hr)
end Go.Lft
namespace Go.Lft
open Go
set_option linter.unusedVariables false
set_option linter.unusedSimpArgs false

theorem AWP.mono {P : Program} {n0 : Nat} {s : S} {Q Q' : QA} {e : List A} {H : List Blk} (hq : ∀ x e H, Q x e H → Q' x e H) (h : AWP P n0 s Q e H) : AWP P n0 s Q' e H :=
  fun c ev h1 h2 h3 h4 => S.wp_mono s (fun x e' h' ⟨e2, d, k1, k2, k3⟩ => ⟨e2, d, k1, hq _ _ _ k2, k3⟩) (h c ev h1 h2 h3 h4)

/-- A contract of which less is told. -/
theorem VR.cut {P : Program} {kp : Bool} {f : Nat} {args : List A} {H : List Blk} {R R' : A → List Blk → Prop} (h : VR P kp f args H R) (hc : ∀ r G, R r G → ∃ r' G', Cut H.length [r] G [r'] G' ∧ R' r' G') : VR P kp f args H R' := fun c vs hH hs hr =>
  (h c vs hH hs hr).mono fun v h' ⟨hk, r, d, e1, e2, e3, e4, e5⟩ => by
    obtain ⟨r', G', hcut, hR⟩ := hc r d.H e2
    obtain ⟨d', q1, q2, q3, q4, q5⟩ := hcut d [v] rfl (e3.len (by rw [hH]; exact Nat.le_refl _)) e4 (RL.cons e5 RL.nil)
    obtain ⟨x, xs, e6, e7, _⟩ := q5.uncons
    injection e6 with e6 _
    exact ⟨hk, r', d', q2.trans e1, q1 ▸ hR, e3.trans q3, q4, e6 ▸ e7⟩
/-! ### Freezing and lending all that a value names, told by what comes out -/
theorem FzL.cat {m : Nat} {H : List Blk} : ∀ {l r l' r' : List A}, FzL m H l l' → FzL m H r r' → FzL m H (l ++ r) (l' ++ r')
  | [], r, [], r', _, h => h
  | a :: l, r, b :: l', r', h, k => ⟨h.1, FzL.cat h.2 k⟩
  | [], _, _ :: _, _, h, _ => h.elim
  | _ :: _, _, [], _, h, _ => h.elim
theorem FzL.anys {m : Nat} {H : List Blk} : ∀ (l : List A), FzL m H l (List.replicate l.length .any)
  | [] => trivial
  | a :: l => ⟨Fz.any, FzL.anys l⟩
theorem LdL.cat {H : List Blk} : ∀ {l r l' r' : List A}, LdL H l l' → LdL H r r' → LdL H (l ++ r) (l' ++ r')
  | [], r, [], r', _, h => h
  | a :: l, r, b :: l', r', h, k => ⟨h.1, LdL.cat h.2 k⟩
  | [], _, _ :: _, _, h, _ => h.elim
  | _ :: _, _, [], _, h, _ => h.elim
theorem LdL.anys {H : List Blk} : ∀ (l : List A), LdL H l (List.replicate l.length .any)
  | [] => trivial
  | a :: l => ⟨Ld.any, LdL.anys l⟩
theorem part_eq {l : List A} {o m : Nat} (h : o + m ≤ l.length) : l.take o ++ ((l.drop o).take m ++ l.drop (o + m)) = l := by
  rw [← List.drop_drop, List.take_append_drop, List.take_append_drop]
theorem part_get {l : List A} {o m : Nat} (h : o + m ≤ l.length) {c : List A} (hc : c.length = m) : ((List.replicate (l.take o).length A.any ++ (c ++ List.replicate (l.drop (o + m)).length A.any)).drop o).take m = c := by
  have h1 : (l.take o).length = o := by simp; omega
  rw [h1, List.drop_append_of_le_length (by simp), List.drop_of_length_le (by simp), List.nil_append, List.take_append_of_le_length (by omega), List.take_of_length_le (by omega)]

def frzL (F : A → A → Prop) : List A → List A → Prop
  | [], [] => True
  | a :: l, b :: r => F a b ∧ frzL F l r
  | _, _ => False
def frzP (H : List Blk) : Nat → A → A → Prop
  | 0, _, _ => False
  | d + 1, a, b => match a, b with
    | _, .any => True
    | .v (.slice none 0 0), .fs true [] => True
    | .v x, .v y => x = y
    | .agg l, .agg r => frzL (frzP H d) l r
    | .tup l, .tup r => frzL (frzP H d) l r
    | .fn f l, .fn g r => f = g ∧ frzL (frzP H d) l r
    | .fs w l, .fs w' l' => A.bdL 0 l = true ∧ w = w' ∧ l = l'
    | .fp w l, .fp w' l' => A.bdL 0 l = true ∧ w = w' ∧ l = l'
    | .sl i ver k o n, .fs true els => ∃ l, blkAt H i ver = some l ∧ ∃ c, flatA k els = some c ∧ els.length = n ∧ o + n * k ≤ l.length ∧ frzL (frzP H d) ((l.drop o).take (n * k)) c
    | .vs i ver k n, .fs true els => ∃ l, blkAt H i ver = some l ∧ ∃ c, flatA k els = some c ∧ els.length = n ∧ n * k ≤ l.length ∧ frzL (frzP H d) (l.take (n * k)) c
    | .lp i ver o, .fp true c => ∃ l, blkAt H i ver = some l ∧ o ≤ l.length ∧ frzL (frzP H d) (l.drop o) c
    | _, _ => False
theorem frzL_len {F : A → A → Prop} : ∀ {l r : List A}, frzL F l r → l.length = r.length
  | [], [], _ => rfl
  | a :: l, b :: r, h => by simp [frzL_len h.2]
  | [], _ :: _, h => h.elim
  | _ :: _, [], h => h.elim
theorem frzL_sound {H : List Blk} {F : A → A → Prop} (hF : ∀ a b, F a b → Fz 0 H a b) : ∀ {l r : List A}, frzL F l r → FzL 0 H l r
  | [], [], _ => trivial
  | a :: l, b :: r, h => ⟨hF a b h.1, frzL_sound hF h.2⟩
  | [], _ :: _, h => h.elim
  | _ :: _, [], h => h.elim
theorem frzP_sound {H : List Blk} : ∀ (d : Nat) (a b : A), frzP H d a b → Fz 0 H a b
  | 0, a, b, h => h.elim
  | d + 1, a, b, h => by
    have ih := fun {l r : List A} (h : frzL (frzP H d) l r) => frzL_sound (frzP_sound d) h
    unfold frzP at h
    split at h
    · exact Fz.any
    · exact fz_nil _ _
    · subst h; exact Fz.refl rfl
    · exact Fz.agg (ih h)
    · exact Fz.tup (ih h)
    · obtain ⟨rfl, h⟩ := h; exact Fz.fn (ih h)
    · obtain ⟨h, rfl, rfl⟩ := h; exact Fz.refl h
    · obtain ⟨h, rfl, rfl⟩ := h; exact Fz.refl h
    · obtain ⟨l, h1, c, h2, h3, h4, h5⟩ := h
      have hc := frzL_len h5
      rw [List.length_take, List.length_drop] at hc
      rename_i i ver k o n els
      have h6 : FzL 0 H l (List.replicate (l.take o).length A.any ++ (c ++ List.replicate (l.drop (o + n * k)).length A.any)) := by
        have := FzL.cat (FzL.anys (m := 0) (H := H) (l.take o)) (FzL.cat (ih h5) (FzL.anys (l.drop (o + n * k))))
        rwa [part_eq h4] at this
      exact Fz.sl (Nat.zero_le _) h1 h6 (by rw [part_get h4 (by omega)]; exact h2) h3 (by have := h6.len; omega)
    · obtain ⟨l, h1, c, h2, h3, h4, h5⟩ := h
      have hc := frzL_len h5
      rw [List.length_take] at hc
      rename_i i ver k n els
      have h6 : FzL 0 H l (c ++ List.replicate (l.drop (n * k)).length A.any) := by
        have := FzL.cat (ih h5) (FzL.anys (l.drop (n * k)))
        rwa [List.take_append_drop] at this
      exact Fz.vs (Nat.zero_le _) h1 h6 (by rw [List.take_append_of_le_length (by omega), List.take_of_length_le (by omega)]; exact h2) h3 (by have := h6.len; omega)
    · obtain ⟨l, h1, h4, h5⟩ := h
      rename_i o c
      have h6 : FzL 0 H l (List.replicate (l.take o).length A.any ++ c) := by
        have := FzL.cat (FzL.anys (m := 0) (H := H) (l.take o)) (ih h5)
        rwa [List.take_append_drop] at this
      have h7 := Fz.lp (m := 0) (o := o) (Nat.zero_le _) h1 h6 (by have := h6.len; omega)
      have e : (List.replicate (l.take o).length A.any ++ c).drop o = c := by
        have : (l.take o).length = o := by simp; omega
        rw [this, List.drop_append_of_le_length (by simp), List.drop_of_length_le (by simp), List.nil_append]
      rw [e] at h7; exact h7
    · exact h.elim
theorem fz_all {H : List Blk} {a b : A} (h : frzP H 9 a b) : Fz 0 H a b := frzP_sound 9 a b h

def lndP (H : List Blk) : Nat → A → A → Prop
  | 0, _, _ => False
  | d + 1, a, b => match a, b with
    | _, .any => True
    | .v (.slice none 0 0), .fs false [] => True
    | .v x, .v y => x = y
    | .agg l, .agg r => frzL (lndP H d) l r
    | .fn f l, .fn g r => f = g ∧ frzL (lndP H d) l r
    | .fs w l, .fs w' l' => A.bdL 0 l = true ∧ (w = w' ∨ w' = false) ∧ l = l'
    | .fp w l, .fp w' l' => A.bdL 0 l = true ∧ (w = w' ∨ w' = false) ∧ l = l'
    | .sl i ver k o n, .fs false els => ∃ l, blkAt H i ver = some l ∧ ∃ c, flatA k els = some c ∧ els.length = n ∧ o + n * k ≤ l.length ∧ frzL (lndP H d) ((l.drop o).take (n * k)) c
    | .vs i ver k n, .fs false els => ∃ l, blkAt H i ver = some l ∧ ∃ c, flatA k els = some c ∧ els.length = n ∧ n * k ≤ l.length ∧ frzL (lndP H d) (l.take (n * k)) c
    | .lp i ver o, .fp false c => ∃ l, blkAt H i ver = some l ∧ o ≤ l.length ∧ frzL (lndP H d) (l.drop o) c
    | _, _ => False
theorem lndL_sound {H : List Blk} {F : A → A → Prop} (hF : ∀ a b, F a b → Ld H a b) : ∀ {l r : List A}, frzL F l r → LdL H l r
  | [], [], _ => trivial
  | a :: l, b :: r, h => ⟨hF a b h.1, lndL_sound hF h.2⟩
  | [], _ :: _, h => h.elim
  | _ :: _, [], h => h.elim
theorem lndP_sound {H : List Blk} : ∀ (d : Nat) (a b : A), lndP H d a b → Ld H a b
  | 0, a, b, h => h.elim
  | d + 1, a, b, h => by
    have ih := fun {l r : List A} (h : frzL (lndP H d) l r) => lndL_sound (lndP_sound d) h
    unfold lndP at h
    split at h
    · exact Ld.any
    · exact ld_nilA _
    · subst h; exact Ld.refl rfl
    · exact Ld.agg (ih h)
    · obtain ⟨rfl, h⟩ := h; exact Ld.fn (ih h)
    · obtain ⟨h, rfl | rfl, rfl⟩ := h
      · exact Ld.refl h
      · exact Ld.fs h
    · obtain ⟨h, rfl | rfl, rfl⟩ := h
      · exact Ld.refl h
      · exact Ld.fp h
    · obtain ⟨l, h1, c, h2, h3, h4, h5⟩ := h
      have hc := frzL_len h5
      rw [List.length_take, List.length_drop] at hc
      rename_i i ver k o n els
      have h6 : LdL H l (List.replicate (l.take o).length A.any ++ (c ++ List.replicate (l.drop (o + n * k)).length A.any)) := by
        have := LdL.cat (LdL.anys (H := H) (l.take o)) (LdL.cat (ih h5) (LdL.anys (l.drop (o + n * k))))
        rwa [part_eq h4] at this
      exact Ld.sl h1 h6 (by rw [part_get h4 (by omega)]; exact h2) h3 (by simp; omega)
    · obtain ⟨l, h1, c, h2, h3, h4, h5⟩ := h
      have hc := frzL_len h5
      rw [List.length_take] at hc
      rename_i i ver k n els
      have h6 : LdL H l (c ++ List.replicate (l.drop (n * k)).length A.any) := by
        have := LdL.cat (ih h5) (LdL.anys (l.drop (n * k)))
        rwa [List.take_append_drop] at this
      exact Ld.vs h1 h6 (by rw [List.take_append_of_le_length (by omega), List.take_of_length_le (by omega)]; exact h2) h3 (by simp; omega)
    · obtain ⟨l, h1, h4, h5⟩ := h
      rename_i o c
      have hc := frzL_len h5
      have h6 : LdL H l (List.replicate (l.take o).length A.any ++ c) := by
        have := LdL.cat (LdL.anys (H := H) (l.take o)) (ih h5)
        rwa [List.take_append_drop] at this
      have h7 := Ld.lp (o := o) h1 h6 (by simp; omega)
      have e : (List.replicate (l.take o).length A.any ++ c).drop o = c := by
        have : (l.take o).length = o := by simp; omega
        rw [this, List.drop_append_of_le_length (by simp), List.drop_of_length_le (by simp), List.nil_append]
      rw [e] at h7; exact h7
    · exact h.elim
theorem ld_all {H : List Blk} {l r : List A} (h : frzL (lndP H 9) l r) : LdL H l r := lndL_sound (lndP_sound 9) h


section
variable (H : List Blk) (d : Nat)
theorem frzL_nil (F : A → A → Prop) : frzL F [] [] = True := rfl
theorem frzL_cons (F : A → A → Prop) (a b : A) (l r : List A) : frzL F (a :: l) (b :: r) = (F a b ∧ frzL F l r) := rfl
theorem fzp_any (a : A) : frzP H (d + 1) a .any = True := by unfold frzP; cases a <;> first | rfl | (rename_i x; cases x <;> rfl)
theorem fzp_nil : frzP H (d + 1) (.v (.slice none 0 0)) (.fs true []) = True := rfl
theorem fzp_v (x y : Value) : frzP H (d + 1) (.v x) (.v y) = (x = y) := by unfold frzP; split <;> simp_all
theorem fzp_agg (l r : List A) : frzP H (d + 1) (.agg l) (.agg r) = frzL (frzP H d) l r := rfl
theorem fzp_tup (l r : List A) : frzP H (d + 1) (.tup l) (.tup r) = frzL (frzP H d) l r := rfl
theorem fzp_fn (f g : Nat) (l r : List A) : frzP H (d + 1) (.fn f l) (.fn g r) = (f = g ∧ frzL (frzP H d) l r) := rfl
theorem fzp_fs (w w' : Bool) (l r : List A) : frzP H (d + 1) (.fs w l) (.fs w' r) = (A.bdL 0 l = true ∧ w = w' ∧ l = r) := by cases w <;> cases w' <;> cases r <;> rfl
theorem fzp_fp (w w' : Bool) (l r : List A) : frzP H (d + 1) (.fp w l) (.fp w' r) = (A.bdL 0 l = true ∧ w = w' ∧ l = r) := by cases w <;> cases w' <;> cases r <;> rfl
theorem fzp_sl (i ver k o n : Nat) (els : List A) : frzP H (d + 1) (.sl i ver k o n) (.fs true els) = ∃ l, blkAt H i ver = some l ∧ ∃ c, flatA k els = some c ∧ els.length = n ∧ o + n * k ≤ l.length ∧ frzL (frzP H d) ((l.drop o).take (n * k)) c := by cases els <;> rfl
theorem fzp_vs (i ver k n : Nat) (els : List A) : frzP H (d + 1) (.vs i ver k n) (.fs true els) = ∃ l, blkAt H i ver = some l ∧ ∃ c, flatA k els = some c ∧ els.length = n ∧ n * k ≤ l.length ∧ frzL (frzP H d) (l.take (n * k)) c := by cases els <;> rfl
theorem fzp_lp (i ver o : Nat) (c : List A) : frzP H (d + 1) (.lp i ver o) (.fp true c) = ∃ l, blkAt H i ver = some l ∧ o ≤ l.length ∧ frzL (frzP H d) (l.drop o) c := by cases c <;> rfl
theorem ldp_any (a : A) : lndP H (d + 1) a .any = True := by unfold lndP; cases a <;> first | rfl | (rename_i x; cases x <;> rfl)
theorem ldp_nil : lndP H (d + 1) (.v (.slice none 0 0)) (.fs false []) = True := rfl
theorem ldp_v (x y : Value) : lndP H (d + 1) (.v x) (.v y) = (x = y) := by unfold lndP; split <;> simp_all
theorem ldp_agg (l r : List A) : lndP H (d + 1) (.agg l) (.agg r) = frzL (lndP H d) l r := rfl
theorem ldp_fn (f g : Nat) (l r : List A) : lndP H (d + 1) (.fn f l) (.fn g r) = (f = g ∧ frzL (lndP H d) l r) := rfl
theorem ldp_fs (w w' : Bool) (l r : List A) : lndP H (d + 1) (.fs w l) (.fs w' r) = (A.bdL 0 l = true ∧ (w = w' ∨ w' = false) ∧ l = r) := by cases w <;> cases w' <;> cases r <;> rfl
theorem ldp_fp (w w' : Bool) (l r : List A) : lndP H (d + 1) (.fp w l) (.fp w' r) = (A.bdL 0 l = true ∧ (w = w' ∨ w' = false) ∧ l = r) := by cases w <;> cases w' <;> cases r <;> rfl
theorem ldp_sl (i ver k o n : Nat) (els : List A) : lndP H (d + 1) (.sl i ver k o n) (.fs false els) = ∃ l, blkAt H i ver = some l ∧ ∃ c, flatA k els = some c ∧ els.length = n ∧ o + n * k ≤ l.length ∧ frzL (lndP H d) ((l.drop o).take (n * k)) c := by cases els <;> rfl
theorem ldp_vs (i ver k n : Nat) (els : List A) : lndP H (d + 1) (.vs i ver k n) (.fs false els) = ∃ l, blkAt H i ver = some l ∧ ∃ c, flatA k els = some c ∧ els.length = n ∧ n * k ≤ l.length ∧ frzL (lndP H d) (l.take (n * k)) c := by cases els <;> rfl
theorem ldp_lp (i ver o : Nat) (c : List A) : lndP H (d + 1) (.lp i ver o) (.fp false c) = ∃ l, blkAt H i ver = some l ∧ o ≤ l.length ∧ frzL (lndP H d) (l.drop o) c := by cases c <;> rfl
end
end Go.Lft
namespace Go.Proofs.Ytjhdedifmhkhbaa
open Go Go.Lft
set_option linter.unusedSimpArgs false
set_option linter.unusedVariables false
attribute [local congr] ob_congr bw_congr ib_congr ck_congr iwA_congr itA_congr aw_congr awp_congr sqA_congr bkA_congr vr_congr gd_congr

def exP (a b : Int) : Pl := ⟨1, [[[a, b]], [[]]], [⟨0, 0, 1, 2⟩, ⟨0, 1, 0, 3⟩], 0⟩
theorem example_vr (a b : Int) : VR P false n_law34_example [.v (.int .i64 a), .v (.int .i64 b)] [] (isR (plA true true (exP a b))) := by
  refine vr_law34_example (by simp) (.inr rfl) fun _ _ => ?_
  simp (disch := ((try simp only [List.length_set, List.length_replicate, List.length_append, List.length_cons, List.length_nil]); omega)) only [aW, aX, aV, aB, aN, aL, aP, aH, aM, s_law34_example, v_law34_example, r_law34_example]
  refine post0 (fz_all ?_) ⟨rfl, rfl⟩
  simp [frzL_nil, frzL_cons, fzp_any, fzp_nil, fzp_v, fzp_agg, fzp_tup, fzp_fn, fzp_fs, fzp_fp, fzp_sl, fzp_vs, fzp_lp, ldp_any, ldp_nil, ldp_v, ldp_agg, ldp_fn, ldp_fs, ldp_fp, ldp_sl, ldp_vs, ldp_lp, blkAt, flatA, A.cells, A.one, Lft.one, retA, A.bdL, A.bd, exP, plA, plC, mcs, mcA, mcC, bts, btA, btC, rows, ints]

def loopsR (p : Pl) : List (List Int) × Int := if pcheck p ≠ 0 then ([], pcheck p) else (keepG (arcsR p) (gst p.ms.length (arcsR p) p.ms.length).2, 0)
theorem gcheck_plant {p : Pl} (h : POk p) : gcheck p.ms.length (arcsR p) = 0 := by
  unfold gcheck
  have h1 := h.n1
  have h2 := h.n2
  have h3 := h.b2
  have h4 := arcsR_len p
  rw [if_neg (by omega), if_neg (by omega), if_neg]
  rintro ⟨i, hi, hb⟩
  rw [arcsR_get p i (by omega)] at hb
  have := h.bt _ (mem_get b0 (show i < p.bs.length by omega))
  unfold arcBad at hb
  simp only at hb
  omega
theorem inR_plant {p : Pl} (h : POk p) : inR p.ms.length (arcsR p) := (gcheck_ok (gcheck_plant h)).2.2.2
theorem r_sh (n : Nat) (w : Bool) (l : List (List Int)) : A.shL n (rows w l) = rows w l := shL_bd _ (r_bd 0 w l)
theorem b_sh (n : Nat) (l : List Bool) : A.shL n (bools l) = bools l := shL_bd _ (b_bd 0 l)

theorem VR.vsl {P : Program} {kp : Bool} {f i ver k n : Nat} {l : List A} {H : List Blk} {R : A → List Blk → Prop} (hn : 0 < n) (h : VR P kp f (.sl i ver k 0 n :: l) H R) : VR P kp f (.vs i ver k n :: l) H R := fun c vs hH hs hr => by
  obtain ⟨x, xs, rfl, h1, h2⟩ := hr.uncons
  refine h c (x :: xs) hH hs (RL.cons ?_ h2)
  cases h1 with
  | vs0 => omega
  | vs i ver k n b s o' cp e1 e2 e3 => exact .sl i ver k 0 n b s o' cp e1 e2 fun hc => by have := e3 hc; omega
theorem gst_pos (n : Int) (l : Arcs) : ∀ v, 0 < v → 0 < (gst n l v).2.length
  | 1, _ => by simp [gst]
  | v + 2, _ => by
    have := gst_pos n l (v + 1) (by omega)
    rw [show v + 2 = (v + 1) + 1 from rfl]
    unfold gst
    split
    · exact this
    · simp
/-- The front of a block, frozen. -/
theorem fz_frontR (m : Nat) (H : List Blk) (i ver : Nat) (xs : List (List Int)) (T : List A) (n : Nat) (hi : m ≤ i) (hn : n = xs.length) (hb : blkAt H i ver = some (rows true xs ++ T)) : Fz m H (.sl i ver 1 0 n) (.fs true (rows true xs)) := by
  subst hn
  refine Fz.sl hi hb (FzL.cat (FzL.refl (r_bd m true xs)) (FzL.anys T)) ?_ (r_len _ _) ?_
  · rw [List.drop_zero, Nat.mul_one, List.take_append_of_le_length (by rw [r_len]; exact Nat.le_refl _), List.take_of_length_le (by rw [r_len]; exact Nat.le_refl _)]
    exact r_flat _ _
  · simp [r_len]

theorem layoutLoops_vr {w v : Bool} (p : Pl) : VR P false n_layout_Loops [plA w v p] [] (isR (.tup [.fs true (rows true (loopsR p).1), .v (.int .i64 (loopsR p).2)])) := by
  refine vr_layout_Loops (by simp) (.inr rfl) fun _ _ => ?_
  unfold plA plC loopsR
  simp (disch := ((try simp only [List.length_set, List.length_replicate, List.length_append, List.length_cons, List.length_nil]); omega)) only [aW, aX, aV, aB, aN, aL, aP, aH, aM, s_layout_Loops, v_layout_Loops]
  refine (layoutGraph_vr (w := w) (v := v) p).same (by unfold plA plC; simp (disch := first | omega | simp (disch := omega) only [aF, aL, aN, aM]) only [aW, aX, aV, aB, aN, aL, aP, aH, aM, aF, Int.natCast_add, Int.natCast_mul, Int.add_sub_cancel, List.length_nil, Int.cast_ofNat_Int, and_true, true_and]) (by unfold graphT graphA; simp (disch := first | omega | simp (disch := omega) only [aF, aL, aN, aM]) only [aW, aX, aV, aB, aN, aL, aP, aH, aM, aF, Int.natCast_add, Int.natCast_mul, Int.add_sub_cancel, List.length_nil, Int.cast_ofNat_Int, and_true, true_and]) (aret_of ?_)
  unfold graphT graphA
  by_cases h1 : pcheck p = 0
  · have ok := pcheck_ok h1
    have hn2 := ok.n2
    have hb2 := ok.b2
    have hal := arcsR_len p
    rw [pgraph_ok h1, if_neg (by omega)]
    simp (disch := ((try simp only [List.length_set, List.length_replicate, List.length_append, List.length_cons, List.length_nil]); omega)) only [aW, aX, aV, aB, aN, aL, aP, aH, aM]
    have hg := groupsO_vr (w := true) p.ms.length (arcsR p) (gcheck_plant ok)
    have hgl := gst_len p.ms.length (arcsR p) (p.ms.length : Int).toNat
    rw [show ((p.ms.length : Int)).toNat = p.ms.length from Int.toNat_natCast _] at hg hgl
    have hG : groupsG p.ms.length (arcsR p) = [⟨0, [.v (.int .i64 p.ms.length), .any]⟩, ⟨0, bools (tab p.ms.length (gst p.ms.length (arcsR p) p.ms.length).1)⟩, ⟨(gst p.ms.length (arcsR p) p.ms.length).2.length, rows true (gst p.ms.length (arcsR p) p.ms.length).2⟩] := rfl
    rw [hG] at hg
    have hgp := gst_pos p.ms.length (arcsR p) p.ms.length ok.n1
    generalize (gst p.ms.length (arcsR p) p.ms.length).2 = gs at hg hgl hgp ⊢
    generalize tab p.ms.length (gst p.ms.length (arcsR p) p.ms.length).1 = D at hg ⊢
    refine hg.useO (LdL.refl (by simp (disch := first | omega | simp (disch := omega) only [aF, aL, aN, aM]) only [aW, aX, aV, aB, aN, aL, aP, aH, aM, aF, Int.natCast_add, Int.natCast_mul, Int.add_sub_cancel, List.length_nil, Int.cast_ofNat_Int, and_true, true_and])) (by simp (disch := first | omega | simp (disch := omega) only [aF, aL, aN, aM]) only [aW, aX, aV, aB, aN, aL, aP, aH, aM, aF, Int.natCast_add, Int.natCast_mul, Int.add_sub_cancel, List.length_nil, Int.cast_ofNat_Int, and_true, true_and, List.all_cons, List.all_nil]; rfl) ?_
    refine aret_of ?_
    simp (disch := ((try simp only [List.length_set, List.length_replicate, List.length_append, List.length_cons, List.length_nil]); omega)) only [aW, aX, aV, aB, aN, aL, aP, aH, aM, A.sh, A.shL, Blk.sh, List.map_cons, List.map_nil, r_sh, b_sh]
    refine VR.vsl hgp ?_
    refine (deleteFunc_vr (w := true) p.ms.length (arcsR p) (by omega) gs (by omega) ⟨0, _⟩ ⟨0, _⟩ ⟨0, _⟩ gs.length (by simp (disch := first | omega | simp (disch := omega) only [aF, aL, aN, aM]) only [aW, aX, aV, aB, aN, aL, aP, aH, aM, aF, Int.natCast_add, Int.natCast_mul, Int.add_sub_cancel, List.length_nil, Int.cast_ofNat_Int, and_true, true_and]) (by simp (disch := first | omega | simp (disch := omega) only [aF, aL, aN, aM]) only [aW, aX, aV, aB, aN, aL, aP, aH, aM, aF, Int.natCast_add, Int.natCast_mul, Int.add_sub_cancel, List.length_nil, Int.cast_ofNat_Int, and_true, true_and]) (by simp (disch := first | omega | simp (disch := omega) only [aF, aL, aN, aM]) only [aW, aX, aV, aB, aN, aL, aP, aH, aM, aF, Int.natCast_add, Int.natCast_mul, Int.add_sub_cancel, List.length_nil, Int.cast_ofNat_Int, and_true, true_and])).mono ?_
    rintro r H' ⟨rfl, T, rfl⟩
    refine aret_of ?_
    simp (disch := ((try simp only [List.length_set, List.length_replicate, List.length_append, List.length_cons, List.length_nil]); omega)) only [aW, aX, aV, aB, aN, aL, aP, aH, aM, r_layout_Loops]
    exact post0 (r := .tup [.fs true (rows true (keepG (arcsR p) gs)), .v (.int .i64 0)]) (Fz.tup ⟨fz_frontR 0 _ 4 _ _ T _ (by omega) rfl (by simp (disch := ((try simp only [List.length_set, List.length_replicate, List.length_append, List.length_cons, List.length_nil]); omega)) only [aW, aX, aV, aB, aN, aL, aP, aH, aM]), Fz.refl rfl, trivial⟩) ⟨rfl, rfl⟩
  · rw [pgraph_err h1, if_pos h1]
    simp (disch := ((try simp only [List.length_set, List.length_replicate, List.length_append, List.length_cons, List.length_nil]); omega)) only [aW, aX, aV, aB, aN, aL, aP, aH, aM, r_layout_Loops]
    exact post_err ⟨rfl, rfl⟩

end Go.Proofs.Ytjhdedifmhkhbaa
namespace Go.Proofs.Ytjhdedifmhkhbaa
open Go Go.Lft
set_option linter.unusedSimpArgs false
set_option linter.unusedVariables false

def tyPlant : Ty := (.st [(.int .i64), (.sl (.st [(.sl (.sl (.int .i64)))])), (.sl (.st [(.int .i64), (.int .i64), (.int .i64), (.int .i64)])), (.int .i64)])
theorem tyPlant_is : tyPlant.Is Try.prog 25 := by
  unfold tyPlant
  simp only [Ty.Is]
  refine ⟨_, Try.underlying25, by kernel_rfl, ?_⟩
  simp only [Ty.IsL, Ty.Is]
  refine ⟨by first | rfl | trivial, by kernel_rfl, ?_, ?_⟩
  ·
    exact Try.underlying3
  refine ⟨by first | rfl | trivial, by kernel_rfl, ?_, ?_⟩
  ·
    refine ⟨48, Try.underlying22, by kernel_rfl, by decide, ?_⟩
    refine ⟨_, Try.underlying48, by kernel_rfl, ?_⟩
    simp only [Ty.IsL, Ty.Is]
    refine ⟨by first | rfl | trivial, by kernel_rfl, ?_, ?_⟩
    ·
      refine ⟨53, Try.underlying42, by kernel_rfl, by decide, ?_⟩
      refine ⟨3, Try.underlying53, by kernel_rfl, by decide, ?_⟩
      exact Try.underlying3
    trivial
  refine ⟨by first | rfl | trivial, by kernel_rfl, ?_, ?_⟩
  ·
    refine ⟨51, Try.underlying23, by kernel_rfl, by decide, ?_⟩
    refine ⟨_, Try.underlying51, by kernel_rfl, ?_⟩
    simp only [Ty.IsL, Ty.Is]
    refine ⟨by first | rfl | trivial, by kernel_rfl, ?_, ?_⟩
    ·
      exact Try.underlying3
    refine ⟨by first | rfl | trivial, by kernel_rfl, ?_, ?_⟩
    ·
      exact Try.underlying3
    refine ⟨by first | rfl | trivial, by kernel_rfl, ?_, ?_⟩
    ·
      exact Try.underlying3
    refine ⟨by first | rfl | trivial, by kernel_rfl, ?_, ?_⟩
    ·
      exact Try.underlying3
    trivial
  refine ⟨by first | rfl | trivial, by kernel_rfl, ?_, ?_⟩
  ·
    exact Try.underlying3
  trivial
theorem list_of {α : Type} {w : Bool} (t : Ty) (f : α → A) (Q : α → Prop) (h1 : ∀ ce, t.Sh w ce → ∃ x, t.pk ce = f x ∧ Q x) : ∀ (L : List (List A)), (∀ ce ∈ L, t.Sh w ce) → ∃ l : List α, L.map t.pk = l.map f ∧ L.length = l.length ∧ ∀ x ∈ l, Q x
  | [], _ => ⟨[], rfl, rfl, by simp⟩
  | ce :: L, h => by
    obtain ⟨l, hl, hn, hq⟩ := list_of t f Q h1 L fun x hx => h x (by simp [hx])
    obtain ⟨x, hx, hqx⟩ := h1 ce (h ce (by simp))
    exact ⟨x :: l, by rw [List.map_cons, hl, hx]; rfl, by simp [hn], fun y hy => by
      rcases List.mem_cons.1 hy with rfl | hy
      · exact hqx
      · exact hq y hy⟩
theorem i64_of {w : Bool} {ce : List A} (h : (Ty.int .i64).Sh w ce) : ∃ n : Int, (Ty.int .i64).pk ce = .v (.int .i64 n) ∧ (Lit.int .i64 n).wf = true := by
  simp only [Ty.Sh] at h
  obtain ⟨n, rfl, h⟩ := h; exact ⟨n, rfl, h⟩
theorem wf_i64 {n : Int} (h : (Lit.int .i64 n).wf = true) : -9223372036854775808 ≤ n ∧ n ≤ 9223372036854775807 := by
  simp only [Lit.wf, Bool.and_eq_true, decide_eq_true_eq] at h
  have h1 : IntKind.i64.max = 9223372036854775807 := rfl
  have h2 : IntKind.i64.min = -9223372036854775808 := rfl
  omega
/-- A row of numbers; all are numbers of the kind. -/
def fit (n : Int) : Prop := -9223372036854775808 ≤ n ∧ n ≤ 9223372036854775807
theorem ints_of {w : Bool} {ce : List A} (h : (Ty.sl (.int .i64)).Sh w ce) : ∃ l : List Int, (Ty.sl (.int .i64)).pk ce = .fs w (ints l) ∧ l.length ≤ maxLen ∧ ∀ x ∈ l, fit x := by
  simp only [Ty.Sh] at h
  obtain ⟨L, rfl, hn, h⟩ := h
  obtain ⟨l, h1, h2, h3⟩ := list_of (w := w) (.int .i64) (fun n => A.v (.int .i64 n)) fit (fun ce hce => by
    obtain ⟨n, e1, e2⟩ := i64_of hce; exact ⟨n, e1, wf_i64 e2⟩) L (fun ce hce => by simp only [Ty.Sh]; exact h ce hce)
  exact ⟨l, by show A.fs w _ = _; rw [h1]; rfl, by omega, h3⟩
theorem rows_of {w : Bool} {ce : List A} (h : (Ty.sl (.sl (.int .i64))).Sh w ce) : ∃ l : List (List Int), (Ty.sl (.sl (.int .i64))).pk ce = .fs w (rows w l) ∧ l.length ≤ maxLen ∧ ∀ r ∈ l, r.length ≤ maxLen ∧ ∀ x ∈ r, fit x := by
  simp only [Ty.Sh] at h
  obtain ⟨L, rfl, hn, h⟩ := h
  obtain ⟨l, h1, h2, h3⟩ := list_of (w := w) (.sl (.int .i64)) (fun r => A.fs w (ints r)) (fun r => r.length ≤ maxLen ∧ ∀ x ∈ r, fit x) (fun ce hce => ints_of hce) L (fun ce hce => by simp only [Ty.Sh]; exact h ce hce)
  exact ⟨l, by show A.fs w _ = _; rw [h1]; rfl, by omega, h3⟩
theorem mc_of {w : Bool} {ce : List A} (h : (Ty.st [.sl (.sl (.int .i64))]).Sh w ce) : ∃ m : Mc, (Ty.st [.sl (.sl (.int .i64))]).pk ce = mcA w m ∧ m.length ≤ maxLen ∧ ∀ r ∈ m, r.length ≤ maxLen ∧ ∀ x ∈ r, fit x := by
  simp only [Ty.Sh, Ty.ShL] at h
  obtain ⟨a, b, rfl, h, rfl⟩ := h
  obtain ⟨m, h1, h2, h3⟩ := rows_of (w := w) (ce := a) (by simp only [Ty.Sh]; exact h)
  obtain ⟨L, rfl, _⟩ := h
  exact ⟨m, by rw [show (Ty.sl (.sl (.int .i64))).pk [A.fs w (L.map (Ty.sl (.int .i64)).pk)] = .fs w (L.map (Ty.sl (.int .i64)).pk) from rfl] at h1; show A.agg _ = _; rw [List.append_nil, h1]; rfl, h2, h3⟩
theorem bt_of {w : Bool} {ce : List A} (h : (Ty.st [.int .i64, .int .i64, .int .i64, .int .i64]).Sh w ce) : ∃ b : Bt, (Ty.st [.int .i64, .int .i64, .int .i64, .int .i64]).pk ce = btA b ∧ True := by
  simp only [Ty.Sh, Ty.ShL] at h
  obtain ⟨_, _, rfl, ⟨x, rfl, _⟩, _, _, rfl, ⟨y, rfl, _⟩, _, _, rfl, ⟨z, rfl, _⟩, _, _, rfl, ⟨u, rfl, _⟩, rfl⟩ := h
  exact ⟨⟨x, y, z, u⟩, rfl, trivial⟩
theorem plant_of {cl : List A} (h : tyPlant.Sh true cl) : ∃ p, tyPlant.pk cl = plA true true p := by
  unfold tyPlant at h ⊢
  simp only [Ty.Sh, Ty.ShL] at h
  obtain ⟨_, _, rfl, ⟨x, rfl, _⟩, _, _, rfl, ⟨L, rfl, _, hL⟩, _, _, rfl, ⟨M, rfl, _, hM⟩, _, _, rfl, ⟨y, rfl, _⟩, rfl⟩ := h
  obtain ⟨ms, h1, _⟩ := list_of (w := true) (.st [.sl (.sl (.int .i64))]) (mcA true) (fun _ => True) (fun ce hce => by
    obtain ⟨m, e, _⟩ := mc_of hce; exact ⟨m, e, trivial⟩) L (fun ce hce => by simp only [Ty.Sh, Ty.ShL]; exact hL ce hce)
  obtain ⟨bs, h2, _⟩ := list_of (w := true) (.st [.int .i64, .int .i64, .int .i64, .int .i64]) btA (fun _ => True) (fun ce hce => bt_of hce) M (fun ce hce => by simp only [Ty.Sh, Ty.ShL]; exact hM ce hce)
  exact ⟨⟨x, ms, bs, y⟩, by rw [h1, h2]; rfl⟩
end Go.Proofs.Ytjhdedifmhkhbaa
namespace Go.Proofs.Ytjhdedifmhkhbaa
open Go Go.Lft
set_option linter.unusedSimpArgs false
set_option linter.unusedVariables false
attribute [local congr] ob_congr bw_congr ib_congr ck_congr iwA_congr itA_congr aw_congr awp_congr sqA_congr bkA_congr vr_congr gd_congr

theorem great_vr {w v : Bool} (p : Pl) : VR P false n_law34_great [plA w v p] [] (fun r G => G = [] ∧ ∃ b : Bool, r = .v (.bool b)) := by
  refine vr_law34_great (by simp) (.inr rfl) fun _ _ => ?_
  unfold plA plC
  simp (disch := ((try simp only [List.length_set, List.length_replicate, List.length_append, List.length_cons, List.length_nil]); omega)) only [aW, aX, aV, aB, aN, aL, aP, aH, aM, s_law34_great, v_law34_great]
  refine ib_intro (fun h1 => ?_) (fun h1 => ?_)
  · simp (disch := ((try simp only [List.length_set, List.length_replicate, List.length_append, List.length_cons, List.length_nil]); omega)) only [aW, aX, aV, aB, aN, aL, aP, aH, aM, r_law34_great]
    exact post_v ⟨rfl, _, rfl⟩
  simp (disch := ((try simp only [List.length_set, List.length_replicate, List.length_append, List.length_cons, List.length_nil]); omega)) only [aW, aX, aV, aB, aN, aL, aP, aH, aM]
  refine AWP.loopP g_law34_great_0 (fun k : Nat => k ≤ p.ms.length) (fun k => [(1, .v (.bool false)), (3, .v (.int .i64 k))]) (fun _ => []) (fun k => p.ms.length - k) 0 (by omega) (by refine Cut.of' (1) ?_ (by omega) ?_ ?_ <;> simp (disch := first | omega | simp (disch := omega) only [aF, aL, aN, aM]) only [aW, aX, aV, aB, aN, aL, aP, aH, aM, aF, Int.natCast_add, Int.natCast_mul, Int.add_sub_cancel, List.length_nil, Int.cast_ofNat_Int, and_true, true_and]) ?_
  rintro k hk
  by_cases hlt : k < p.ms.length
  · simp (disch := ((try simp only [List.length_set, List.length_replicate, List.length_append, List.length_cons, List.length_nil]); omega)) only [aW, aX, aV, aB, aN, aL, aP, aH, aM]
    refine ib_intro (fun h2 => ?_) (fun h2 => ?_)
    · simp (disch := ((try simp only [List.length_set, List.length_replicate, List.length_append, List.length_cons, List.length_nil]); omega)) only [aW, aX, aV, aB, aN, aL, aP, aH, aM, r_law34_great]
      exact post_v ⟨rfl, _, rfl⟩
    simp (disch := ((try simp only [List.length_set, List.length_replicate, List.length_append, List.length_cons, List.length_nil]); omega)) only [aW, aX, aV, aB, aN, aL, aP, aH, aM]
    refine AWP.loopP g_law34_great_1 (fun j : Nat => j ≤ (p.ms.getD k []).length) (fun j => [(1, .v (.bool false)), (4, .v (.int .i64 j))]) (fun _ => []) (fun j => (p.ms.getD k []).length - j) 0 (by omega) (by refine Cut.of' (1) ?_ (by omega) ?_ ?_ <;> simp (disch := first | omega | simp (disch := omega) only [aF, aL, aN, aM]) only [aW, aX, aV, aB, aN, aL, aP, aH, aM, aF, Int.natCast_add, Int.natCast_mul, Int.add_sub_cancel, List.length_nil, Int.cast_ofNat_Int, and_true, true_and]) ?_
    rintro j hj
    by_cases hjl : j < (p.ms.getD k []).length
    · simp (disch := ((try simp only [List.length_set, List.length_replicate, List.length_append, List.length_cons, List.length_nil]); omega)) only [aW, aX, aV, aB, aN, aL, aP, aH, aM]
      refine ib_intro (fun h3 => ?_) (fun h3 => ?_)
      · simp (disch := ((try simp only [List.length_set, List.length_replicate, List.length_append, List.length_cons, List.length_nil]); omega)) only [aW, aX, aV, aB, aN, aL, aP, aH, aM, r_law34_great]
        exact post_v ⟨rfl, _, rfl⟩
      · simp (disch := ((try simp only [List.length_set, List.length_replicate, List.length_append, List.length_cons, List.length_nil]); omega)) only [aW, aX, aV, aB, aN, aL, aP, aH, aM]
        exact ⟨j + 1, by omega, by omega, (by refine Cut.of' (1) ?_ (by omega) ?_ ?_ <;> simp (disch := first | omega | simp (disch := omega) only [aF, aL, aN, aM]) only [aW, aX, aV, aB, aN, aL, aP, aH, aM, aF, Int.natCast_add, Int.natCast_mul, Int.add_sub_cancel, List.length_nil, Int.cast_ofNat_Int, and_true, true_and])⟩
    · simp (disch := ((try simp only [List.length_set, List.length_replicate, List.length_append, List.length_cons, List.length_nil]); omega)) only [aW, aX, aV, aB, aN, aL, aP, aH, aM]
      exact ⟨k + 1, by omega, by omega, (by refine Cut.of' (1) ?_ (by omega) ?_ ?_ <;> simp (disch := first | omega | simp (disch := omega) only [aF, aL, aN, aM]) only [aW, aX, aV, aB, aN, aL, aP, aH, aM, aF, Int.natCast_add, Int.natCast_mul, Int.add_sub_cancel, List.length_nil, Int.cast_ofNat_Int, and_true, true_and])⟩
  · simp (disch := ((try simp only [List.length_set, List.length_replicate, List.length_append, List.length_cons, List.length_nil]); omega)) only [aW, aX, aV, aB, aN, aL, aP, aH, aM, r_law34_great]
    exact post_v ⟨rfl, _, rfl⟩
theorem great_c (r : A) (G : List Blk) (h : G = [] ∧ ∃ b : Bool, r = .v (.bool b)) : G = [] ∧ (r.cl && r.bd 0) = true := by
  obtain ⟨h1, b, rfl⟩ := h; exact ⟨h1, rfl⟩

theorem awake34_vr : VR P false n_law34_awake [] [] (isR (.v (.bool true))) := by
  refine vr_law34_awake (by simp) (.inr rfl) fun _ _ => ?_
  simp (disch := ((try simp only [List.length_set, List.length_replicate, List.length_append, List.length_cons, List.length_nil]); omega)) only [aW, aX, aV, aB, aN, aL, aP, aH, aM, s_law34_awake, v_law34_awake]
  refine (example_vr 900 100).same (by simp (disch := first | omega | simp (disch := omega) only [aF, aL, aN, aM]) only [aW, aX, aV, aB, aN, aL, aP, aH, aM, aF, Int.natCast_add, Int.natCast_mul, Int.add_sub_cancel, List.length_nil, Int.cast_ofNat_Int, and_true, true_and]) (by unfold plA plC; simp (disch := first | omega | simp (disch := omega) only [aF, aL, aN, aM]) only [aW, aX, aV, aB, aN, aL, aP, aH, aM, aF, Int.natCast_add, Int.natCast_mul, Int.add_sub_cancel, List.length_nil, Int.cast_ofNat_Int, and_true, true_and]) (aret_of ?_)
  simp (disch := ((try simp only [List.length_set, List.length_replicate, List.length_append, List.length_cons, List.length_nil]); omega)) only [aW, aX, aV, aB, aN, aL, aP, aH, aM]
  refine (example_vr 0 1000).same (by simp (disch := first | omega | simp (disch := omega) only [aF, aL, aN, aM]) only [aW, aX, aV, aB, aN, aL, aP, aH, aM, aF, Int.natCast_add, Int.natCast_mul, Int.add_sub_cancel, List.length_nil, Int.cast_ofNat_Int, and_true, true_and]) (by unfold plA plC; simp (disch := first | omega | simp (disch := omega) only [aF, aL, aN, aM]) only [aW, aX, aV, aB, aN, aL, aP, aH, aM, aF, Int.natCast_add, Int.natCast_mul, Int.add_sub_cancel, List.length_nil, Int.cast_ofNat_Int, and_true, true_and]) (aret_of ?_)
  have a1 : drainR (exP 900 100) = (true, 0) := by decide +kernel
  have a2 : heightR (exP 900 100) 0 0 = (2, 0) := by decide +kernel
  have a3 : heightR (exP 900 100) 1 0 = (0, 0) := by decide +kernel
  have a4 : loopsR (exP 900 100) = ([[0]], 0) := by decide +kernel
  have a5 : nextR (exP 900 100) 0 1 = (1, 0) := by decide +kernel
  have a6 : pgraph (exP 900 100) = ((2, [(0, 1), (0, 0)]), 0) := by decide +kernel
  have a7 : pcheck (exP 900 100) = 0 := by decide +kernel
  have c1 : drainR (exP 0 1000) = (false, 0) := by decide +kernel
  have c2 : heightR (exP 0 1000) 0 0 = (0, 23) := by decide +kernel
  generalize exP 900 100 = p at *
  generalize exP 0 1000 = q at *
  have b1 := layoutDrains_vr (w := true) (v := true) p
  have b2 := layoutHeight_vr (w := true) (v := true) p 0 0
  have b3 := layoutHeight_vr (w := true) (v := true) p 1 0
  have b4 := layoutLoops_vr (w := true) (v := true) p
  have b5 := layoutNext_vr (w := true) (v := true) p 0 1
  have b6 := layoutGraph_vr (w := true) (v := true) p
  have b7 := layoutCheck_vr (w := true) (v := true) p
  have d1 := layoutDrains_vr (w := true) (v := true) q
  have d2 := layoutHeight_vr (w := true) (v := true) q 0 0
  rw [a1] at b1
  rw [a2] at b2
  rw [a3] at b3
  rw [a4] at b4
  rw [a5] at b5
  rw [a6] at b6
  rw [a7] at b7
  rw [c1] at d1
  rw [c2] at d2
  have b8 := sameGraph_vr (w := true) (v := false) 2 2 [(0, 1), (0, 0)] [(0, 1), (0, 0)] (by simp)
  rw [decide_eq_true ⟨rfl, rfl⟩] at b8
  unfold plA plC at *
  simp (disch := ((try simp only [List.length_set, List.length_replicate, List.length_append, List.length_cons, List.length_nil]); omega)) only [aW, aX, aV, aB, aN, aL, aP, aH, aM]
  refine b1.same (by simp (disch := first | omega | simp (disch := omega) only [aF, aL, aN, aM]) only [aW, aX, aV, aB, aN, aL, aP, aH, aM, aF, Int.natCast_add, Int.natCast_mul, Int.add_sub_cancel, List.length_nil, Int.cast_ofNat_Int, and_true, true_and]) rfl (aret_of ?_)
  simp (disch := ((try simp only [List.length_set, List.length_replicate, List.length_append, List.length_cons, List.length_nil]); omega)) only [aW, aX, aV, aB, aN, aL, aP, aH, aM]
  refine b2.same (by simp (disch := first | omega | simp (disch := omega) only [aF, aL, aN, aM]) only [aW, aX, aV, aB, aN, aL, aP, aH, aM, aF, Int.natCast_add, Int.natCast_mul, Int.add_sub_cancel, List.length_nil, Int.cast_ofNat_Int, and_true, true_and]) rfl (aret_of ?_)
  simp (disch := ((try simp only [List.length_set, List.length_replicate, List.length_append, List.length_cons, List.length_nil]); omega)) only [aW, aX, aV, aB, aN, aL, aP, aH, aM]
  refine b3.same (by simp (disch := first | omega | simp (disch := omega) only [aF, aL, aN, aM]) only [aW, aX, aV, aB, aN, aL, aP, aH, aM, aF, Int.natCast_add, Int.natCast_mul, Int.add_sub_cancel, List.length_nil, Int.cast_ofNat_Int, and_true, true_and]) rfl (aret_of ?_)
  simp (disch := ((try simp only [List.length_set, List.length_replicate, List.length_append, List.length_cons, List.length_nil]); omega)) only [aW, aX, aV, aB, aN, aL, aP, aH, aM]
  refine b4.same (by simp (disch := first | omega | simp (disch := omega) only [aF, aL, aN, aM]) only [aW, aX, aV, aB, aN, aL, aP, aH, aM, aF, Int.natCast_add, Int.natCast_mul, Int.add_sub_cancel, List.length_nil, Int.cast_ofNat_Int, and_true, true_and]) rfl (aret_of ?_)
  simp (disch := ((try simp only [List.length_set, List.length_replicate, List.length_append, List.length_cons, List.length_nil]); omega)) only [aW, aX, aV, aB, aN, aL, aP, aH, aM]
  refine d1.same (by simp (disch := first | omega | simp (disch := omega) only [aF, aL, aN, aM]) only [aW, aX, aV, aB, aN, aL, aP, aH, aM, aF, Int.natCast_add, Int.natCast_mul, Int.add_sub_cancel, List.length_nil, Int.cast_ofNat_Int, and_true, true_and]) rfl (aret_of ?_)
  simp (disch := ((try simp only [List.length_set, List.length_replicate, List.length_append, List.length_cons, List.length_nil]); omega)) only [aW, aX, aV, aB, aN, aL, aP, aH, aM]
  refine d2.same (by simp (disch := first | omega | simp (disch := omega) only [aF, aL, aN, aM]) only [aW, aX, aV, aB, aN, aL, aP, aH, aM, aF, Int.natCast_add, Int.natCast_mul, Int.add_sub_cancel, List.length_nil, Int.cast_ofNat_Int, and_true, true_and]) rfl (aret_of ?_)
  simp (disch := ((try simp only [List.length_set, List.length_replicate, List.length_append, List.length_cons, List.length_nil]); omega)) only [aW, aX, aV, aB, aN, aL, aP, aH, aM]
  refine b5.same (by simp (disch := first | omega | simp (disch := omega) only [aF, aL, aN, aM]) only [aW, aX, aV, aB, aN, aL, aP, aH, aM, aF, Int.natCast_add, Int.natCast_mul, Int.add_sub_cancel, List.length_nil, Int.cast_ofNat_Int, and_true, true_and]) rfl (aret_of ?_)
  simp (disch := ((try simp only [List.length_set, List.length_replicate, List.length_append, List.length_cons, List.length_nil]); omega)) only [aW, aX, aV, aB, aN, aL, aP, aH, aM]
  refine b6.same (by simp (disch := first | omega | simp (disch := omega) only [aF, aL, aN, aM]) only [aW, aX, aV, aB, aN, aL, aP, aH, aM, aF, Int.natCast_add, Int.natCast_mul, Int.add_sub_cancel, List.length_nil, Int.cast_ofNat_Int, and_true, true_and]) rfl (aret_of ?_)
  unfold graphT graphA
  simp (disch := ((try simp only [List.length_set, List.length_replicate, List.length_append, List.length_cons, List.length_nil]); omega)) only [aW, aX, aV, aB, aN, aL, aP, aH, aM]
  refine (refLists_vr (w := true) (v := false) (w' := true) (v' := false) [[0]] [[0]] (by simp) (by simp)).use (ld_all (by simp [frzL_nil, frzL_cons, fzp_any, fzp_nil, fzp_v, fzp_agg, fzp_tup, fzp_fn, fzp_fs, fzp_fp, fzp_sl, fzp_vs, fzp_lp, ldp_any, ldp_nil, ldp_v, ldp_agg, ldp_fn, ldp_fs, ldp_fp, ldp_sl, ldp_vs, ldp_lp, blkAt, flatA, A.cells, A.one, Lft.one, retA, A.bdL, A.bd, rows, ints])) rfl (aret_of ?_)
  simp (disch := ((try simp only [List.length_set, List.length_replicate, List.length_append, List.length_cons, List.length_nil]); omega)) only [aW, aX, aV, aB, aN, aL, aP, aH, aM]
  refine b8.use (ld_all (by simp [frzL_nil, frzL_cons, fzp_any, fzp_nil, fzp_v, fzp_agg, fzp_tup, fzp_fn, fzp_fs, fzp_fp, fzp_sl, fzp_vs, fzp_lp, ldp_any, ldp_nil, ldp_v, ldp_agg, ldp_fn, ldp_fs, ldp_fp, ldp_sl, ldp_vs, ldp_lp, blkAt, flatA, A.cells, A.one, Lft.one, retA, A.bdL, A.bd, graphA, pairs, pairA])) rfl (aret_of ?_)
  simp (disch := ((try simp only [List.length_set, List.length_replicate, List.length_append, List.length_cons, List.length_nil]); omega)) only [aW, aX, aV, aB, aN, aL, aP, aH, aM]
  refine b7.same (by simp (disch := first | omega | simp (disch := omega) only [aF, aL, aN, aM]) only [aW, aX, aV, aB, aN, aL, aP, aH, aM, aF, Int.natCast_add, Int.natCast_mul, Int.add_sub_cancel, List.length_nil, Int.cast_ofNat_Int, and_true, true_and]) rfl (aret_of ?_)
  simp (disch := ((try simp only [List.length_set, List.length_replicate, List.length_append, List.length_cons, List.length_nil]); omega)) only [aW, aX, aV, aB, aN, aL, aP, aH, aM, r_law34_awake]
  exact post_v ⟨rfl, rfl⟩

theorem loops_len (p : Pl) : (loopsR p).1.length < 1000000000 ∧ ∀ r ∈ (loopsR p).1, r.length < 1000000000 := by
  unfold loopsR
  split
  · simp
  · rename_i h
    have ok := pcheck_ok (Classical.not_not.1 h)
    have h1 := gst_len p.ms.length (arcsR p) p.ms.length
    have h2 := List.length_filter_le (fun r => decide (¬ delG (arcsR p) r)) (gst p.ms.length (arcsR p) p.ms.length).2
    have h3 := ok.n2
    refine ⟨by simp only [keepG]; omega, fun r hr => ?_⟩
    have hr' := (List.mem_filter.1 hr).1
    have := gst_reps p.ms.length (arcsR p) p.ms.length
    rw [this] at hr'
    obtain ⟨x, _, rfl⟩ := List.mem_map.1 hr'
    have := memb_len p.ms.length (arcsR p) x 0 (p.ms.length : Int).toNat
    omega
end Go.Proofs.Ytjhdedifmhkhbaa
namespace Go.Proofs.Ytjhdedifmhkhbaa
open Go Go.Lft
set_option linter.unusedSimpArgs false
set_option linter.unusedVariables false
attribute [local congr] ob_congr bw_congr ib_congr ck_congr iwA_congr itA_congr aw_congr awp_congr sqA_congr bkA_congr vr_congr gd_congr

end Go.Proofs.Ytjhdedifmhkhbaa
namespace Go.Proofs.Ytjhdedifmhkhbaa
open Go Go.Lft
set_option linter.unusedSimpArgs false
set_option linter.unusedVariables false

/-! ### Belts in memory -/
end Go.Proofs.Ytjhdedifmhkhbaa
namespace Go.Proofs.Ytjhdedifmhkhbaa
open Go Go.Lft
set_option linter.unusedSimpArgs false
set_option linter.unusedVariables false
attribute [local congr] ob_congr bw_congr ib_congr ck_congr iwA_congr itA_congr aw_congr awp_congr sqA_congr bkA_congr vr_congr gd_congr

end Go.Proofs.Ytjhdedifmhkhbaa
namespace Go.Proofs.Ytjhdedifmhkhbaa
open Go Go.Lft
set_option linter.unusedSimpArgs false
set_option linter.unusedVariables false
attribute [local congr] ob_congr bw_congr ib_congr ck_congr iwA_congr itA_congr aw_congr awp_congr sqA_congr bkA_congr vr_congr gd_congr

/-- The least number from j on, of m, with p; or -1. -/
def low (p : Nat → Bool) : Nat → Nat → Int
  | _, 0 => -1
  | j, m + 1 => if p j then (j : Int) else low p (j + 1) m
theorem low_cases (p : Nat → Bool) : ∀ (m j : Nat), (low p j m = -1 ∧ ∀ i, j ≤ i → i < j + m → p i = false) ∨ ∃ i : Nat, low p j m = i ∧ j ≤ i ∧ i < j + m ∧ p i = true ∧ ∀ i', j ≤ i' → i' < i → p i' = false
  | 0, j => .inl ⟨rfl, fun i h1 h2 => by omega⟩
  | m + 1, j => by
    unfold low
    by_cases h : p j = true
    · rw [if_pos h]; exact .inr ⟨j, rfl, Nat.le_refl _, by omega, h, fun i' h1 h2 => by omega⟩
    · rw [if_neg h]
      have h : p j = false := by simpa using h
      rcases low_cases p m (j + 1) with ⟨h1, h2⟩ | ⟨i, h1, h2, h3, h4, h5⟩
      · refine .inl ⟨h1, fun i g1 g2 => ?_⟩
        by_cases hij : i = j
        · subst hij; exact h
        · exact h2 i (by omega) (by omega)
      · refine .inr ⟨i, h1, by omega, by omega, h4, fun i' g1 g2 => ?_⟩
        by_cases hij : i' = j
        · subst hij; exact h
        · exact h5 i' (by omega) g2

/-- Node v may come next. -/
def avail (l : Arcs) (D : Nat → Bool) (v : Nat) : Bool := !D v && l.all fun a => a.2 != (v : Int) || D a.1.toNat
def nextO (n : Int) (l : Arcs) (D : Nat → Bool) : Int := low (avail l D) 0 n.toNat
/-- What was taken, and the order, after k nodes. -/
def ost (n : Int) (l : Arcs) : Nat → (Nat → Bool) × List Int
  | 0 => (fun _ => false, [])
  | k + 1 => if nextO n l (ost n l k).1 < 0 then ost n l k else (fun j => (ost n l k).1 j || j == (nextO n l (ost n l k).1).toNat, (ost n l k).2 ++ [nextO n l (ost n l k).1])
def orderR (n : Int) (l : Arcs) : List Int × Int := if gcheck n l ≠ 0 then ([], gcheck n l) else if (ost n l n.toNat).2.length < n.toNat then ([], 11) else ((ost n l n.toNat).2, 0)
theorem ost_len (n : Int) (l : Arcs) (k : Nat) : (ost n l k).2.length ≤ k := by
  induction k with
  | zero => simp [ost]
  | succ k ih => simp only [ost]; split
                 · omega
                 · simp; omega
theorem ost_stop (n : Int) (l : Arcs) {k : Nat} (h : nextO n l (ost n l k).1 < 0) : ∀ m, ost n l (k + m) = ost n l k
  | 0 => rfl
  | m + 1 => by
    have ih := ost_stop n l h m
    rw [show k + (m + 1) = (k + m) + 1 by omega]
    simp only [ost]
    rw [ih, if_pos h]
theorem ost_end (n : Int) (l : Arcs) {k N : Nat} (hk : k ≤ N) (h : nextO n l (ost n l k).1 < 0) : ost n l N = ost n l k := by
  have := ost_stop n l h (N - k)
  rwa [show k + (N - k) = N by omega] at this

end Go.Proofs.Ytjhdedifmhkhbaa
namespace Go.Proofs.Ytjhdedifmhkhbaa
open Go Go.Lft
set_option linter.unusedSimpArgs false
attribute [local congr] ob_congr bw_congr ib_congr ck_congr iwA_congr itA_congr aw_congr awp_congr sqA_congr bkA_congr vr_congr gd_congr

abbrev IP := Int × Int
def qlt (a b : IP) : Prop := a.1 < b.1 ∨ (a.2 < b.2 ∧ ¬ b.1 < a.1)
instance (a b : IP) : Decidable (qlt a b) := inferInstanceAs (Decidable (a.1 < b.1 ∨ (a.2 < b.2 ∧ ¬ b.1 < a.1)))
/-- f is the order '<' of numbers. -/
def IsLt (f : Nat) : Prop := bodied P f = true ∧ ∀ (a b : Int), VR P false f [.v (.int .i64 a), .v (.int .i64 b)] [] (isR (.v (.bool (decide (a < b)))))

theorem order1_vr (a b : Int) : VR P false n_graph_Order_1 [.v (.int .i64 a), .v (.int .i64 b)] [] (isR (.v (.bool (decide (a < b))))) := by
  refine vr_graph_Order_1 (by simp) (.inr rfl) fun _ _ => ?_
  simp (disch := ((try simp only [List.length_set, List.length_replicate, List.length_append, List.length_cons, List.length_nil]); omega)) only [aW, aX, aV, aB, aN, aL, aP, aH, s_graph_Order_1, v_graph_Order_1, r_graph_Order_1]
  exact post_v ⟨rfl, rfl⟩
theorem order1_lt : IsLt n_graph_Order_1 := ⟨by kernel_rfl, fun a b => order1_vr a b⟩

/-- A queue that is only read. -/
def qA (w v : Bool) (f : Nat) (hs : List IP) (c : Int) : A := .fp w [.fn f [], .fs v (pairs hs), .v (.int .i64 c)]

theorem qlen_vr {w v : Bool} (f : Nat) (hs : List IP) (c : Int) : VR P false n_pqueue_Queue_Len [qA w v f hs c] [] (isR (.v (.int .i64 hs.length))) := by
  refine vr_pqueue_Queue_Len (by simp) (.inr rfl) fun _ _ => ?_
  unfold qA
  simp (disch := ((try simp only [List.length_set, List.length_replicate, List.length_append, List.length_cons, List.length_nil]); omega)) only [aW, aX, aV, aB, aN, aL, aP, aH, s_pqueue_Queue_Len, v_pqueue_Queue_Len, r_pqueue_Queue_Len]
  exact post_v ⟨rfl, rfl⟩

theorem qpeek_vr {w v : Bool} (f : Nat) (hs : List IP) (c : Int) : VR P false n_pqueue_Queue_Peek [qA w v f hs c] [] (isR (.tup [.v (.int .i64 (hs.getD 0 (0, 0)).1), .v (.bool (decide (0 < hs.length)))])) := by
  refine vr_pqueue_Queue_Peek (by simp) (.inr rfl) fun _ _ => ?_
  simp (disch := ((try simp only [List.length_set, List.length_replicate, List.length_append, List.length_cons, List.length_nil]); omega)) only [aW, aX, aV, aB, aN, aL, aP, aH, s_pqueue_Queue_Peek, v_pqueue_Queue_Peek]
  refine (qlen_vr f hs c).same (by unfold qA; simp (disch := first | omega | simp (disch := omega) only [aF, aL, aN]) only [aW, aX, aV, aB, aN, aL, aP, aH, aF, Int.natCast_add, Int.natCast_mul, Int.add_sub_cancel, List.length_nil, Int.cast_ofNat_Int, and_true, true_and]) rfl (aret_of ?_)
  unfold qA
  simp (disch := ((try simp only [List.length_set, List.length_replicate, List.length_append, List.length_cons, List.length_nil]); omega)) only [aW, aX, aV, aB, aN, aL, aP, aH]
  refine ib_intro (fun h1 => ?_) (fun h1 => ?_)
  · have h0 : hs = [] := List.length_eq_zero_iff.1 (by omega)
    subst h0
    simp (disch := ((try simp only [List.length_set, List.length_replicate, List.length_append, List.length_cons, List.length_nil]); omega)) only [aW, aX, aV, aB, aN, aL, aP, aH, r_pqueue_Queue_Peek]
    exact post0 (Fz.refl rfl) ⟨rfl, rfl⟩
  · have h0 : decide (0 < hs.length) = true := by simp; omega
    simp (disch := ((try simp only [List.length_set, List.length_replicate, List.length_append, List.length_cons, List.length_nil]); omega)) only [aW, aX, aV, aB, aN, aL, aP, aH, r_pqueue_Queue_Peek, h0]
    exact post0 (Fz.refl rfl) ⟨rfl, rfl⟩

theorem qbefore_vr {w v : Bool} {f : Nat} (hf : IsLt f) (hs : List IP) (c : Int) (i k : Int) (h1 : 0 ≤ i) (h2 : i < hs.length) (h3 : 0 ≤ k) (h4 : k < hs.length) :
    VR P false n_pqueue_Queue_before [qA w v f hs c, .v (.int .i64 i), .v (.int .i64 k)] [] (isR (.v (.bool (decide (qlt (hs.getD i.toNat (0, 0)) (hs.getD k.toNat (0, 0))))))) := by
  refine vr_pqueue_Queue_before (by simp) (.inr rfl) fun _ _ => ?_
  unfold qA
  simp (disch := ((try simp only [List.length_set, List.length_replicate, List.length_append, List.length_cons, List.length_nil]); omega)) only [aW, aX, aV, aB, aN, aL, aP, aH, s_pqueue_Queue_before, v_pqueue_Queue_before]
  refine ⟨⟨⟨hf.1, ?_⟩, ⟨hf.1, ?_⟩⟩, ⟨hf.1, ?_⟩⟩
  all_goals
    refine (hf.2 _ _).same (by simp (disch := first | omega | simp (disch := omega) only [aF, aL, aN]) only [aW, aX, aV, aB, aN, aL, aP, aH, aF, Int.natCast_add, Int.natCast_mul, Int.add_sub_cancel, List.length_nil, Int.cast_ofNat_Int, and_true, true_and]) rfl (aret_of ?_)
    simp (disch := ((try simp only [List.length_set, List.length_replicate, List.length_append, List.length_cons, List.length_nil]); omega)) only [aW, aX, aV, aB, aN, aL, aP, aH]
    refine ib_intro (fun h5 => ?_) (fun h5 => ?_)
    · simp (disch := ((try simp only [List.length_set, List.length_replicate, List.length_append, List.length_cons, List.length_nil]); omega)) only [aW, aX, aV, aB, aN, aL, aP, aH, r_pqueue_Queue_before]
      exact post_v ⟨vtrue (.inl h5), rfl⟩
    · simp (disch := ((try simp only [List.length_set, List.length_replicate, List.length_append, List.length_cons, List.length_nil]); omega)) only [aW, aX, aV, aB, aN, aL, aP, aH]
      refine ib_intro (fun h6 => ?_) (fun h6 => ?_)
      · simp (disch := ((try simp only [List.length_set, List.length_replicate, List.length_append, List.length_cons, List.length_nil]); omega)) only [aW, aX, aV, aB, aN, aL, aP, aH]
        refine ⟨hf.1, (hf.2 _ _).same (by simp (disch := first | omega | simp (disch := omega) only [aF, aL, aN]) only [aW, aX, aV, aB, aN, aL, aP, aH, aF, Int.natCast_add, Int.natCast_mul, Int.add_sub_cancel, List.length_nil, Int.cast_ofNat_Int, and_true, true_and]) rfl (aret_of ?_)⟩
        simp (disch := ((try simp only [List.length_set, List.length_replicate, List.length_append, List.length_cons, List.length_nil]); omega)) only [aW, aX, aV, aB, aN, aL, aP, aH, r_pqueue_Queue_before]
        exact post_v ⟨vdec (by simp only [qlt, h5, h6, false_or, true_and]), rfl⟩
      · simp (disch := ((try simp only [List.length_set, List.length_replicate, List.length_append, List.length_cons, List.length_nil]); omega)) only [aW, aX, aV, aB, aN, aL, aP, aH, r_pqueue_Queue_before]
        exact post_v ⟨vfalse (by simp only [qlt, h5, h6, false_or, false_and, not_false_eq_true]), rfl⟩
end Go.Proofs.Ytjhdedifmhkhbaa
namespace Go.Proofs.Ytjhdedifmhkhbaa
open Go Go.Lft
set_option linter.unusedSimpArgs false
set_option linter.unusedVariables false

abbrev ipd : IP := (0, 0)
def swapL (l : List IP) (a b : Nat) : List IP := (l.set a (l.getD b ipd)).set b (l.getD a ipd)
theorem swapL_len (l : List IP) (a b : Nat) : (swapL l a b).length = l.length := by simp [swapL]
theorem getD_setP (l : List IP) (i j : Nat) (y : IP) (hi : i < l.length) : (l.set i y).getD j ipd = if i = j then y else l.getD j ipd := by
  simp only [List.getD_eq_getElem?_getD, List.getElem?_set]
  split
  · simp [hi]
  · rfl
theorem swapL_get (l : List IP) (a b k : Nat) (ha : a < l.length) (hb : b < l.length) : (swapL l a b).getD k ipd = if b = k then l.getD a ipd else if a = k then l.getD b ipd else l.getD k ipd := by
  unfold swapL
  rw [getD_setP _ _ _ _ (by simpa using hb), getD_setP _ _ _ _ ha]
theorem swapL_perm (l : List IP) (a b : Nat) (ha : a < l.length) (hb : b < l.length) : (swapL l a b).Perm l := by
  have h := Array.perm_iff_toList_perm.1 (Array.swap_perm (xs := l.toArray) (i := a) (j := b) (by simpa using ha) (by simpa using hb))
  rw [Array.toList_swap] at h
  simpa [swapL, ha, hb] using h
theorem swapL_take (l : List IP) (n a b : Nat) (ha : a < n) (hb : b < n) (hn : n ≤ l.length) : (swapL l a b).take n = swapL (l.take n) a b := by
  unfold swapL
  have h1 : (l.take n).getD b ipd = l.getD b ipd := by simp [List.getD_eq_getElem?_getD, List.getElem?_take, hb]
  have h2 : (l.take n).getD a ipd = l.getD a ipd := by simp [List.getD_eq_getElem?_getD, List.getElem?_take, ha]
  rw [h1, h2, List.take_set, List.take_set]

theorem qlt_trans {a b c : IP} (h : qlt a b) (k : qlt b c) : qlt a c := by unfold qlt at *; omega
theorem qlt_tri {a b c : IP} (h : ¬ qlt a b) (k : ¬ qlt b c) : ¬ qlt a c := by unfold qlt at *; omega
theorem qlt_irr (a : IP) : ¬ qlt a a := by unfold qlt; omega
theorem qlt_asymm {a b : IP} (h : qlt a b) : ¬ qlt b a := by unfold qlt at *; omega

def par (k : Nat) : Nat := (k - 1) / 2
def Heap2 (l : List IP) : Prop := ∀ k, 0 < k → k < l.length → ¬ qlt (l.getD k ipd) (l.getD (par k) ipd)
/-- A heap but for what lies above m. -/
def HeapUp (l : List IP) (m : Nat) : Prop := (∀ k, 0 < k → k < l.length → k ≠ m → ¬ qlt (l.getD k ipd) (l.getD (par k) ipd)) ∧ ∀ k, 0 < k → k < l.length → par k = m → 0 < m → ¬ qlt (l.getD k ipd) (l.getD (par m) ipd)
theorem up_done {l : List IP} {m : Nat} (h : HeapUp l m) (hm : m = 0 ∨ ¬ qlt (l.getD m ipd) (l.getD (par m) ipd)) : Heap2 l := fun k h1 h2 => by
  by_cases hk : k = m
  · subst hk; rcases hm with hm | hm
    · omega
    · exact hm
  · exact h.1 k h1 h2 hk
theorem up_step {l : List IP} {m : Nat} (h : HeapUp l m) (h0 : 0 < m) (hm : m < l.length) (hlt : qlt (l.getD m ipd) (l.getD (par m) ipd)) : HeapUp (swapL l m (par m)) (par m) := by
  have hp : par m < m := by unfold par; omega
  have g := fun k => swapL_get l m (par m) k hm (by omega)
  refine ⟨fun k h1 h2 h3 => ?_, fun k h1 h2 h3 h4 => ?_⟩
  · rw [swapL_len] at h2
    rw [g k, g (par k)]
    have hpk : par k < k := by unfold par; omega
    by_cases hk : m = k
    · subst hk
      rw [if_neg (by omega), if_pos rfl, if_pos rfl]
      exact qlt_asymm hlt
    · rw [if_neg (Ne.symm h3), if_neg hk]
      by_cases h5 : par m = par k
      · rw [if_pos h5]
        intro hc
        have h6 := h.1 k h1 h2 (Ne.symm hk)
        rw [← h5] at h6
        exact h6 (qlt_trans hc hlt)
      · rw [if_neg h5]
        by_cases h6 : m = par k
        · rw [if_pos h6]; exact h.2 k h1 h2 h6.symm h0
        · rw [if_neg h6]; exact h.1 k h1 h2 (Ne.symm hk)
  · rw [swapL_len] at h2
    have hpp : par (par m) < par m := by unfold par at *; omega
    have h7 := h.1 (par m) h4 (by omega) (by omega)
    rw [g k, g (par (par m)), if_neg (by omega : par m ≠ par (par m)), if_neg (by omega : m ≠ par (par m))]
    by_cases hk : m = k
    · subst hk
      rw [if_neg (by omega), if_pos rfl]; exact h7
    · have hpk : par k < k := by unfold par; omega
      rw [if_neg (by omega), if_neg hk]
      have h8 := h.1 k h1 h2 (Ne.symm hk)
      rw [h3] at h8
      exact qlt_tri h8 h7
theorem up_start {l : List IP} (x : IP) (h : Heap2 l) : HeapUp (l ++ [x]) l.length := by
  have g : ∀ k, k < l.length → (l ++ [x]).getD k ipd = l.getD k ipd := fun k hk => by simp [List.getD_eq_getElem?_getD, List.getElem?_append_left hk]
  refine ⟨fun k h1 h2 h3 => ?_, fun k h1 h2 h3 h4 => ?_⟩
  · simp at h2
    have hk : k < l.length := by omega
    rw [g k hk, g (par k) (by unfold par; omega)]
    exact h k h1 hk
  · simp at h2; unfold par at h3; omega

/-- A heap but for what lies below m. -/
def HeapDn (l : List IP) (m : Nat) : Prop := (∀ k, 0 < k → k < l.length → par k ≠ m → ¬ qlt (l.getD k ipd) (l.getD (par k) ipd)) ∧ ∀ k, 0 < k → k < l.length → par k = m → 0 < m → ¬ qlt (l.getD k ipd) (l.getD (par m) ipd)
theorem dn_done {l : List IP} {m : Nat} (h : HeapDn l m) (hm : ∀ k, 0 < k → k < l.length → par k = m → ¬ qlt (l.getD k ipd) (l.getD m ipd)) : Heap2 l := fun k h1 h2 => by
  by_cases hk : par k = m
  · rw [hk]; exact hm k h1 h2 hk
  · exact h.1 k h1 h2 hk
theorem dn_step {l : List IP} {m q : Nat} (h : HeapDn l m) (hq : par q = m) (h0 : 0 < q) (hl : q < l.length) (hlt : qlt (l.getD q ipd) (l.getD m ipd))
    (hm : ∀ k, 0 < k → k < l.length → par k = m → ¬ qlt (l.getD k ipd) (l.getD q ipd)) : HeapDn (swapL l m q) q := by
  have hp : m < q := by unfold par at hq; omega
  have g := fun k => swapL_get l m q k (by omega) hl
  refine ⟨fun k h1 h2 h3 => ?_, fun k h1 h2 h3 h4 => ?_⟩
  · rw [swapL_len] at h2
    rw [g k, g (par k), if_neg (Ne.symm h3)]
    have hpk : par k < k := by unfold par; omega
    by_cases hk : q = k
    · subst hk
      rw [if_pos rfl, if_pos hq.symm]; exact qlt_asymm hlt
    · rw [if_neg hk]
      by_cases hkm : m = k
      · subst hkm
        rw [if_pos rfl, if_neg (by omega)]
        exact h.2 q h0 hl hq h1
      · rw [if_neg hkm]
        by_cases h5 : m = par k
        · rw [if_pos h5]; exact hm k h1 h2 h5.symm
        · rw [if_neg h5]; exact h.1 k h1 h2 (Ne.symm h5)
  · rw [swapL_len] at h2
    have hpk : par k < k := by unfold par; omega
    rw [g k, g (par q), if_neg (by omega), if_neg (by omega), hq, if_neg (by omega), if_pos rfl]
    have := h.1 k h1 h2 (by omega)
    rw [h3] at this; exact this
/-- The first and the last are exchanged, and the last is taken off. -/
theorem dn_start {l : List IP} (h : Heap2 l) (h0 : 0 < l.length) : HeapDn ((swapL l 0 (l.length - 1)).take (l.length - 1)) 0 := by
  have g := fun k => swapL_get l 0 (l.length - 1) k h0 (by omega)
  have gt : ∀ k, k < l.length - 1 → ((swapL l 0 (l.length - 1)).take (l.length - 1)).getD k ipd = (swapL l 0 (l.length - 1)).getD k ipd := fun k hk => by simp [List.getD_eq_getElem?_getD, List.getElem?_take, hk]
  refine ⟨fun k h1 h2 h3 => ?_, fun k h1 h2 h3 h4 => by omega⟩
  simp [swapL_len] at h2
  have hpk : par k < k := by unfold par; omega
  rw [gt k (by omega), gt (par k) (by omega), g k, g (par k), if_neg (by omega), if_neg (by omega), if_neg (by omega), if_neg (Ne.symm h3)]
  exact h k h1 (by omega)
theorem heap_min {l : List IP} (h : Heap2 l) : ∀ k, k < l.length → ¬ qlt (l.getD k ipd) (l.getD 0 ipd) := by
  intro k
  induction k using Nat.strongRecOn with
  | _ k ih =>
    intro hk
    by_cases h0 : k = 0
    · subst h0; exact qlt_irr _
    · have hpk : par k < k := by unfold par; omega
      exact qlt_tri (h k (by omega) hk) (ih (par k) hpk (by omega))
theorem pop_perm {l : List IP} (h0 : 0 < l.length) : (l.getD 0 ipd :: (swapL l 0 (l.length - 1)).take (l.length - 1)).Perm l := by
  have h1 := swapL_perm l 0 (l.length - 1) h0 (by omega)
  have h2 : (swapL l 0 (l.length - 1)) = (swapL l 0 (l.length - 1)).take (l.length - 1) ++ [l.getD 0 ipd] := by
    have hl := swapL_len l 0 (l.length - 1)
    have hg := swapL_get l 0 (l.length - 1) (l.length - 1) h0 (by omega)
    rw [if_pos rfl] at hg
    have hlast := List.take_append_getElem (l := swapL l 0 (l.length - 1)) (i := l.length - 1) (by omega)
    rw [← hg]
    have : (swapL l 0 (l.length - 1)).getD (l.length - 1) ipd = (swapL l 0 (l.length - 1))[l.length - 1]'(by omega) := by rw [List.getD_eq_getElem?_getD, List.getElem?_eq_getElem (by omega)]; rfl
    rw [this, hlast, List.take_of_length_le (by omega)]
  have h3 : (l.getD 0 ipd :: (swapL l 0 (l.length - 1)).take (l.length - 1)).Perm ((swapL l 0 (l.length - 1)).take (l.length - 1) ++ [l.getD 0 ipd]) := (List.perm_append_singleton _ _).symm
  rw [← h2] at h3
  exact h3.trans h1
end Go.Proofs.Ytjhdedifmhkhbaa
namespace Go.Proofs.Ytjhdedifmhkhbaa
open Go Go.Lft
set_option linter.unusedSimpArgs false
set_option linter.unusedVariables false
attribute [local congr] ob_congr bw_congr ib_congr ck_congr iwA_congr itA_congr aw_congr awp_congr sqA_congr bkA_congr vr_congr gd_congr

/-- Block i is a queue whose items are the first n of block j. -/
structure QS (H : List Blk) (i j ver f : Nat) (ys : List IP) (n : Nat) (c : Int) : Prop where
  qi : blkAt H i 0 = some [.fn f [], .sl j ver 2 0 n, .v (.int .i64 c)]
  qj : blkAt H j ver = some (pcells ys)
  le : n ≤ ys.length
  ne : i ≠ j
  sm : n < 1000000000
theorem QS.ld {H : List Blk} {i j ver f : Nat} {ys : List IP} {n : Nat} {c : Int} (h : QS H i j ver f ys n c) : Ld H (.lp i 0 0) (qA false false f (ys.take n) c) := by
  have h1 := Ld.lp (o := 0) h.qi (r := [.fn f [], .fs false (pairs (ys.take n)), .v (.int .i64 c)]) ⟨Ld.refl rfl, ld_slPt H j ver n ys h.le h.qj, Ld.refl rfl, trivial⟩ (by simp)
  exact h1
theorem QS.set {H : List Blk} {i j ver f : Nat} {ys : List IP} {n : Nat} {c : Int} (h : QS H i j ver f ys n c) (zs : List IP) (hz : n ≤ zs.length) : QS (H.set j ⟨ver, pcells zs⟩) i j ver f zs n c :=
  ⟨by rw [blkAt_set_ne _ _ _ _ _ h.ne]; exact h.qi, blkAt_set_same _ _ _ _ (blkAt_lt h.qj), hz, h.ne, h.sm⟩
theorem set_self {H : List Blk} {j ver : Nat} {l : List A} (h : blkAt H j ver = some l) : H.set j ⟨ver, l⟩ = H := by
  obtain ⟨B, h1, h2, h3⟩ := blkAt_iff.1 h
  have : B = ⟨ver, l⟩ := by cases B; simp at h2 h3; subst h2; subst h3; rfl
  subst this
  apply List.ext_getElem?
  intro k
  rw [List.getElem?_set]
  split
  · rename_i hk; subst hk; rw [if_pos (blkAt_lt h), h1]
  · rfl

theorem qswap_vr {H : List Blk} {i j ver f : Nat} {ys : List IP} {n : Nat} {c : Int} (h : QS H i j ver f ys n c) (a b : Int) (h1 : 0 ≤ a) (h2 : a < n) (h3 : 0 ≤ b) (h4 : b < n) :
    VR P false n_pqueue_Queue_swap [.lp i 0 0, .v (.int .i64 a), .v (.int .i64 b)] H (fun r H' => H' = H.set j ⟨ver, pcells (swapL ys a.toNat b.toNat)⟩) := by
  refine vr_pqueue_Queue_swap (by simp) (.inl rfl) fun _ _ => ?_
  have qi := h.qi
  have qj := h.qj
  have ne := h.ne
  have le := h.le
  have lt := blkAt_lt h.qj
  have e1 : (ys.getD a.toNat ipd).1 = (ys.getD a.toNat (0, 0)).1 := rfl
  simp (disch := ((try simp only [List.length_set, List.length_replicate, List.length_append, List.length_cons, List.length_nil]); omega)) only [aW, aX, aV, aB, aN, aL, aP, aH, s_pqueue_Queue_swap, v_pqueue_Queue_swap, r_pqueue_Queue_swap, qi, qj, List.length_set]
  exact post2 (R := fun _ H' => H' = H.set j ⟨ver, pcells (swapL ys a.toNat b.toNat)⟩) rfl

/-- The order of a sift. -/
theorem lenT {ys : List IP} {n : Nat} (h : n ≤ ys.length) : (ys.take n).length = n := by simp; omega

theorem qsink_vr {H : List Blk} {i j ver f : Nat} {ys : List IP} {n : Nat} {c : Int} (hf : IsLt f) (h : QS H i j ver f ys n c) (hd : HeapDn (ys.take n) 0) :
    VR P false n_pqueue_Queue_sink [.lp i 0 0] H (fun r H' => ∃ zs, zs.length = ys.length ∧ (zs.take n).Perm (ys.take n) ∧ zs.drop n = ys.drop n ∧ Heap2 (zs.take n) ∧ H' = H.set j ⟨ver, pcells zs⟩) := by
  refine vr_pqueue_Queue_sink (by simp) (.inl rfl) fun hb _ => ?_
  have qi := h.qi
  have qj := h.qj
  have ne := h.ne
  have le := h.le
  have sm := h.sm
  have lt := blkAt_lt h.qj
  have lti := blkAt_lt h.qi
  simp (disch := ((try simp only [List.length_set, List.length_replicate, List.length_append, List.length_cons, List.length_nil]); omega)) only [aW, aX, aV, aB, aN, aL, aP, aH, s_pqueue_Queue_sink, v_pqueue_Queue_sink]
  refine AWP.loopP (α := Nat × List IP) g_pqueue_Queue_sink_0 (fun p => p.2.length = ys.length ∧ (p.2.take n).Perm (ys.take n) ∧ p.2.drop n = ys.drop n ∧ HeapDn (p.2.take n) p.1 ∧ (p.1 < n ∨ p.1 = 0))
    (fun p => [(1, .v (.int .i64 p.1))]) (fun p => [(j, ⟨ver, pcells p.2⟩)]) (fun p => n - p.1) (0, ys) ⟨rfl, List.Perm.refl _, rfl, hd, .inr rfl⟩ ?_ ?_
  · simp (disch := ((try simp only [List.length_set, List.length_replicate, List.length_append, List.length_cons, List.length_nil]); omega)) only [aW, aX, aV, aB, aN, aL, aP, aH, set_self qj]
    exact Cut.same (Nat.le_refl _) hb (by simp (disch := first | omega | simp (disch := omega) only [aF, aL, aN]) only [aW, aX, aV, aB, aN, aL, aP, aH, aF, Int.natCast_add, Int.natCast_mul, Int.add_sub_cancel, List.length_nil, Int.cast_ofNat_Int, and_true, true_and])
  rintro ⟨m, zs⟩ ⟨z1, z2, z3, z4, z5⟩
  simp only at z1 z2 z3 z4 z5
  have hq := h.set zs (by omega)
  have hqi := hq.qi
  have hl := lenT (ys := zs) (n := n) (by omega)
  have hb' : okB (H.set j ⟨ver, pcells zs⟩).length (H.set j ⟨ver, pcells zs⟩) := by rw [List.length_set]; exact okB.set hb (pc_bd _ _)
  simp (disch := ((try simp only [List.length_set, List.length_replicate, List.length_append, List.length_cons, List.length_nil]); omega)) only [aW, aX, aV, aB, aN, aL, aP, aH]
  refine AWP.loopP (α := Nat × Nat) g_pqueue_Queue_sink_1 (fun p => (2 * m + 1 ≤ p.1 ∧ p.1 ≤ 2 * m + 3) ∧ (p.2 = m ∨ (par p.2 = m ∧ 0 < p.2 ∧ p.2 < n ∧ p.2 < p.1 ∧ qlt ((zs.take n).getD p.2 ipd) ((zs.take n).getD m ipd))) ∧ ∀ k, 2 * m + 1 ≤ k → k < p.1 → k < n → ¬ qlt ((zs.take n).getD k ipd) ((zs.take n).getD p.2 ipd))
    (fun p => [(2, .v (.int .i64 p.2)), (3, .v (.int .i64 p.1))]) (fun p => []) (fun p => 2 * m + 3 - p.1) (2 * m + 1, m) ⟨by simp only; omega, .inl rfl, fun k h1 h2 => by simp only at h2; omega⟩ ?_ ?_
  · simp (disch := ((try simp only [List.length_set, List.length_replicate, List.length_append, List.length_cons, List.length_nil]); omega)) only [aW, aX, aV, aB, aN, aL, aP, aH]
    exact Cut.same (by rw [List.length_set]; exact Nat.le_refl _) hb' (by simp (disch := first | omega | simp (disch := omega) only [aF, aL, aN]) only [aW, aX, aV, aB, aN, aL, aP, aH, aF, Int.natCast_add, Int.natCast_mul, Int.add_sub_cancel, List.length_nil, Int.cast_ofNat_Int, and_true, true_and])
  rintro ⟨k, q⟩ ⟨⟨k1, k2⟩, k3, k4⟩
  simp only at k1 k2 k3 k4
  by_cases hk : k ≤ 2 * m + 2 ∧ k < n
  · obtain ⟨hk1, hk2⟩ := hk
    have hqn : q < n := by rcases k3 with k3 | k3 <;> omega
    simp (disch := ((try simp only [List.length_set, List.length_replicate, List.length_append, List.length_cons, List.length_nil]); omega)) only [aW, aX, aV, aB, aN, aL, aP, aH, hqi]
    refine (qbefore_vr hf (zs.take n) c k q (by omega) (by omega) (by omega) (by omega)).use ⟨hq.ld, Ld.refl rfl, Ld.refl rfl, trivial⟩ rfl (aret_of ?_)
    simp (disch := ((try simp only [List.length_set, List.length_replicate, List.length_append, List.length_cons, List.length_nil]); omega)) only [aW, aX, aV, aB, aN, aL, aP, aH]
    refine ib_intro (fun h1 => ?_) (fun h1 => ?_)
    · simp (disch := ((try simp only [List.length_set, List.length_replicate, List.length_append, List.length_cons, List.length_nil]); omega)) only [aW, aX, aV, aB, aN, aL, aP, aH]
      refine ⟨(k + 1, k), ⟨by simp only; omega, .inr ⟨by unfold par; simp only; omega, by simp only; omega, hk2, by simp only; omega, ?_⟩, fun k' g1 g2 g3 => ?_⟩, by simp only; omega, ?_⟩
      · rcases k3 with rfl | ⟨_, _, _, _, k5⟩
        · exact h1
        · exact qlt_trans h1 k5
      · simp only at g2 ⊢
        by_cases hkk : k' = k
        · subst hkk; exact qlt_irr _
        · exact fun hc => k4 k' g1 (by omega) g3 (qlt_trans hc h1)
      · simp (disch := ((try simp only [List.length_set, List.length_replicate, List.length_append, List.length_cons, List.length_nil]); omega)) only [aW, aX, aV, aB, aN, aL, aP, aH]
        exact Cut.same (by rw [List.length_set]; exact Nat.le_refl _) hb' (by simp (disch := first | omega | simp (disch := omega) only [aF, aL, aN]) only [aW, aX, aV, aB, aN, aL, aP, aH, aF, Int.natCast_add, Int.natCast_mul, Int.add_sub_cancel, List.length_nil, Int.cast_ofNat_Int, and_true, true_and])
    · simp (disch := ((try simp only [List.length_set, List.length_replicate, List.length_append, List.length_cons, List.length_nil]); omega)) only [aW, aX, aV, aB, aN, aL, aP, aH]
      refine ⟨(k + 1, q), ⟨by simp only; omega, ?_, fun k' g1 g2 g3 => ?_⟩, by simp only; omega, ?_⟩
      · rcases k3 with k3 | ⟨g1, g2, g3, g4, k5⟩
        · exact .inl k3
        · exact .inr ⟨g1, g2, g3, by simp only; omega, k5⟩
      · simp only at g2 ⊢
        by_cases hkk : k' = k
        · subst hkk; exact h1
        · exact k4 k' g1 (by omega) g3
      · simp (disch := ((try simp only [List.length_set, List.length_replicate, List.length_append, List.length_cons, List.length_nil]); omega)) only [aW, aX, aV, aB, aN, aL, aP, aH]
        exact Cut.same (by rw [List.length_set]; exact Nat.le_refl _) hb' (by simp (disch := first | omega | simp (disch := omega) only [aF, aL, aN]) only [aW, aX, aV, aB, aN, aL, aP, aH, aF, Int.natCast_add, Int.natCast_mul, Int.add_sub_cancel, List.length_nil, Int.cast_ofNat_Int, and_true, true_and])
  · have hall : ∀ k', 0 < k' → k' < n → par k' = m → ¬ qlt ((zs.take n).getD k' ipd) ((zs.take n).getD q ipd) := fun k' g1 g2 g3 => k4 k' (by unfold par at g3; omega) (by unfold par at g3; omega) g2
    simp (disch := ((try simp only [List.length_set, List.length_replicate, List.length_append, List.length_cons, List.length_nil]); omega)) only [aW, aX, aV, aB, aN, aL, aP, aH, hqi]
    rcases k3 with rfl | ⟨k31, k32, k33, k34, k35⟩
    · simp (disch := ((try simp only [List.length_set, List.length_replicate, List.length_append, List.length_cons, List.length_nil]); omega)) only [aW, aX, aV, aB, aN, aL, aP, aH, r_pqueue_Queue_sink]
      refine post2 (R := fun r H' => _) ⟨zs, z1, z2, z3, dn_done z4 (fun k' g1 g2 g3 => hall k' g1 (by omega) g3), rfl⟩
    · have hne : ¬ (q : Int) = m := by unfold par at k31; omega
      have hmn : m < n := by unfold par at k31; omega
      simp (disch := ((try simp only [List.length_set, List.length_replicate, List.length_append, List.length_cons, List.length_nil]); omega)) only [aW, aX, aV, aB, aN, aL, aP, aH]
      refine (qswap_vr hq m q (by omega) (by omega) (by omega) (by omega)).mono ?_
      rintro r H' rfl
      refine aret_of ?_
      simp (disch := ((try simp only [List.length_set, List.length_replicate, List.length_append, List.length_cons, List.length_nil]); omega)) only [aW, aX, aV, aB, aN, aL, aP, aH]
      have hstep := dn_step z4 k31 k32 (by omega) k35 (fun k' g1 g2 g3 => hall k' g1 (by omega) g3)
      rw [← swapL_take zs n m q hmn k33 (by omega)] at hstep
      refine ⟨(q, swapL zs m q), ⟨by simp only [swapL_len]; exact z1, ?_, ?_, hstep, .inl k33⟩, by simp only; unfold par at k31; omega, ?_⟩
      · simp only
        rw [swapL_take zs n m q hmn k33 (by omega)]
        exact (swapL_perm _ _ _ (by omega) (by omega)).trans z2
      · simp only
        rw [← z3]
        unfold swapL
        rw [List.drop_set_of_lt (by omega), List.drop_set_of_lt (by omega)]
      · simp (disch := ((try simp only [List.length_set, List.length_replicate, List.length_append, List.length_cons, List.length_nil]); omega)) only [aW, aX, aV, aB, aN, aL, aP, aH]
        have hb2 : okB (H.set j ⟨ver, pcells (swapL zs m q)⟩).length (H.set j ⟨ver, pcells (swapL zs m q)⟩) := by rw [List.length_set]; exact okB.set hb (pc_bd _ _)
        exact Cut.same (by rw [List.length_set]; exact Nat.le_refl _) hb2 (by simp (disch := first | omega | simp (disch := omega) only [aF, aL, aN]) only [aW, aX, aV, aB, aN, aL, aP, aH, aF, Int.natCast_add, Int.natCast_mul, Int.add_sub_cancel, List.length_nil, Int.cast_ofNat_Int, and_true, true_and])
/-- Taking the first item off. -/
theorem qpop_vr {H : List Blk} {i j ver f : Nat} {ys : List IP} {n : Nat} {c : Int} (hf : IsLt f) (h : QS H i j ver f ys n c) (hn : 0 < n) (hh : Heap2 (ys.take n)) :
    VR P false n_pqueue_Queue_Pop [.lp i 0 0] H (fun r H' => r = .tup [.v (.int .i64 (ys.getD 0 ipd).1), .v (.bool true)] ∧ ∃ zs, zs.length = ys.length ∧ (ys.getD 0 ipd :: zs.take (n - 1)).Perm (ys.take n) ∧ Heap2 (zs.take (n - 1)) ∧
      H' = (H.set j ⟨ver, pcells zs⟩).set i ⟨0, [.fn f [], .sl j ver 2 0 (n - 1), .v (.int .i64 c)]⟩) := by
  refine vr_pqueue_Queue_Pop (by simp) (.inl rfl) fun hb _ => ?_
  have qi := h.qi
  have qj := h.qj
  have ne := h.ne
  have le := h.le
  have sm := h.sm
  have lt := blkAt_lt h.qj
  have lti := blkAt_lt h.qi
  have hl := lenT le
  simp (disch := ((try simp only [List.length_set, List.length_replicate, List.length_append, List.length_cons, List.length_nil]); omega)) only [aW, aX, aV, aB, aN, aL, aP, aH, s_pqueue_Queue_Pop, v_pqueue_Queue_Pop]
  refine (qpeek_vr f (ys.take n) c).use ⟨h.ld, trivial⟩ rfl (aret_of ?_)
  have h0 : decide (0 < (ys.take n).length) = true := by rw [hl]; simpa using hn
  simp (disch := ((try simp only [List.length_set, List.length_replicate, List.length_append, List.length_cons, List.length_nil]); omega)) only [aW, aX, aV, aB, aN, aL, aP, aH, h0, qi]
  refine (qswap_vr h 0 (n - 1) (by omega) (by omega) (by omega) (by omega)).mono ?_
  rintro r H' rfl
  refine aret_of ?_
  have e1 : ((n : Int) - 1).toNat = n - 1 := by omega
  have hq := h.set (swapL ys 0 (n - 1)) (by rw [swapL_len]; exact le)
  have hqi := hq.qi
  have hqj := hq.qj
  have hsl := swapL_len ys 0 (n - 1)
  have e2 : n - (n - 1) = 1 := by omega
  simp (disch := ((try simp only [List.length_set, List.length_replicate, List.length_append, List.length_cons, List.length_nil]); omega)) only [aW, aX, aV, aB, aN, aL, aP, aH, e1, e2, qi, hqi, hqj]
  generalize hy2 : (swapL ys 0 (n - 1)).set (n - 1) (0, 0) = ys2
  have hl2 : ys2.length = ys.length := by rw [← hy2, List.length_set, hsl]
  have ht2 : ys2.take (n - 1) = (swapL (ys.take n) 0 ((ys.take n).length - 1)).take ((ys.take n).length - 1) := by
    rw [hl, ← hy2, List.take_set_of_le (by omega), ← swapL_take ys n 0 (n - 1) (by omega) (by omega) le, List.take_take, Nat.min_eq_left (by omega)]
  have hq2 : QS ((H.set j ⟨ver, pcells ys2⟩).set i ⟨0, [.fn f [], .sl j ver 2 0 (n - 1), .v (.int .i64 c)]⟩) i j ver f ys2 (n - 1) c :=
    ⟨blkAt_set_same _ _ _ _ (by rw [List.length_set]; exact lti), by rw [blkAt_set_ne _ _ _ _ _ (Ne.symm ne)]; exact blkAt_set_same _ _ _ _ lt, by omega, ne, by omega⟩
  refine (qsink_vr hf hq2 (by rw [ht2]; exact dn_start hh (by omega))).mono ?_
  rintro r H' ⟨zs, w1, w2, w3, w4, rfl⟩
  refine aret_of ?_
  simp (disch := ((try simp only [List.length_set, List.length_replicate, List.length_append, List.length_cons, List.length_nil]); omega)) only [aW, aX, aV, aB, aN, aL, aP, aH, r_pqueue_Queue_Pop]
  have e3 : (ys.take n).getD 0 (0, 0) = ys.getD 0 ipd := by simp [List.getD_eq_getElem?_getD, List.getElem?_take, hn]
  rw [e3]
  refine post2 (R := fun r H' => _) ⟨rfl, zs, by omega, ?_, w4, ?_⟩
  · have g1 := pop_perm (l := ys.take n) (by omega)
    rw [← ht2, show (ys.take n).getD 0 ipd = ys.getD 0 ipd from e3] at g1
    exact (List.Perm.cons _ w2).trans g1
  · rw [List.set_comm _ _ (Ne.symm ne), List.set_set, List.set_comm _ _ ne]
theorem qpop0_vr {H : List Blk} {i f : Nat} {v : A} {c : Int} (hi : blkAt H i 0 = some [.fn f [], v, .v (.int .i64 c)]) (hv : Ld H v (.fs false (pairs []))) :
    VR P false n_pqueue_Queue_Pop [.lp i 0 0] H (fun r H' => r = .tup [.v (.int .i64 0), .v (.bool false)] ∧ H' = H) := by
  refine vr_pqueue_Queue_Pop (by simp) (.inl rfl) fun hb _ => ?_
  simp (disch := ((try simp only [List.length_set, List.length_replicate, List.length_append, List.length_cons, List.length_nil]); omega)) only [aW, aX, aV, aB, aN, aL, aP, aH, s_pqueue_Queue_Pop, v_pqueue_Queue_Pop]
  refine (qpeek_vr (w := false) (v := false) f [] c).use ⟨?_, trivial⟩ rfl (aret_of ?_)
  · have h1 := Ld.lp (o := 0) hi (r := [.fn f [], .fs false (pairs []), .v (.int .i64 c)]) ⟨Ld.refl rfl, hv, Ld.refl rfl, trivial⟩ (by simp)
    exact h1
  · have h0 : decide (0 < ([] : List IP).length) = false := rfl
    simp (disch := ((try simp only [List.length_set, List.length_replicate, List.length_append, List.length_cons, List.length_nil]); omega)) only [aW, aX, aV, aB, aN, aL, aP, aH, h0, r_pqueue_Queue_Pop]
    exact post2 (R := fun r H' => _) ⟨rfl, rfl⟩

/-- Adding an item. -/
theorem qpush_vr {H : List Blk} {i j ver f : Nat} {ys : List IP} {n : Nat} {c : Int} (hf : IsLt f) (h : QS H i j ver f ys n c) (hh : Heap2 (ys.take n)) (x : Int) (hc : 0 ≤ c) (hc2 : c < 1000000000) (hn : n + 1 < 1000000000) :
    VR P false n_pqueue_Queue_Push [.lp i 0 0, .v (.int .i64 x)] H (fun r H' => ∃ zs, zs.length = n + 1 ∧ zs.Perm (ys.take n ++ [(x, c)]) ∧ Heap2 zs ∧
      H' = (H.set j ⟨ver + 1, pcells zs⟩).set i ⟨0, [.fn f [], .sl j (ver + 1) 2 0 (n + 1), .v (.int .i64 (c + 1))]⟩) := by
  refine vr_pqueue_Queue_Push (by simp) (.inl rfl) fun hb _ => ?_
  have qi := h.qi
  have qj := h.qj
  have ne := h.ne
  have le := h.le
  have sm := h.sm
  have lt := blkAt_lt h.qj
  have lti := blkAt_lt h.qi
  have hl := lenT le
  simp (disch := ((try simp only [List.length_set, List.length_replicate, List.length_append, List.length_cons, List.length_nil]); omega)) only [aW, aX, aV, aB, aN, aL, aP, aH, s_pqueue_Queue_Push, v_pqueue_Queue_Push, qi, qj]
  have mem : ∀ zs : List IP, ((H.set j ⟨ver + 1, pcells zs⟩).set i ⟨0, [.fn f [], .sl j (ver + 1) 2 0 (n + 1), .v (.int .i64 (c + 1))]⟩).length = H.length := fun zs => by simp
  have okm : ∀ zs : List IP, okB H.length ((H.set j ⟨ver + 1, pcells zs⟩).set i ⟨0, [.fn f [], .sl j (ver + 1) 2 0 (n + 1), .v (.int .i64 (c + 1))]⟩) := fun zs => okB.set (okB.set hb (pc_bd _ _)) (by simp (disch := first | omega | simp (disch := omega) only [aF, aL, aN]) only [aW, aX, aV, aB, aN, aL, aP, aH, aF, Int.natCast_add, Int.natCast_mul, Int.add_sub_cancel, List.length_nil, Int.cast_ofNat_Int, and_true, true_and])
  refine AWP.loop (α := Nat × List IP) (fun p => p.2.length = n + 1 ∧ p.2.Perm (ys.take n ++ [(x, c)]) ∧ HeapUp p.2 p.1 ∧ p.1 < n + 1)
    (fun p => [.lp i 0 0, .v (.int .i64 x), .v (.int .i64 p.1), .any, .any, .any, .any]) (fun p => (H.set j ⟨ver + 1, pcells p.2⟩).set i ⟨0, [.fn f [], .sl j (ver + 1) 2 0 (n + 1), .v (.int .i64 (c + 1))]⟩) (fun p => p.1) (n, ys.take n ++ [(x, c)])
    ⟨by simp [hl], List.Perm.refl _, by have := up_start (x, c) hh; rw [hl] at this; exact this, by simp⟩ ?_ ?_
  · simp (disch := ((try simp only [List.length_set, List.length_replicate, List.length_append, List.length_cons, List.length_nil]); omega)) only [aW, aX, aV, aB, aN, aL, aP, aH]
    exact Cut.app (by rw [mem]; exact Nat.le_refl _) (by rw [mem]; exact okm _) (by rw [mem]; simp (disch := first | omega | simp (disch := omega) only [aF, aL, aN]) only [aW, aX, aV, aB, aN, aL, aP, aH, aF, Int.natCast_add, Int.natCast_mul, Int.add_sub_cancel, List.length_nil, Int.cast_ofNat_Int, and_true, true_and])
  rintro ⟨m, zs⟩ ⟨z1, z2, z3, z4⟩
  simp only at z1 z2 z3 z4
  refine aw_sound ?_
  have hq : QS ((H.set j ⟨ver + 1, pcells zs⟩).set i ⟨0, [.fn f [], .sl j (ver + 1) 2 0 (n + 1), .v (.int .i64 (c + 1))]⟩) i j (ver + 1) f zs (n + 1) (c + 1) :=
    ⟨blkAt_set_same _ _ _ _ (by rw [List.length_set]; exact lti), by rw [blkAt_set_ne _ _ _ _ _ (Ne.symm ne)]; exact blkAt_set_same _ _ _ _ lt, by omega, ne, hn⟩
  have ht : zs.take (n + 1) = zs := List.take_of_length_le (by omega)
  have hld := hq.ld
  rw [ht] at hld
  by_cases h0 : 0 < m
  · have hp : ((m : Int) - 1).tdiv 2 = (par m : Nat) := by
      rw [Int.tdiv_eq_ediv_of_nonneg (by omega)]; unfold par; omega
    have hpm : par m < m := by unfold par; omega
    have hp2 : ((m : Int) - 1) / 2 = (par m : Nat) := by unfold par; omega
    simp (disch := ((try simp only [List.length_set, List.length_replicate, List.length_append, List.length_cons, List.length_nil]); omega)) only [aW, aX, aV, aB, aN, aL, aP, aH, hp, hp2]
    refine (qbefore_vr hf zs (c + 1) m (par m : Nat) (by omega) (by omega) (by omega) (by omega)).use ⟨hld, Ld.refl rfl, Ld.refl rfl, trivial⟩ rfl (aret_of ?_)
    simp (disch := ((try simp only [List.length_set, List.length_replicate, List.length_append, List.length_cons, List.length_nil]); omega)) only [aW, aX, aV, aB, aN, aL, aP, aH]
    refine ib_intro (fun h1 => ?_) (fun h1 => ?_)
    · simp (disch := ((try simp only [List.length_set, List.length_replicate, List.length_append, List.length_cons, List.length_nil]); omega)) only [aW, aX, aV, aB, aN, aL, aP, aH, r_pqueue_Queue_Push]
      exact post2 (R := fun r H' => _) ⟨zs, z1, z2, up_done z3 (.inr h1), rfl⟩
    · have h1 : qlt (zs.getD m ipd) (zs.getD (par m) ipd) := Classical.not_not.1 h1
      simp (disch := ((try simp only [List.length_set, List.length_replicate, List.length_append, List.length_cons, List.length_nil]); omega)) only [aW, aX, aV, aB, aN, aL, aP, aH]
      refine (qswap_vr hq m (par m : Nat) (by omega) (by omega) (by omega) (by omega)).mono ?_
      rintro r H' rfl
      refine aret_of ?_
      have hsw : ∀ zs' : List IP, ((H.set j ⟨ver + 1, pcells zs⟩).set i ⟨0, [.fn f [], .sl j (ver + 1) 2 0 (n + 1), .v (.int .i64 (c + 1))]⟩).set j ⟨ver + 1, pcells zs'⟩ = (H.set j ⟨ver + 1, pcells zs'⟩).set i ⟨0, [.fn f [], .sl j (ver + 1) 2 0 (n + 1), .v (.int .i64 (c + 1))]⟩ := fun zs' => by
        rw [List.set_comm _ _ ne, List.set_set]
      simp (disch := ((try simp only [List.length_set, List.length_replicate, List.length_append, List.length_cons, List.length_nil]); omega)) only [aW, aX, aV, aB, aN, aL, aP, aH, hsw]
      refine ⟨(par m, swapL zs m (par m)), ⟨by simp only [swapL_len]; exact z1, (swapL_perm _ _ _ (by omega) (by omega)).trans z2, up_step z3 h0 (by omega) h1, by simp only; omega⟩, by simp only; omega, ?_⟩
      exact Cut.same (by rw [mem]; exact Nat.le_refl _) (by rw [mem]; exact okm _) (by rw [mem]; simp (disch := first | omega | simp (disch := omega) only [aF, aL, aN]) only [aW, aX, aV, aB, aN, aL, aP, aH, aF, Int.natCast_add, Int.natCast_mul, Int.add_sub_cancel, List.length_nil, Int.cast_ofNat_Int, and_true, true_and])
  · have h0 : m = 0 := by omega
    subst h0
    simp (disch := ((try simp only [List.length_set, List.length_replicate, List.length_append, List.length_cons, List.length_nil]); omega)) only [aW, aX, aV, aB, aN, aL, aP, aH, r_pqueue_Queue_Push]
    exact post2 (R := fun r H' => _) ⟨zs, z1, z2, up_done z3 (.inl rfl), rfl⟩
/-- Adding the first item. -/
theorem qpush0_vr {H : List Blk} {i f : Nat} {c : Int} (hi : blkAt H i 0 = some [.fn f [], .v (.slice none 0 0), .v (.int .i64 c)]) (x : Int) (hc : 0 ≤ c) (hc2 : c < 1000000000) :
    VR P false n_pqueue_Queue_Push [.lp i 0 0, .v (.int .i64 x)] H (fun r H' => H' = (H.set i ⟨0, [.fn f [], .sl (H.length + 1) 0 2 0 1, .v (.int .i64 (c + 1))]⟩) ++ [⟨0, pcells [(x, c)]⟩, ⟨0, pcells [(x, c)]⟩]) := by
  refine vr_pqueue_Queue_Push (by simp) (.inl rfl) fun hb _ => ?_
  have lti := blkAt_lt hi
  have e1 : ((1 : Nat) : Int) - 1 = 0 := rfl
  simp (disch := ((try simp only [List.length_set, List.length_replicate, List.length_append, List.length_cons, List.length_nil]); omega)) only [aW, aX, aV, aB, aN, aL, aP, aH, s_pqueue_Queue_Push, v_pqueue_Queue_Push, hi, e1]
  refine AWP.once ?_
  simp (disch := ((try simp only [List.length_set, List.length_replicate, List.length_append, List.length_cons, List.length_nil]); omega)) only [aW, aX, aV, aB, aN, aL, aP, aH, r_pqueue_Queue_Push]
  exact post2 (R := fun r H' => _) rfl
end Go.Proofs.Ytjhdedifmhkhbaa
namespace Go.Proofs.Ytjhdedifmhkhbaa
open Go Go.Lft
set_option linter.unusedSimpArgs false
set_option linter.unusedVariables false
attribute [local congr] ob_congr bw_congr ib_congr ck_congr iwA_congr itA_congr aw_congr awp_congr sqA_congr bkA_congr vr_congr gd_congr

/-- Numbers by number. -/
def tabI (N : Nat) (F : Nat → Int) : List Int := (List.range N).map F
theorem tabI_len (N : Nat) (F : Nat → Int) : (tabI N F).length = N := by simp [tabI]
theorem tabI_get (N : Nat) (F : Nat → Int) (k : Nat) (h : k < N) : (tabI N F).getD k 0 = F k := by simp [tabI, List.getD_eq_getElem?_getD, h]
theorem tabI_ext {N : Nat} {D E : Nat → Int} (h : ∀ k, k < N → D k = E k) : tabI N D = tabI N E := List.map_congr_left fun k hk => h k (List.mem_range.1 hk)
theorem tabI_set (N : Nat) (D : Nat → Int) (k : Nat) (y : Int) (h : k < N) : (tabI N D).set k y = tabI N (fun j => if j = k then y else D j) := by
  apply List.ext_getElem (by simp [tabI])
  intro i h1 h2
  simp only [tabI, List.length_set, List.length_map, List.length_range] at h1
  rw [List.getElem_set]
  by_cases hk : k = i
  · subst hk; simp [tabI]
  · simp [tabI, hk, Ne.symm hk]
theorem tabI_rep (N : Nat) : List.replicate N (0 : Int) = tabI N fun _ => 0 := by
  apply List.ext_getElem (by simp [tabI])
  intro i h1 h2
  simp [tabI]

/-- The arcs to v from nodes that were not taken. -/
def cnt (l : Arcs) (D : Nat → Bool) (v : Nat) : Nat := (l.filter fun a => a.2 == (v : Int) && !D a.1.toNat).length
theorem cnt_app (l m : Arcs) (D : Nat → Bool) (v : Nat) : cnt (l ++ m) D v = cnt l D v + cnt m D v := by simp [cnt]
theorem cnt_one (a : Int × Int) (D : Nat → Bool) (v : Nat) : cnt [a] D v = if a.2 = v ∧ D a.1.toNat = false then 1 else 0 := by
  unfold cnt
  by_cases h : a.2 = v ∧ D a.1.toNat = false
  · simp [h]
  · rw [if_neg h, List.filter_cons_of_neg]
    · rfl
    · simpa using h
def mix (l : Arcs) (D E : Nat → Bool) (i v : Nat) : Nat := cnt (l.take i) E v + cnt (l.drop i) D v
theorem mix_zero (l : Arcs) (D E : Nat → Bool) (v : Nat) : mix l D E 0 v = cnt l D v := by simp [mix, cnt]
theorem mix_all (l : Arcs) (D E : Nat → Bool) (v : Nat) : mix l D E l.length v = cnt l E v := by simp [mix, cnt]
theorem mix_step (l : Arcs) (D E : Nat → Bool) {i : Nat} (hi : i < l.length) (v : Nat) :
    mix l D E (i + 1) v + cnt [l.getD i (0, 0)] D v = mix l D E i v + cnt [l.getD i (0, 0)] E v := by
  unfold mix
  have h1 : l.drop i = [l.getD i (0, 0)] ++ l.drop (i + 1) := by
    rw [List.drop_eq_getElem_cons hi]; simp [List.getD_eq_getElem?_getD, hi]
  rw [take_succ_get l i (0, 0) hi, cnt_app, h1, cnt_app]
  omega
theorem cnt_zero {l : Arcs} {D : Nat → Bool} {v : Nat} : cnt l D v = 0 ↔ ∀ a ∈ l, a.2 = v → D a.1.toNat = true := by
  unfold cnt
  rw [List.length_eq_zero_iff, List.filter_eq_nil_iff]
  refine forall_congr' fun a => forall_congr' fun ha => ?_
  simp
theorem avail_iff (l : Arcs) (D : Nat → Bool) (v : Nat) : avail l D v = true ↔ D v = false ∧ cnt l D v = 0 := by
  rw [cnt_zero]
  unfold avail
  rw [Bool.and_eq_true, List.all_eq_true]
  simp only [Bool.not_eq_true', Bool.or_eq_true, bne_iff_ne, ne_eq]
  refine and_congr_right fun _ => forall_congr' fun a => forall_congr' fun ha => ?_
  constructor
  · rintro (h | h) h2
    · exact absurd h2 h
    · exact h
  · intro h
    by_cases h2 : a.2 = v
    · exact .inr (h h2)
    · exact .inl h2
theorem cnt_le (l : Arcs) (D : Nat → Bool) (v : Nat) : cnt l D v ≤ l.length := by unfold cnt; exact List.length_filter_le _ _
theorem mix_le (l : Arcs) (D E : Nat → Bool) (i v : Nat) : mix l D E i v ≤ l.length := by
  unfold mix
  have h1 := cnt_le (l.take i) E v
  have h2 := cnt_le (l.drop i) D v
  simp at h1 h2
  omega

/-- What comes next was not taken, and all before it were. -/
theorem next_in {n : Int} {l : Arcs} {D : Nat → Bool} (h : ¬ nextO n l D < 0) : 0 ≤ nextO n l D ∧ (nextO n l D).toNat < n.toNat ∧ avail l D (nextO n l D).toNat = true ∧ ∀ v, v < n.toNat → avail l D v = true → (nextO n l D).toNat ≤ v := by
  rcases low_cases (avail l D) n.toNat 0 with ⟨h1, _⟩ | ⟨i, h1, h2, h3, h4, h5⟩
  · exact absurd (show nextO n l D < 0 by unfold nextO; omega) h
  · have : nextO n l D = i := h1
    rw [this]
    refine ⟨by omega, by omega, by simpa using h4, fun v hv ha => ?_⟩
    rw [Int.toNat_natCast]
    apply Nat.not_lt.1; intro hlt
    rw [h5 v (by omega) hlt] at ha; cases ha
theorem next_none {n : Int} {l : Arcs} {D : Nat → Bool} (h : ∀ v, v < n.toNat → avail l D v = false) : nextO n l D < 0 := by
  rcases low_cases (avail l D) n.toNat 0 with ⟨h1, _⟩ | ⟨i, h1, h2, h3, h4, h5⟩
  · unfold nextO; omega
  · rw [h i (by omega)] at h4; cases h4
theorem ost_clo (n : Int) (l : Arcs) (hr : inR n l) : ∀ k, ∀ a ∈ l, (ost n l k).1 a.2.toNat = true → (ost n l k).1 a.1.toNat = true
  | 0, a, _, h => by simp [ost] at h
  | k + 1, a, ha, h => by
    simp only [ost] at h ⊢
    split at h
    · rename_i hc; rw [if_pos hc]; exact ost_clo n l hr k a ha h
    · rename_i hc
      rw [if_neg hc]
      simp only [Bool.or_eq_true, beq_iff_eq] at h ⊢
      rcases h with h | h
      · exact .inl (ost_clo n l hr k a ha h)
      · obtain ⟨g1, g2, g3, _⟩ := next_in hc
        have := cnt_zero.1 ((avail_iff _ _ _).1 g3).2 a ha (by have := hr a ha; omega)
        exact .inl this

theorem qnew_vr (f : Nat) : VR P false n_pqueue_New [.fn f []] [] (ownR (.lp 0 0 0) [⟨0, [.fn f [], .v (.slice none 0 0), .v (.int .i64 0)]⟩]) := by
  refine vr_pqueue_New (by simp) (.inr rfl) fun _ _ => ?_
  simp (disch := ((try simp only [List.length_set, List.length_replicate, List.length_append, List.length_cons, List.length_nil]); omega)) only [aW, aX, aV, aB, aN, aL, aP, aH, s_pqueue_New, v_pqueue_New, r_pqueue_New]
  exact post2 (R := ownR _ _) ⟨rfl, rfl⟩

/-- The queue holds what may come next. -/
structure QI (n : Int) (D : Nat → Bool) (F : Nat → Nat) (hs : List IP) : Prop where
  heap : Heap2 hs
  mem : ∀ v : Int, v ∈ hs.map Prod.fst ↔ (0 ≤ v ∧ v < n) ∧ D v.toNat = false ∧ F v.toNat = 0
  nd : (hs.map Prod.fst).Nodup
theorem QI.push {n : Int} {D : Nat → Bool} {F F' : Nat → Nat} {hs zs : List IP} {x c : Int} (h : QI n D F hs) (hp : zs.Perm (hs ++ [(x, c)])) (hh : Heap2 zs) (hx : (0 ≤ x ∧ x < n) ∧ D x.toNat = false ∧ F' x.toNat = 0) (hF : F x.toNat ≠ 0) (he : ∀ v, v ≠ x.toNat → F' v = F v) : QI n D F' zs := by
  have hp' := hp.map Prod.fst
  rw [List.map_append] at hp'
  refine ⟨hh, fun v => ?_, ?_⟩
  · rw [hp'.mem_iff, List.mem_append, h.mem]
    simp only [List.map_cons, List.map_nil, List.mem_singleton]
    constructor
    · rintro (⟨h1, h2, h3⟩ | rfl)
      · exact ⟨h1, h2, by rw [he _ (fun hc => hF (by rw [← hc]; exact h3))]; exact h3⟩
      · exact hx
    · rintro ⟨h1, h2, h3⟩
      by_cases hv : v = x
      · exact .inr hv
      · exact .inl ⟨h1, h2, by rw [← he _ (by omega)]; exact h3⟩
  · rw [hp'.nodup_iff, List.nodup_append]
    refine ⟨h.nd, by simp, fun a ha b hb => ?_⟩
    simp at hb
    subst hb
    rintro rfl
    exact hF ((h.mem _).1 ha).2.2
theorem QI.grow {m : Nat} {D : Nat → Bool} {F : Nat → Nat} {hs zs : List IP} {c : Int} (h : QI m D F hs) (hp : zs.Perm (hs ++ [((m : Int), c)])) (hh : Heap2 zs) (hD : D m = false) (hF : F m = 0) : QI (m + 1 : Nat) D F zs := by
  have hp' := hp.map Prod.fst
  rw [List.map_append] at hp'
  refine ⟨hh, fun v => ?_, ?_⟩
  · rw [hp'.mem_iff, List.mem_append, h.mem]
    simp only [List.map_cons, List.map_nil, List.mem_singleton]
    constructor
    · rintro (⟨h1, h2, h3⟩ | rfl)
      · exact ⟨by omega, h2, h3⟩
      · exact ⟨by omega, by simpa using hD, by simpa using hF⟩
    · rintro ⟨h1, h2, h3⟩
      by_cases hv : v = m
      · exact .inr hv
      · exact .inl ⟨by omega, h2, h3⟩
  · rw [hp'.nodup_iff, List.nodup_append]
    refine ⟨h.nd, by simp, fun a ha b hb => ?_⟩
    simp at hb
    subst hb
    rintro rfl
    have := ((h.mem _).1 ha).1
    omega
theorem QI.skip {m : Nat} {D : Nat → Bool} {F : Nat → Nat} {hs : List IP} (h : QI m D F hs) (hF : F m ≠ 0) : QI (m + 1 : Nat) D F hs :=
  ⟨h.heap, fun v => by
    rw [h.mem]
    constructor
    · rintro ⟨h1, h2⟩; exact ⟨by omega, h2⟩
    · rintro ⟨h1, h2, h3⟩
      refine ⟨⟨h1.1, ?_⟩, h2, h3⟩
      apply Int.not_le.1; intro hc
      have : v = m := by omega
      subst this; simp at h3; exact hF h3, h.nd⟩
theorem QI.one {m : Nat} {D : Nat → Bool} {F : Nat → Nat} {c : Int} (h : ∀ v, v < m → F v ≠ 0) (hD : D m = false) (hF : F m = 0) : QI (m + 1 : Nat) D F [((m : Int), c)] :=
  ⟨fun k h1 h2 => by simp at h2; omega, fun v => by
    simp only [List.map_cons, List.map_nil, List.mem_singleton]
    constructor
    · rintro rfl; exact ⟨by omega, by simpa using hD, by simpa using hF⟩
    · rintro ⟨h1, h2, h3⟩
      apply Classical.byContradiction; intro hc
      exact h v.toNat (by omega) h3, by simp⟩
/-- The first of the queue is what comes next. -/
theorem QI.first {n : Int} {l : Arcs} {D : Nat → Bool} {hs : List IP} (h : QI n D (cnt l D) hs) (h0 : 0 < hs.length) : (hs.getD 0 ipd).1 = nextO n l D ∧ ¬ nextO n l D < 0 := by
  have hm : (hs.getD 0 ipd).1 ∈ hs.map Prod.fst := List.mem_map.2 ⟨hs.getD 0 ipd, by simp [List.getD_eq_getElem?_getD, h0], rfl⟩
  obtain ⟨h1, h2, h3⟩ := (h.mem _).1 hm
  have hav : avail l D (hs.getD 0 ipd).1.toNat = true := (avail_iff _ _ _).2 ⟨h2, h3⟩
  have hneg : ¬ nextO n l D < 0 := by
    intro hc
    rcases low_cases (avail l D) n.toNat 0 with ⟨g1, g2⟩ | ⟨i, g1, _⟩
    · rw [g2 _ (Nat.zero_le _) (by omega)] at hav; cases hav
    · unfold nextO at hc; omega
  obtain ⟨g1, g2, g3, g4⟩ := next_in hneg
  refine ⟨?_, hneg⟩
  have g5 := g4 _ (by omega) hav
  -- and it is not less
  obtain ⟨g6, g7⟩ := (avail_iff _ _ _).1 g3
  have hm2 := (h.mem (nextO n l D)).2 ⟨by omega, g6, g7⟩
  obtain ⟨p, hp, hpe⟩ := List.mem_map.1 hm2
  obtain ⟨k, hk, rfl⟩ := List.mem_iff_getElem.1 hp
  have := heap_min h.heap k hk
  have hg : hs.getD k ipd = hs[k] := by simp [List.getD_eq_getElem?_getD, hk]
  rw [hg] at this
  unfold qlt at this
  omega
/-- After the first was taken off. -/
theorem QI.pop {n : Int} {D : Nat → Bool} {F : Nat → Nat} {hs zs : List IP} (h : QI n D F hs) (h0 : 0 < hs.length) (hp : (hs.getD 0 ipd :: zs).Perm hs) (hh : Heap2 zs) : QI n (fun j => D j || j == (hs.getD 0 ipd).1.toNat) F zs := by
  have hm : (hs.getD 0 ipd).1 ∈ hs.map Prod.fst := List.mem_map.2 ⟨hs.getD 0 ipd, by simp [List.getD_eq_getElem?_getD, h0], rfl⟩
  have hx := (h.mem _).1 hm
  have hp' := hp.map Prod.fst
  have hnd := (hp'.nodup_iff).2 h.nd
  rw [List.map_cons, List.nodup_cons] at hnd
  refine ⟨hh, fun v => ?_, hnd.2⟩
  have h1 := (hp'.mem_iff (a := v)).symm.trans Iff.rfl
  rw [h.mem, List.map_cons, List.mem_cons] at h1
  constructor
  · intro hv
    obtain ⟨g1, g2, g3⟩ := h1.2 (.inr hv)
    refine ⟨g1, ?_, g3⟩
    have : v ≠ (hs.getD 0 ipd).1 := by rintro rfl; exact hnd.1 hv
    simp only [g2, Bool.false_or, beq_eq_false_iff_ne, ne_eq]
    omega
  · rintro ⟨g1, g2, g3⟩
    simp only [Bool.or_eq_false_iff, beq_eq_false_iff_ne, ne_eq] at g2
    rcases h1.1 ⟨g1, g2.1, g3⟩ with rfl | h4
    · exact absurd rfl g2.2
    · exact h4
end Go.Proofs.Ytjhdedifmhkhbaa
namespace Go.Proofs.Ytjhdedifmhkhbaa
open Go Go.Lft
set_option linter.unusedSimpArgs false
set_option linter.unusedVariables false
attribute [local congr] ob_congr bw_congr ib_congr ck_congr iwA_congr itA_congr aw_congr awp_congr sqA_congr bkA_congr vr_congr gd_congr

abbrev fN : Nat := n_graph_Order_1
/-- The memory: no queue yet; a queue. -/
abbrev om0 (w : Bool) (n : Int) (l : Arcs) (O : List Int) : List Blk := [⟨0, [.v (.int .i64 n), .fs w (pairs l)]⟩, ⟨0, ints O⟩, ⟨0, [.fn fN [], .v (.slice none 0 0), .v (.int .i64 0)]⟩]
abbrev om1 (w : Bool) (n : Int) (l : Arcs) (O : List Int) (x0 : Int) (qv nq : Nat) (ys : List IP) (c : Int) (T : List Blk) : List Blk :=
  ⟨0, [.v (.int .i64 n), .fs w (pairs l)]⟩ :: ⟨0, ints O⟩ :: ⟨0, [.fn fN [], .sl 4 qv 2 0 nq, .v (.int .i64 c)]⟩ :: ⟨0, pcells [(x0, 0)]⟩ :: ⟨qv, pcells ys⟩ :: T

theorem om1_qs {w : Bool} {n : Int} {l : Arcs} {O : List Int} {x0 : Int} {qv nq : Nat} {ys : List IP} {c : Int} {T : List Blk} (h1 : nq ≤ ys.length) (h2 : nq < 1000000000) : QS (om1 w n l O x0 qv nq ys c T) 2 4 qv fN ys nq c :=
  ⟨by simp (disch := ((try simp only [List.length_set, List.length_replicate, List.length_append, List.length_cons, List.length_nil]); omega)) only [aW, aX, aV, aB, aN, aL, aP, aH], by simp (disch := ((try simp only [List.length_set, List.length_replicate, List.length_append, List.length_cons, List.length_nil]); omega)) only [aW, aX, aV, aB, aN, aL, aP, aH], h1, by omega, h2⟩

structure OG where
  ys : List IP
  nq : Nat
  qv : Nat
  c : Int
structure OI (n : Int) (D : Nat → Bool) (F : Nat → Nat) (g : OG) (b : Int) : Prop where
  le : g.nq ≤ g.ys.length
  qi : QI n D F (g.ys.take g.nq)
  c0 : 0 ≤ g.c
  c1 : g.c ≤ b
  nc : g.nq ≤ g.c
def om2 (w : Bool) (n : Int) (l : Arcs) (O : List Int) : Option (OG × Int) → List Blk
  | none => om0 w n l O
  | some (g, x0) => om1 w n l O x0 g.qv g.nq g.ys g.c []

theorem ost_count (n : Int) (l : Arcs) : ∀ k, (ost n l k).2.length = k → (tab n.toNat (ost n l k).1).count false + k = n.toNat
  | 0, _ => by
    have : tab n.toNat (ost n l 0).1 = List.replicate n.toNat false := by
      rw [tab_rep]; rfl
    rw [this]; simp
  | k + 1, h => by
    have hs : ost n l (k + 1) = if nextO n l (ost n l k).1 < 0 then ost n l k else (fun j => (ost n l k).1 j || j == (nextO n l (ost n l k).1).toNat, (ost n l k).2 ++ [nextO n l (ost n l k).1]) := rfl
    rw [hs] at h ⊢
    by_cases hc : nextO n l (ost n l k).1 < 0
    · rw [if_pos hc] at h
      have := ost_len n l k
      omega
    · rw [if_neg hc] at h ⊢
      obtain ⟨n1, n2, n3, n4⟩ := next_in hc
      have hk : (ost n l k).2.length = k := by simpa using h
      have ih := ost_count n l k hk
      have hf := ((avail_iff _ _ _).1 n3).1
      have := count_set (tab n.toNat (ost n l k).1) (nextO n l (ost n l k).1).toNat (by rw [tab_len]; exact n2) (by rw [tab_get _ _ _ n2]; exact hf)
      rw [tab_set _ _ _ n2] at this
      simp only
      omega
theorem ost_lt (n : Int) (l : Arcs) (k : Nat) (h : (ost n l k).2.length = k) (hc : ¬ nextO n l (ost n l k).1 < 0) : k < n.toNat := by
  obtain ⟨n1, n2, n3, n4⟩ := next_in hc
  have ih := ost_count n l k h
  have hf := ((avail_iff _ _ _).1 n3).1
  have := count_set (tab n.toNat (ost n l k).1) (nextO n l (ost n l k).1).toNat (by rw [tab_len]; exact n2) (by rw [tab_get _ _ _ n2]; exact hf)
  omega
theorem mix_miss {l : Arcs} {D : Nat → Bool} {X i : Nat} (hi : i < l.length) (h : (l.getD i (0, 0)).1.toNat ≠ X) (v : Nat) : mix l D (fun j => D j || j == X) (i + 1) v = mix l D (fun j => D j || j == X) i v := by
  have := mix_step l D (fun j => D j || j == X) hi v
  rw [cnt_one, cnt_one] at this
  have h2 : ((l.getD i (0, 0)).1.toNat == X) = false := by simpa using h
  simp only [h2, Bool.or_false] at this
  omega
theorem mix_hit {l : Arcs} {D : Nat → Bool} {X i : Nat} (hi : i < l.length) (h : (l.getD i (0, 0)).1.toNat = X) (hD : D X = false) (v : Nat) : mix l D (fun j => D j || j == X) (i + 1) v + (if (l.getD i (0, 0)).2 = v then 1 else 0) = mix l D (fun j => D j || j == X) i v := by
  have := mix_step l D (fun j => D j || j == X) hi v
  rw [cnt_one, cnt_one, h] at this
  simp only [hD, beq_self_eq_true, Bool.or_true, and_true, reduceCtorEq, and_false, if_false] at this
  omega
theorem QI.same {n : Int} {D : Nat → Bool} {F F' : Nat → Nat} {hs : List IP} (h : QI n D F hs) (he : ∀ v, F' v = 0 ↔ F v = 0) : QI n D F' hs :=
  ⟨h.heap, fun v => by rw [h.mem, he], h.nd⟩

theorem order_vr {w : Bool} (n : Int) (l : Arcs) : VR P false n_graph_Order [graphA w n l] [] (isR (.tup [.fs true (ints (orderR n l).1), .v (.int .i64 (orderR n l).2)])) := by
  refine vr_graph_Order (by simp) (.inr rfl) fun _ _ => ?_
  unfold graphA
  simp (disch := ((try simp only [List.length_set, List.length_replicate, List.length_append, List.length_cons, List.length_nil]); omega)) only [aW, aX, aV, aB, aN, aL, aP, aH, s_graph_Order, v_graph_Order]
  refine (check_vr (w := w) n l).same (by unfold graphA; simp (disch := first | omega | simp (disch := omega) only [aF, aL, aN]) only [aW, aX, aV, aB, aN, aL, aP, aH, aF, Int.natCast_add, Int.natCast_mul, Int.add_sub_cancel, List.length_nil, Int.cast_ofNat_Int, and_true, true_and]) rfl (aret_of ?_)
  simp (disch := ((try simp only [List.length_set, List.length_replicate, List.length_append, List.length_cons, List.length_nil]); omega)) only [aW, aX, aV, aB, aN, aL, aP, aH]
  refine ib_intro (fun h1 => ?_) (fun h1 => ?_)
  · simp (disch := ((try simp only [List.length_set, List.length_replicate, List.length_append, List.length_cons, List.length_nil]); omega)) only [aW, aX, aV, aB, aN, aL, aP, aH, r_graph_Order]
    refine post_err ⟨?_, rfl⟩
    unfold orderR; rw [if_pos h1]; rfl
  have h1 : gcheck n l = 0 := Classical.not_not.1 h1
  obtain ⟨c1, c2, c3, c4⟩ := gcheck_ok h1
  simp (disch := ((try simp only [List.length_set, List.length_replicate, List.length_append, List.length_cons, List.length_nil]); omega)) only [aW, aX, aV, aB, aN, aL, aP, aH]
  refine AWP.loopP g_graph_Order_0 (fun i : Nat => i ≤ l.length) (fun i => [(5, .v (.int .i64 i))]) (fun i => [(1, ⟨0, ints (tabI 64 fun v => (cnt (l.take i) (fun _ => false) v : Int))⟩)]) (fun i => l.length - i) 0 (by omega) ?_ ?_
  · have e0 : tabI 64 (fun v => (cnt (l.take 0) (fun _ => false) v : Int)) = List.replicate 64 0 := by rw [tabI_rep]; rfl
    simp (disch := ((try simp only [List.length_set, List.length_replicate, List.length_append, List.length_cons, List.length_nil]); omega)) only [aW, aX, aV, aB, aN, aL, aP, aH, e0]
    exact Cut.of' 2 rfl (by omega) (by simp (disch := first | omega | simp (disch := omega) only [aF, aL, aN]) only [aW, aX, aV, aB, aN, aL, aP, aH, aF, Int.natCast_add, Int.natCast_mul, Int.add_sub_cancel, List.length_nil, Int.cast_ofNat_Int, and_true, true_and]) (by simp (disch := first | omega | simp (disch := omega) only [aF, aL, aN]) only [aW, aX, aV, aB, aN, aL, aP, aH, aF, Int.natCast_add, Int.natCast_mul, Int.add_sub_cancel, List.length_nil, Int.cast_ofNat_Int, and_true, true_and])
  rintro i hi
  by_cases hlt : i < l.length
  · have hmem : l.getD i (0, 0) ∈ l := by simp [List.getD_eq_getElem?_getD, hlt]
    obtain ⟨⟨r1, r2⟩, r3, r4⟩ := c4 _ hmem
    have hO := tabI_len 64 fun v => (cnt (l.take i) (fun _ => false) v : Int)
    have hOg := tabI_get 64 (fun v => (cnt (l.take i) (fun _ => false) v : Int)) (l.getD i (0, 0)).2.toNat (by omega)
    have hcb := cnt_le (l.take i) (fun _ => false) (l.getD i (0, 0)).2.toNat
    have hcb2 : (l.take i).length ≤ l.length := by simp; omega
    simp (disch := ((try simp only [List.length_set, List.length_replicate, List.length_append, List.length_cons, List.length_nil]); omega)) only [aW, aX, aV, aB, aN, aL, aP, aH, hOg]
    refine ⟨i + 1, by omega, by omega, ?_⟩
    have e1 : tabI 64 (fun v => (cnt (l.take (i + 1)) (fun _ => false) v : Int)) = (tabI 64 fun v => (cnt (l.take i) (fun _ => false) v : Int)).set (l.getD i (0, 0)).2.toNat (cnt (l.take i) (fun _ => false) (l.getD i (0, 0)).2.toNat + 1) := by
      rw [tabI_set _ _ _ _ (by omega)]
      refine tabI_ext fun v _ => ?_
      rw [take_succ_get l i (0, 0) hlt, cnt_app, cnt_one]
      by_cases hv : v = (l.getD i (0, 0)).2.toNat
      · subst hv; rw [if_pos (by constructor; omega; rfl), if_pos rfl]; omega
      · rw [if_neg (fun hc => hv (by omega)), if_neg hv]; omega
    simp only [e1]
    try simp (disch := ((try simp only [List.length_set, List.length_replicate, List.length_append, List.length_cons, List.length_nil]); omega)) only [aW, aX, aV, aB, aN, aL, aP, aH]
    exact Cut.of' 2 rfl (by omega) (by simp (disch := first | omega | simp (disch := omega) only [aF, aL, aN]) only [aW, aX, aV, aB, aN, aL, aP, aH, aF, Int.natCast_add, Int.natCast_mul, Int.add_sub_cancel, List.length_nil, Int.cast_ofNat_Int, and_true, true_and]) (by simp (disch := first | omega | simp (disch := omega) only [aF, aL, aN]) only [aW, aX, aV, aB, aN, aL, aP, aH, aF, Int.natCast_add, Int.natCast_mul, Int.add_sub_cancel, List.length_nil, Int.cast_ofNat_Int, and_true, true_and])
  have hil : i = l.length := by omega
  subst hil
  have hO := tabI_len 64 fun v => (cnt l (fun _ => false) v : Int)
  simp (disch := ((try simp only [List.length_set, List.length_replicate, List.length_append, List.length_cons, List.length_nil]); omega)) only [aW, aX, aV, aB, aN, aL, aP, aH, List.take_length]
  refine (qnew_vr fN).useO ⟨Ld.refl rfl, trivial⟩ (by rfl) (aret_of ?_)
  simp (disch := ((try simp only [List.length_set, List.length_replicate, List.length_append, List.length_cons, List.length_nil]); omega)) only [aW, aX, aV, aB, aN, aL, aP, aH, A.sh, A.shL, Blk.sh, List.map_cons, List.map_nil]
  have hzero : ∀ v, v < 64 → ((cnt l (fun _ => false) v : Int) = 0 ↔ cnt l (fun _ => false) v = 0) := fun v _ => by omega
  refine AWP.loopM (α := Nat × Option (OG × Int)) g_graph_Order_1 (fun p => p.1 ≤ n.toNat ∧ (match p.2 with | none => ∀ v, v < p.1 → cnt l (fun _ => false) v ≠ 0 | some (g, _) => OI p.1 (fun _ => false) (cnt l fun _ => false) g p.1))
    (fun p => [(12, .v (.int .i64 p.1))]) (fun p => om2 w n l (tabI 64 fun v => (cnt l (fun _ => false) v : Int)) p.2) (fun p => n.toNat - p.1) (0, none) ⟨by omega, fun v hv => by simp only at hv; omega⟩ ?_ ?_
  · simp (disch := ((try simp only [List.length_set, List.length_replicate, List.length_append, List.length_cons, List.length_nil]); omega)) only [aW, aX, aV, aB, aN, aL, aP, aH, om2, om0]
    exact Cut.of' 3 rfl (by omega) (by simp (disch := first | omega | simp (disch := omega) only [aF, aL, aN]) only [aW, aX, aV, aB, aN, aL, aP, aH, aF, Int.natCast_add, Int.natCast_mul, Int.add_sub_cancel, List.length_nil, Int.cast_ofNat_Int, and_true, true_and]) (by simp (disch := first | omega | simp (disch := omega) only [aF, aL, aN]) only [aW, aX, aV, aB, aN, aL, aP, aH, aF, Int.natCast_add, Int.natCast_mul, Int.add_sub_cancel, List.length_nil, Int.cast_ofNat_Int, and_true, true_and])
  rintro ⟨m, q⟩ ⟨hm, hq⟩
  simp only at hm hq
  by_cases hmt : m < n.toNat
  · have hg := tabI_get 64 (fun v => (cnt l (fun _ => false) v : Int)) m (by omega)
    cases q with
    | none =>
      simp only at hq
      by_cases h0 : cnt l (fun _ => false) m = 0
      · simp (disch := ((try simp only [List.length_set, List.length_replicate, List.length_append, List.length_cons, List.length_nil]); omega)) only [aW, aX, aV, aB, aN, aL, aP, aH, om2, om0, hg, h0]
        refine (qpush0_vr (H := om0 w n l (tabI 64 fun v => (cnt l (fun _ => false) v : Int))) (i := 2) (f := fN) (c := 0) (by simp (disch := ((try simp only [List.length_set, List.length_replicate, List.length_append, List.length_cons, List.length_nil]); omega)) only [aW, aX, aV, aB, aN, aL, aP, aH]) m (by omega) (by omega)).mono ?_
        rintro r H' rfl
        refine aret_of ?_
        simp (disch := ((try simp only [List.length_set, List.length_replicate, List.length_append, List.length_cons, List.length_nil]); omega)) only [aW, aX, aV, aB, aN, aL, aP, aH, om0]
        refine ⟨(m + 1, some (⟨[((m : Int), 0)], 1, 0, 0 + 1⟩, (m : Int))), ⟨by simp only; omega, ?_⟩, by simp only; omega, ?_⟩
        · exact ⟨by simp, QI.one hq rfl h0, by simp, by simp only; omega, by simp⟩
        · exact Cut.of' 5 rfl (by omega) (by simp (disch := first | omega | simp (disch := omega) only [aF, aL, aN]) only [aW, aX, aV, aB, aN, aL, aP, aH, aF, Int.natCast_add, Int.natCast_mul, Int.add_sub_cancel, List.length_nil, Int.cast_ofNat_Int, and_true, true_and, om2, om1]) (by simp (disch := first | omega | simp (disch := omega) only [aF, aL, aN]) only [aW, aX, aV, aB, aN, aL, aP, aH, aF, Int.natCast_add, Int.natCast_mul, Int.add_sub_cancel, List.length_nil, Int.cast_ofNat_Int, and_true, true_and])
      · simp (disch := ((try simp only [List.length_set, List.length_replicate, List.length_append, List.length_cons, List.length_nil]); omega)) only [aW, aX, aV, aB, aN, aL, aP, aH, om2, om0, hg, h0]
        refine ⟨(m + 1, none), ⟨by simp only; omega, fun v hv => ?_⟩, by simp only; omega, ?_⟩
        · simp only at hv
          by_cases hvm : v = m
          · subst hvm; exact h0
          · exact hq v (by omega)
        · exact Cut.of' 3 rfl (by omega) (by simp (disch := first | omega | simp (disch := omega) only [aF, aL, aN]) only [aW, aX, aV, aB, aN, aL, aP, aH, aF, Int.natCast_add, Int.natCast_mul, Int.add_sub_cancel, List.length_nil, Int.cast_ofNat_Int, and_true, true_and, om2, om0]) (by simp (disch := first | omega | simp (disch := omega) only [aF, aL, aN]) only [aW, aX, aV, aB, aN, aL, aP, aH, aF, Int.natCast_add, Int.natCast_mul, Int.add_sub_cancel, List.length_nil, Int.cast_ofNat_Int, and_true, true_and])
    | some gx =>
      obtain ⟨g, x0⟩ := gx
      simp only at hq
      have hc0 := hq.c0
      have hc1 := hq.c1
      have hnc := hq.nc
      by_cases h0 : cnt l (fun _ => false) m = 0
      · simp (disch := ((try simp only [List.length_set, List.length_replicate, List.length_append, List.length_cons, List.length_nil]); omega)) only [aW, aX, aV, aB, aN, aL, aP, aH, om2, om1, hg, h0]
        refine (qpush_vr order1_lt (om1_qs (w := w) (n := n) (l := l) (O := tabI 64 fun v => (cnt l (fun _ => false) v : Int)) (x0 := x0) (T := []) hq.le (by omega)) hq.qi.heap m hc0 (by omega) (by omega)).mono ?_
        rintro r H' ⟨zs, z1, z2, z3, rfl⟩
        refine aret_of ?_
        simp (disch := ((try simp only [List.length_set, List.length_replicate, List.length_append, List.length_cons, List.length_nil]); omega)) only [aW, aX, aV, aB, aN, aL, aP, aH, om1]
        refine ⟨(m + 1, some (⟨zs, g.nq + 1, g.qv + 1, g.c + 1⟩, x0)), ⟨by simp only; omega, ?_⟩, by simp only; omega, ?_⟩
        · have hzt : zs.take (g.nq + 1) = zs := List.take_of_length_le (by omega)
          exact ⟨by simp only; omega, by simp only; rw [hzt]; exact hq.qi.grow z2 z3 rfl h0, by simp only; omega, by simp only; omega, by simp only; omega⟩
        · exact Cut.of' 5 rfl (by omega) (by simp (disch := first | omega | simp (disch := omega) only [aF, aL, aN]) only [aW, aX, aV, aB, aN, aL, aP, aH, aF, Int.natCast_add, Int.natCast_mul, Int.add_sub_cancel, List.length_nil, Int.cast_ofNat_Int, and_true, true_and, om2, om1]) (by simp (disch := first | omega | simp (disch := omega) only [aF, aL, aN]) only [aW, aX, aV, aB, aN, aL, aP, aH, aF, Int.natCast_add, Int.natCast_mul, Int.add_sub_cancel, List.length_nil, Int.cast_ofNat_Int, and_true, true_and])
      · simp (disch := ((try simp only [List.length_set, List.length_replicate, List.length_append, List.length_cons, List.length_nil]); omega)) only [aW, aX, aV, aB, aN, aL, aP, aH, om2, om1, hg, h0]
        refine ⟨(m + 1, some (g, x0)), ⟨by simp only; omega, ⟨hq.le, hq.qi.skip h0, hq.c0, by simp only; omega, hq.nc⟩⟩, by simp only; omega, ?_⟩
        exact Cut.of' 5 rfl (by omega) (by simp (disch := first | omega | simp (disch := omega) only [aF, aL, aN]) only [aW, aX, aV, aB, aN, aL, aP, aH, aF, Int.natCast_add, Int.natCast_mul, Int.add_sub_cancel, List.length_nil, Int.cast_ofNat_Int, and_true, true_and, om2, om1]) (by simp (disch := first | omega | simp (disch := omega) only [aF, aL, aN]) only [aW, aX, aV, aB, aN, aL, aP, aH, aF, Int.natCast_add, Int.natCast_mul, Int.add_sub_cancel, List.length_nil, Int.cast_ofNat_Int, and_true, true_and])
  have hmn : m = n.toNat := by omega
  subst hmn
  cases q with
  | none =>
    simp only at hq
    simp (disch := ((try simp only [List.length_set, List.length_replicate, List.length_append, List.length_cons, List.length_nil]); omega)) only [aW, aX, aV, aB, aN, aL, aP, aH, om2, om0]
    refine AWP.once ?_
    simp (disch := ((try simp only [List.length_set, List.length_replicate, List.length_append, List.length_cons, List.length_nil]); omega)) only [aW, aX, aV, aB, aN, aL, aP, aH]
    refine (qpop0_vr (f := fN) (v := .v (.slice none 0 0)) (c := 0) (by simp (disch := ((try simp only [List.length_set, List.length_replicate, List.length_append, List.length_cons, List.length_nil]); omega)) only [aW, aX, aV, aB, aN, aL, aP, aH]) (ld_nilA _)).mono ?_
    rintro r H' ⟨rfl, rfl⟩
    refine aret_of ?_
    have hneg : nextO n l (fun _ => false) < 0 := next_none fun v hv => by
      rw [← Bool.not_eq_true, avail_iff]; exact fun hc => hq v hv hc.2
    have hend : ost n l n.toNat = ost n l 0 := ost_end n l (Nat.zero_le _) hneg
    by_cases hn0 : 0 < n.toNat
    · simp (disch := ((try simp only [List.length_set, List.length_replicate, List.length_append, List.length_cons, List.length_nil]); omega)) only [aW, aX, aV, aB, aN, aL, aP, aH, r_graph_Order]
      refine post_err ⟨?_, rfl⟩
      unfold orderR; rw [if_neg (by simp [h1]), hend, if_pos (by simpa [ost] using hn0)]; rfl
    · simp (disch := ((try simp only [List.length_set, List.length_replicate, List.length_append, List.length_cons, List.length_nil]); omega)) only [aW, aX, aV, aB, aN, aL, aP, aH, r_graph_Order]
      refine post_err ⟨?_, rfl⟩
      unfold orderR; rw [if_neg (by simp [h1]), hend, if_neg (by simpa [ost] using hn0)]; rfl
  | some gx =>
    obtain ⟨g, x0⟩ := gx
    simp only at hq
    simp (disch := ((try simp only [List.length_set, List.length_replicate, List.length_append, List.length_cons, List.length_nil]); omega)) only [aW, aX, aV, aB, aN, aL, aP, aH, om2, om1]
    refine AWP.cut (Cut.virt 16 1 rfl) ?_
    refine AWP.loopM (α := Nat × Nat × OG) g_graph_Order_2 (fun p => p.1 ≤ n.toNat ∧ (ost n l p.1).2.length = p.1 ∧ OI n (ost n l p.1).1 (cnt l (ost n l p.1).1) p.2.2 (64 + 512 * p.1))
      (fun p => [(16, .vs 5 p.2.1 1 p.1)]) (fun p => om1 w n l (tabI 64 fun v => (cnt l (ost n l p.1).1 v : Int)) x0 p.2.2.qv p.2.2.nq p.2.2.ys p.2.2.c [⟨p.2.1, ints (ost n l p.1).2⟩]) (fun p => n.toNat - p.1) (0, 0, g) ⟨by simp, rfl, ?_⟩ ?_ ?_
    · have hnn : ((n.toNat : Nat) : Int) = n := by omega
      rw [hnn] at hq
      exact ⟨hq.le, hq.qi, hq.c0, by have := hq.c1; simp only; omega, hq.nc⟩
    · simp (disch := ((try simp only [List.length_set, List.length_replicate, List.length_append, List.length_cons, List.length_nil]); omega)) only [aW, aX, aV, aB, aN, aL, aP, aH, om1]
      exact Cut.of' 6 rfl (by omega) (by simp (disch := first | omega | simp (disch := omega) only [aF, aL, aN]) only [aW, aX, aV, aB, aN, aL, aP, aH, aF, Int.natCast_add, Int.natCast_mul, Int.add_sub_cancel, List.length_nil, Int.cast_ofNat_Int, and_true, true_and, om1, ost, ii_nil]) (by simp (disch := first | omega | simp (disch := omega) only [aF, aL, aN]) only [aW, aX, aV, aB, aN, aL, aP, aH, aF, Int.natCast_add, Int.natCast_mul, Int.add_sub_cancel, List.length_nil, Int.cast_ofNat_Int, and_true, true_and])
    clear hq
    rintro ⟨k, vo, g⟩ ⟨hk, hol, hq⟩
    simp only at hk hol hq
    have hc0 := hq.c0
    have hc1 := hq.c1
    have hnc := hq.nc
    by_cases hq0 : g.nq = 0
    · have hqs : QS (om1 w n l (tabI 64 fun v => (cnt l (ost n l k).1 v : Int)) x0 g.qv g.nq g.ys g.c [⟨vo, ints (ost n l k).2⟩]) 2 4 g.qv fN g.ys g.nq g.c := om1_qs hq.le (by omega)
      have hneg : nextO n l (ost n l k).1 < 0 := next_none fun v hv => by
        rw [← Bool.not_eq_true, avail_iff]
        intro hc
        have := (hq.qi.mem v).2 ⟨by omega, by simpa using hc.1, by simpa using hc.2⟩
        rw [hq0] at this; simp at this
      have hend := ost_end n l hk hneg
      simp (disch := ((try simp only [List.length_set, List.length_replicate, List.length_append, List.length_cons, List.length_nil]); omega)) only [aW, aX, aV, aB, aN, aL, aP, aH, om1]
      refine (qpop0_vr (H := om1 w n l (tabI 64 fun v => (cnt l (ost n l k).1 v : Int)) x0 g.qv g.nq g.ys g.c [⟨vo, ints (ost n l k).2⟩]) (f := fN) (v := .sl 4 g.qv 2 0 g.nq) (c := g.c) (by simp (disch := ((try simp only [List.length_set, List.length_replicate, List.length_append, List.length_cons, List.length_nil]); omega)) only [aW, aX, aV, aB, aN, aL, aP, aH]) ?_).mono ?_
      · have := ld_slPt (om1 w n l (tabI 64 fun v => (cnt l (ost n l k).1 v : Int)) x0 g.qv g.nq g.ys g.c [⟨vo, ints (ost n l k).2⟩]) 4 g.qv g.nq g.ys hq.le (by simp (disch := ((try simp only [List.length_set, List.length_replicate, List.length_append, List.length_cons, List.length_nil]); omega)) only [aW, aX, aV, aB, aN, aL, aP, aH])
        rw [hq0] at this ⊢; simpa using this
      rintro r H' ⟨rfl, rfl⟩
      refine aret_of ?_
      by_cases hkn : k < n.toNat
      · simp (disch := ((try simp only [List.length_set, List.length_replicate, List.length_append, List.length_cons, List.length_nil]); omega)) only [aW, aX, aV, aB, aN, aL, aP, aH, r_graph_Order, om1]
        refine post_err ⟨?_, rfl⟩
        unfold orderR; rw [if_neg (by simp [h1]), hend, if_pos (by omega)]; rfl
      · simp (disch := ((try simp only [List.length_set, List.length_replicate, List.length_append, List.length_cons, List.length_nil]); omega)) only [aW, aX, aV, aB, aN, aL, aP, aH, r_graph_Order, om1]
        refine post0 (r := .tup [.fs true (ints (ost n l k).2), .v (.int .i64 0)]) (Fz.tup ⟨fz_vsI _ _ _ _ _ _ (by omega) hol.symm (by simp (disch := ((try simp only [List.length_set, List.length_replicate, List.length_append, List.length_cons, List.length_nil]); omega)) only [aW, aX, aV, aB, aN, aL, aP, aH]), Fz.refl rfl, trivial⟩) ⟨?_, rfl⟩
        unfold orderR; rw [if_neg (by simp [h1]), hend, if_neg (by omega)]
    · have hql : 0 < (g.ys.take g.nq).length := by rw [lenT hq.le]; omega
      obtain ⟨hx, hneg⟩ := hq.qi.first hql
      obtain ⟨n1, n2, n3, n4⟩ := next_in hneg
      have hy0 : (g.ys.take g.nq).getD 0 ipd = g.ys.getD 0 ipd := by
        have : 0 < g.nq := by omega
        simp [List.getD_eq_getElem?_getD, List.getElem?_take, this]
      have hkn : k < n.toNat := ost_lt n l k hol hneg
      have hD := ((avail_iff _ _ _).1 n3).1
      have hself := cnt_zero.1 ((avail_iff _ _ _).1 n3).2
      have hclo := ost_clo n l c4 k
      simp (disch := ((try simp only [List.length_set, List.length_replicate, List.length_append, List.length_cons, List.length_nil]); omega)) only [aW, aX, aV, aB, aN, aL, aP, aH, om1]
      refine (qpop_vr (H := om1 w n l (tabI 64 fun v => (cnt l (ost n l k).1 v : Int)) x0 g.qv g.nq g.ys g.c [⟨vo, ints (ost n l k).2⟩]) order1_lt (om1_qs hq.le (by omega)) (by omega) hq.qi.heap).mono ?_
      rintro r H' ⟨rfl, zs, z1, z2, z3, rfl⟩
      refine aret_of ?_
      have hx' : (g.ys.getD 0 ipd).1 = nextO n l (ost n l k).1 := by rw [← hy0]; exact hx
      rw [hx']
      have hpop := hq.qi.pop hql (by rw [hy0]; exact z2) z3
      rw [hy0, hx'] at hpop
      have hst : ost n l (k + 1) = (fun j => (ost n l k).1 j || j == (nextO n l (ost n l k).1).toNat, (ost n l k).2 ++ [nextO n l (ost n l k).1]) := by simp only [ost]; rw [if_neg hneg]
      have hO := tabI_len 64 fun v => (cnt l (ost n l k).1 v : Int)
      generalize hX : nextO n l (ost n l k).1 = x at *
      have hle := hq.le
      have hl512 : l.length ≤ 512 := c3
      have hn64 : n ≤ 64 := c2
      simp (disch := ((try simp only [List.length_set, List.length_replicate, List.length_append, List.length_cons, List.length_nil]); omega)) only [aW, aX, aV, aB, aN, aL, aP, aH, om1]
      refine AWP.loopM (α := Nat × OG) g_graph_Order_3 (fun p => p.1 ≤ l.length ∧ OI n (fun j => (ost n l k).1 j || j == x.toNat) (mix l (ost n l k).1 (fun j => (ost n l k).1 j || j == x.toNat) p.1) p.2 (64 + 512 * k + p.1))
        (fun p => [(19, .v (.int .i64 p.1))]) (fun p => om1 w n l (tabI 64 fun v => (mix l (ost n l k).1 (fun j => (ost n l k).1 j || j == x.toNat) p.1 v : Int)) x0 p.2.qv p.2.nq p.2.ys p.2.c [⟨vo + 1, ints ((ost n l k).2 ++ [x])⟩, ⟨0, [.v (.int .i64 x)]⟩]) (fun p => l.length - p.1) (0, ⟨zs, g.nq - 1, g.qv, g.c⟩) ⟨by simp, ?_⟩ ?_ ?_
      · refine ⟨by simp only; omega, hpop.same fun v => by simp only [mix_zero], hq.c0, by simp only; omega, by simp only; omega⟩
      · simp only [mix_zero]
        try simp (disch := ((try simp only [List.length_set, List.length_replicate, List.length_append, List.length_cons, List.length_nil]); omega)) only [aW, aX, aV, aB, aN, aL, aP, aH]
        exact Cut.of' 7 rfl (by omega) (by simp (disch := first | omega | simp (disch := omega) only [aF, aL, aN]) only [aW, aX, aV, aB, aN, aL, aP, aH, aF, Int.natCast_add, Int.natCast_mul, Int.add_sub_cancel, List.length_nil, Int.cast_ofNat_Int, and_true, true_and, om1]) (by simp (disch := first | omega | simp (disch := omega) only [aF, aL, aN]) only [aW, aX, aV, aB, aN, aL, aP, aH, aF, Int.natCast_add, Int.natCast_mul, Int.add_sub_cancel, List.length_nil, Int.cast_ofNat_Int, and_true, true_and])
      clear hpop z1 z2 z3 zs
      rintro ⟨i, g'⟩ ⟨hi, hI⟩
      simp only at hi hI
      have hc0' := hI.c0
      have hc1' := hI.c1
      have hnc' := hI.nc
      by_cases hlt : i < l.length
      · have hmem : l.getD i (0, 0) ∈ l := by simp [List.getD_eq_getElem?_getD, hlt]
        obtain ⟨⟨r1, r2⟩, r3, r4⟩ := c4 _ hmem
        have hOl := tabI_len 64 fun v => (mix l (ost n l k).1 (fun j => (ost n l k).1 j || j == x.toNat) i v : Int)
        have hOg := tabI_get 64 (fun v => (mix l (ost n l k).1 (fun j => (ost n l k).1 j || j == x.toNat) i v : Int)) (l.getD i (0, 0)).2.toNat (by omega)
        have hml := mix_le l (ost n l k).1 (fun j => (ost n l k).1 j || j == x.toNat) i (l.getD i (0, 0)).2.toNat
        by_cases hax : (l.getD i (0, 0)).1 = x
        · have hhit := fun v => mix_hit (v := v) hlt (show (l.getD i (0, 0)).1.toNat = x.toNat by rw [hax]) hD
          have hh1 := hhit (l.getD i (0, 0)).2.toNat
          rw [if_pos (by omega)] at hh1
          have e1 : (tabI 64 fun v => (mix l (ost n l k).1 (fun j => (ost n l k).1 j || j == x.toNat) i v : Int)).set (l.getD i (0, 0)).2.toNat ((mix l (ost n l k).1 (fun j => (ost n l k).1 j || j == x.toNat) i (l.getD i (0, 0)).2.toNat : Int) - 1) = tabI 64 fun v => (mix l (ost n l k).1 (fun j => (ost n l k).1 j || j == x.toNat) (i + 1) v : Int) := by
            rw [tabI_set _ _ _ _ (by omega)]
            refine tabI_ext fun v _ => ?_
            have hv := hhit v
            by_cases hva : v = (l.getD i (0, 0)).2.toNat
            · subst hva; rw [if_pos rfl]; omega
            · rw [if_neg (by omega)] at hv; rw [if_neg hva]; omega
          have hOg' := tabI_get 64 (fun v => (mix l (ost n l k).1 (fun j => (ost n l k).1 j || j == x.toNat) (i + 1) v : Int)) (l.getD i (0, 0)).2.toNat (by omega)
          have hOl' := tabI_len 64 fun v => (mix l (ost n l k).1 (fun j => (ost n l k).1 j || j == x.toNat) (i + 1) v : Int)
          have hml' := mix_le l (ost n l k).1 (fun j => (ost n l k).1 j || j == x.toNat) (i + 1) (l.getD i (0, 0)).2.toNat
          have hrest : ∀ v, v ≠ (l.getD i (0, 0)).2.toNat → mix l (ost n l k).1 (fun j => (ost n l k).1 j || j == x.toNat) (i + 1) v = mix l (ost n l k).1 (fun j => (ost n l k).1 j || j == x.toNat) i v := fun v hv => by
            have := hhit v; rw [if_neg (by omega)] at this; omega
          have hfree : (ost n l k).1 (l.getD i (0, 0)).2.toNat = false ∧ (l.getD i (0, 0)).2.toNat ≠ x.toNat := by
            constructor
            · rw [← Bool.not_eq_true]; intro hc
              have := hclo _ hmem hc
              rw [hax, hD] at this; cases this
            · intro hc
              have := hself _ hmem (by omega)
              rw [hax, hD] at this; cases this
          simp (disch := ((try simp only [List.length_set, List.length_replicate, List.length_append, List.length_cons, List.length_nil]); omega)) only [aW, aX, aV, aB, aN, aL, aP, aH, om1, hOg, hax, e1]
          by_cases hz : mix l (ost n l k).1 (fun j => (ost n l k).1 j || j == x.toNat) (i + 1) (l.getD i (0, 0)).2.toNat = 0
          · simp (disch := ((try simp only [List.length_set, List.length_replicate, List.length_append, List.length_cons, List.length_nil]); omega)) only [aW, aX, aV, aB, aN, aL, aP, aH, hOg', hz]
            refine (qpush_vr order1_lt (H := om1 w n l (tabI 64 fun v => (mix l (ost n l k).1 (fun j => (ost n l k).1 j || j == x.toNat) (i + 1) v : Int)) x0 g'.qv g'.nq g'.ys g'.c [⟨vo + 1, ints ((ost n l k).2 ++ [x])⟩, ⟨0, [.v (.int .i64 x)]⟩, ⟨0, [.v (.int .i64 x), .v (.int .i64 (l.getD i (0, 0)).2)]⟩]) (om1_qs hI.le (by omega)) hI.qi.heap (l.getD i (0, 0)).2 hc0' (by omega) (by omega)).mono ?_
            rintro r H' ⟨zs, z1, z2, z3, rfl⟩
            refine aret_of ?_
            simp (disch := ((try simp only [List.length_set, List.length_replicate, List.length_append, List.length_cons, List.length_nil]); omega)) only [aW, aX, aV, aB, aN, aL, aP, aH, om1]
            refine ⟨(i + 1, ⟨zs, g'.nq + 1, g'.qv + 1, g'.c + 1⟩), ⟨by simp only; omega, ⟨by simp only; omega, ?_, by simp only; omega, by simp only; omega, by simp only; omega⟩⟩, by simp only; omega, ?_⟩
            · have hzt : zs.take (g'.nq + 1) = zs := List.take_of_length_le (by omega)
              simp only [hzt]
              refine hI.qi.push z2 z3 ⟨⟨r3, r4⟩, ?_, hz⟩ (by omega) hrest
              simp only [hfree.1, Bool.false_or, beq_eq_false_iff_ne, ne_eq]
              exact hfree.2
            · exact Cut.of' 7 rfl (by omega) (by simp (disch := first | omega | simp (disch := omega) only [aF, aL, aN]) only [aW, aX, aV, aB, aN, aL, aP, aH, aF, Int.natCast_add, Int.natCast_mul, Int.add_sub_cancel, List.length_nil, Int.cast_ofNat_Int, and_true, true_and, om1]) (by simp (disch := first | omega | simp (disch := omega) only [aF, aL, aN]) only [aW, aX, aV, aB, aN, aL, aP, aH, aF, Int.natCast_add, Int.natCast_mul, Int.add_sub_cancel, List.length_nil, Int.cast_ofNat_Int, and_true, true_and])
          · simp (disch := ((try simp only [List.length_set, List.length_replicate, List.length_append, List.length_cons, List.length_nil]); omega)) only [aW, aX, aV, aB, aN, aL, aP, aH, hOg', hz]
            refine ⟨(i + 1, g'), ⟨by simp only; omega, ⟨hI.le, hI.qi.same fun v => ?_, hI.c0, by simp only; omega, hI.nc⟩⟩, by simp only; omega, ?_⟩
            · by_cases hv : v = (l.getD i (0, 0)).2.toNat
              · rw [hv]; exact ⟨fun h => absurd h hz, fun h => by omega⟩
              · rw [hrest v hv]
            · exact Cut.of' 7 rfl (by omega) (by simp (disch := first | omega | simp (disch := omega) only [aF, aL, aN]) only [aW, aX, aV, aB, aN, aL, aP, aH, aF, Int.natCast_add, Int.natCast_mul, Int.add_sub_cancel, List.length_nil, Int.cast_ofNat_Int, and_true, true_and, om1]) (by simp (disch := first | omega | simp (disch := omega) only [aF, aL, aN]) only [aW, aX, aV, aB, aN, aL, aP, aH, aF, Int.natCast_add, Int.natCast_mul, Int.add_sub_cancel, List.length_nil, Int.cast_ofNat_Int, and_true, true_and])
        · have hmiss := fun v => mix_miss (v := v) (D := (ost n l k).1) hlt (show (l.getD i (0, 0)).1.toNat ≠ x.toNat by omega)
          simp (disch := ((try simp only [List.length_set, List.length_replicate, List.length_append, List.length_cons, List.length_nil]); omega)) only [aW, aX, aV, aB, aN, aL, aP, aH, om1]
          refine ⟨(i + 1, g'), ⟨by simp only; omega, ⟨hI.le, hI.qi.same fun v => by rw [hmiss], hI.c0, by simp only; omega, hI.nc⟩⟩, by simp only; omega, ?_⟩
          simp only [hmiss]
          exact Cut.of' 7 rfl (by omega) (by simp (disch := first | omega | simp (disch := omega) only [aF, aL, aN]) only [aW, aX, aV, aB, aN, aL, aP, aH, aF, Int.natCast_add, Int.natCast_mul, Int.add_sub_cancel, List.length_nil, Int.cast_ofNat_Int, and_true, true_and, om1]) (by simp (disch := first | omega | simp (disch := omega) only [aF, aL, aN]) only [aW, aX, aV, aB, aN, aL, aP, aH, aF, Int.natCast_add, Int.natCast_mul, Int.add_sub_cancel, List.length_nil, Int.cast_ofNat_Int, and_true, true_and])
      · have hil : i = l.length := by omega
        subst hil
        simp (disch := ((try simp only [List.length_set, List.length_replicate, List.length_append, List.length_cons, List.length_nil]); omega)) only [aW, aX, aV, aB, aN, aL, aP, aH, om1]
        refine ⟨(k + 1, vo + 1, g'), ⟨by simp only; omega, by simp only [hst]; simp [hol], ?_⟩, by simp only; omega, ?_⟩
        · simp only [hst]
          exact ⟨hI.le, hI.qi.same fun v => by rw [mix_all], hI.c0, by omega, hI.nc⟩
        · simp only [hst, mix_all]
          exact Cut.of' 6 rfl (by omega) (by simp (disch := first | omega | simp (disch := omega) only [aF, aL, aN]) only [aW, aX, aV, aB, aN, aL, aP, aH, aF, Int.natCast_add, Int.natCast_mul, Int.add_sub_cancel, List.length_nil, Int.cast_ofNat_Int, and_true, true_and, om1]) (by simp (disch := first | omega | simp (disch := omega) only [aF, aL, aN]) only [aW, aX, aV, aB, aN, aL, aP, aH, aF, Int.natCast_add, Int.natCast_mul, Int.add_sub_cancel, List.length_nil, Int.cast_ofNat_Int, and_true, true_and])
end Go.Proofs.Ytjhdedifmhkhbaa
namespace Go.Proofs.Ytjhdedifmhkhbaa
open Go Go.Lft
set_option linter.unusedSimpArgs false
set_option linter.unusedVariables false

theorem low_eq {p : Nat → Bool} {b m k : Nat} : low p b m = (k : Int) ↔ b ≤ k ∧ k < b + m ∧ p k = true ∧ ∀ i, b ≤ i → i < k → p i = false := by
  rcases low_cases p m b with ⟨h1, h2⟩ | ⟨i, h1, h2, h3, h4, h5⟩
  · rw [h1]
    constructor
    · intro h; omega
    · rintro ⟨g1, g2, g3, _⟩
      rw [h2 k g1 g2] at g3; cases g3
  · rw [h1]
    constructor
    · intro h
      have : i = k := by omega
      subst this; exact ⟨h2, h3, h4, h5⟩
    · rintro ⟨g1, g2, g3, g4⟩
      have : i = k := by
        rcases Nat.lt_trichotomy i k with h | h | h
        · rw [g4 i h2 h] at h4; cases h4
        · exact h
        · rw [h5 k g1 h] at g3; cases g3
      rw [this]
theorem low_neg {p : Nat → Bool} {b m : Nat} : low p b m < 0 ↔ ∀ i, b ≤ i → i < b + m → p i = false := by
  rcases low_cases p m b with ⟨h1, h2⟩ | ⟨i, h1, h2, h3, h4, h5⟩
  · rw [h1]; exact ⟨fun _ => h2, fun _ => by omega⟩
  · rw [h1]
    exact ⟨fun h => by omega, fun h => by rw [h i h2 h3] at h4; cases h4⟩
theorem low_nat {p : Nat → Bool} {b m : Nat} (h : ¬ low p b m < 0) : ∃ k : Nat, low p b m = k := by
  rcases low_cases p m b with ⟨h1, h2⟩ | ⟨i, h1, _⟩
  · omega
  · exact ⟨i, h1⟩
/-- A way of so many arcs to t; one over nodes from s on, to s. -/
def wk (l : Arcs) (t : Int) : Nat → Int → Bool
  | 0, v => v == t
  | d + 1, v => l.any fun a => a.1 == v && wk l t d a.2
theorem wk_succ {l : Arcs} {t v : Int} {d : Nat} : wk l t (d + 1) v = true ↔ ∃ a ∈ l, a.1 = v ∧ wk l t d a.2 = true := by
  simp only [wk, List.any_eq_true, Bool.and_eq_true, beq_iff_eq]
theorem wk_app {l : Arcs} {t u : Int} : ∀ {j k : Nat} {v : Int}, wk l t j v = true → wk l u k t = true → wk l u (j + k) v = true
  | 0, k, v, h1, h2 => by
    have : v = t := by simpa [wk] using h1
    rw [this, Nat.zero_add]; exact h2
  | j + 1, k, v, h1, h2 => by
    obtain ⟨a, h3, h4, h5⟩ := wk_succ.1 h1
    rw [show j + 1 + k = (j + k) + 1 by omega]
    exact wk_succ.2 ⟨a, h3, h4, wk_app h5 h2⟩
/-- The distances of the reference, after k rounds. -/
def rT (l : Arcs) (t : Int) (k : Nat) (v : Int) : Int := low (fun d => wk l t d v) 1 k
end Go.Proofs.Ytjhdedifmhkhbaa
namespace Go.Proofs.Ytjhdedifmhkhbaa
open Go Go.Lft
set_option linter.unusedSimpArgs false
set_option linter.unusedVariables false

/-- The length of the shortest closed way from v, at most n. -/
def cN (n : Int) (l : Arcs) (v : Int) : Int := rT l v n.toNat v
def cf (n : Int) (l : Arcs) : Nat → Int × Int
  | 0 => (-1, 0)
  | v + 1 => if 0 < cN n l v ∧ ((cf n l v).1 < 0 ∨ cN n l v < (cf n l v).2) then ((v : Int), cN n l v) else cf n l v
theorem cN_pos {n : Int} {l : Arcs} {v : Int} : 0 < cN n l v ∨ cN n l v < 0 := by
  unfold cN rT
  rcases low_cases (fun d => wk l v d v) n.toNat 1 with ⟨h1, _⟩ | ⟨i, h1, h2, h3, _⟩ <;> omega
structure Fst (n : Int) (l : Arcs) (k f m : Nat) : Prop where
  fk : f < k
  eq : cN n l f = m
  m1 : 1 ≤ m
  least : ∀ v : Nat, v < k → cN n l v < 0 ∨ (m : Int) ≤ cN n l v
  first : ∀ v : Nat, v < f → cN n l v < 0 ∨ (m : Int) < cN n l v
theorem cf_spec (n : Int) (l : Arcs) : ∀ k, (cf n l k = (-1, 0) ∧ ∀ v : Nat, v < k → cN n l v < 0) ∨ ∃ f m : Nat, cf n l k = ((f : Int), (m : Int)) ∧ Fst n l k f m
  | 0 => .inl ⟨rfl, fun v hv => by omega⟩
  | k + 1 => by
    have hp := @cN_pos n l k
    rcases cf_spec n l k with ⟨h1, h2⟩ | ⟨f, m, h1, h2⟩
    · by_cases hc : 0 < cN n l k
      · right
        refine ⟨k, (cN n l k).toNat, ?_, by omega, by omega, by omega, fun v hv => ?_, fun v hv => .inl (h2 v hv)⟩
        · unfold cf; rw [h1, if_pos ⟨hc, .inl (by decide)⟩]; congr 1; omega
        · by_cases hvk : v = k
          · subst hvk; right; omega
          · exact .inl (h2 v (by omega))
      · left
        refine ⟨by unfold cf; rw [if_neg (fun h => hc h.1)]; exact h1, fun v hv => ?_⟩
        by_cases hvk : v = k
        · subst hvk; omega
        · exact h2 v (by omega)
    · right
      by_cases hc : 0 < cN n l k ∧ cN n l k < m
      · refine ⟨k, (cN n l k).toNat, ?_, by omega, by omega, by omega, fun v hv => ?_, fun v hv => ?_⟩
        · unfold cf; rw [h1, if_pos ⟨hc.1, .inr hc.2⟩]; congr 1; omega
        · by_cases hvk : v = k
          · subst hvk; right; omega
          · rcases h2.least v (by omega) with h | h
            · exact .inl h
            · right; omega
        · rcases h2.least v hv with h | h
          · exact .inl h
          · right; omega
      · refine ⟨f, m, ?_, by have := h2.fk; omega, h2.eq, h2.m1, fun v hv => ?_, h2.first⟩
        · unfold cf; rw [h1, if_neg]
          rintro ⟨g1, g2⟩
          exact hc ⟨g1, by omega⟩
        · by_cases hvk : v = k
          · subst hvk; omega
          · exact h2.least v (by omega)
theorem cN_of {n : Int} {l : Arcs} {v : Int} {m : Nat} (h : wk l v m v = true) (h1 : 1 ≤ m) (h2 : m ≤ n.toNat) : 0 < cN n l v ∧ cN n l v ≤ m := by
  have hp := @cN_pos n l v
  have hn : ¬ cN n l v < 0 := fun hc => by
    have := low_neg.1 hc m h1 (by omega)
    rw [h] at this; cases this
  refine ⟨by omega, ?_⟩
  obtain ⟨k, hk⟩ := low_nat (p := fun d => wk l v d v) hn
  have hk' := low_eq.1 hk
  have : cN n l v = k := hk
  rw [this]
  apply Int.not_lt.1; intro hlt
  have := hk'.2.2.2 m h1 (by omega)
  rw [h] at this; cases this
theorem cN_eq {n : Int} {l : Arcs} {v : Int} {m : Nat} (h : cN n l v = m) : 1 ≤ m ∧ m ≤ n.toNat ∧ wk l v m v = true ∧ ∀ i, 1 ≤ i → i < m → wk l v i v = false := by
  obtain ⟨h1, h2, h3, h4⟩ := low_eq.1 h
  exact ⟨h1, by omega, h3, h4⟩

end Go.Proofs.Ytjhdedifmhkhbaa
namespace Go.Proofs.Ytjhdedifmhkhbaa
open Go Go.Lft
set_option linter.unusedSimpArgs false
set_option linter.unusedVariables false
attribute [local congr] ob_congr bw_congr ib_congr ck_congr iwA_congr itA_congr aw_congr awp_congr sqA_congr bkA_congr vr_congr gd_congr

end Go.Proofs.Ytjhdedifmhkhbaa
namespace Go.Proofs.Ytjhdedifmhkhbaa
open Go Go.Lft
set_option linter.unusedSimpArgs false
set_option linter.unusedVariables false
attribute [local congr] ob_congr bw_congr ib_congr ck_congr iwA_congr itA_congr aw_congr awp_congr sqA_congr bkA_congr vr_congr gd_congr

theorem ii_one (x : Int) : ints [x] = [.v (.int .i64 x)] := rfl

end Go.Proofs.Ytjhdedifmhkhbaa
namespace Go.Proofs.Ytjhdedifmhkhbaa
open Go Go.Lft
set_option linter.unusedSimpArgs false
set_option linter.unusedVariables false
attribute [local congr] ob_congr bw_congr ib_congr ck_congr iwA_congr itA_congr aw_congr awp_congr sqA_congr bkA_congr vr_congr gd_congr

def idxL (xs : List Int) (x : Int) : Int := low (fun i => xs.getD i 0 == x) 0 xs.length
theorem idxL_iff (xs : List Int) (x : Int) : 0 ≤ idxL xs x ↔ x ∈ xs := by
  constructor
  · intro h
    obtain ⟨k, hk⟩ := low_nat (p := fun i => xs.getD i 0 == x) (b := 0) (m := xs.length) (by unfold idxL at h; omega)
    obtain ⟨_, h2, h3, _⟩ := low_eq.1 hk
    have hk' : k < xs.length := by omega
    rw [beq_iff_eq] at h3
    rw [← h3]; simp [List.getD_eq_getElem?_getD, hk']
  · intro h
    obtain ⟨k, hk, rfl⟩ := List.mem_iff_getElem.1 h
    apply Int.not_lt.1; intro hc
    have := low_neg.1 hc k (by omega) (by omega)
    simp [List.getD_eq_getElem?_getD, hk] at this
end Go.Proofs.Ytjhdedifmhkhbaa
