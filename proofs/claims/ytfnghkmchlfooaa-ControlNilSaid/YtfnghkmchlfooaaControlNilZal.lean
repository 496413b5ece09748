/- Lemmas and walks that the proof of ControlNil uses. No statement is claimed here. -/
import Derived.Test.YtfnghkmchlfooaaControlNilZak
import Derived.WideShapes
import Derived.ChangeShapes
namespace Go.Lft
open Go Go.WideShapes
set_option linter.unusedVariables false
set_option linter.unusedSimpArgs false

theorem arg_open {Hh : Type} {enc : TypeId × Value → Hh} {P : Program} {w : World} {base b0 : Nat} {spare : Nat → Bool} {held : Bool} {r : Reach} (u : Bool) (ty : Ty) {t : TypeId} {v : Value} {d : DataW Hh} {ps : List MemPlace}
    (hi : ty.Is P t) (hok : Value.okWide P w r b0 t v) (h : DataW.Trod enc P w base spare held t v d ps) : ∃ es, ty.Sh u es ∧ Rel (fun _ => hp w) (fun _ _ => none) (ty.pk es) v := by
  obtain ⟨fuel, hf⟩ := h
  obtain ⟨es, h1, h2⟩ := Ty.open u ty hi hf
  refine ⟨es, h2, ?_⟩
  have single : v.cells.toList = [v] → (∃ a, es = [a]) → (∀ a, es = [a] → ty.pk es = a) → Rel (fun _ => hp w) (fun _ _ => none) (ty.pk es) v := fun hv ⟨a, ha⟩ hp => by
    rw [hp a ha]
    rw [hv, ha] at h1
    exact h1.2 0 a v rfl rfl
  cases ty with
  | int k =>
    simp only [Ty.Is] at hi
    obtain ⟨n, rfl⟩ := okWide_int hi hok
    simp only [Ty.Sh] at h2
    obtain ⟨m, rfl, _⟩ := h2
    exact single rfl ⟨_, rfl⟩ fun a ha => by cases ha; rfl
  | bool =>
    simp only [Ty.Is] at hi
    obtain ⟨n, rfl⟩ := okWide_bool hi hok
    simp only [Ty.Sh] at h2
    obtain ⟨m, rfl⟩ := h2
    exact single rfl ⟨_, rfl⟩ fun a ha => by cases ha; rfl
  | str =>
    simp only [Ty.Is] at hi
    obtain ⟨n, rfl⟩ := okWide_string hi hok
    simp only [Ty.Sh] at h2
    obtain ⟨m, rfl, _⟩ := h2
    exact single rfl ⟨_, rfl⟩ fun a ha => by cases ha; rfl
  | sl e =>
    simp only [Ty.Is] at hi
    obtain ⟨x, hx, _⟩ := hi
    obtain ⟨a, len, cap, rfl⟩ := okWide_slice hx hok
    simp only [Ty.Sh] at h2
    obtain ⟨m, rfl, _⟩ := h2
    exact single rfl ⟨_, rfl⟩ fun a ha => by cases ha; rfl
  | ar k e =>
    simp only [Ty.Is] at hi
    obtain ⟨x, hx, _⟩ := hi
    have hok' : ∃ cs : Array Value, v = .agg cs := by
      simp only [Value.okWide, hx] at hok
      obtain ⟨cs, h1, _⟩ := hok
      exact ⟨cs, h1⟩
    obtain ⟨cs, rfl⟩ := hok'
    have h1' : RL (fun _ => hp w) (fun _ _ => none) es cs.toList := h1
    have := Rel.agg (g := fun _ => hp w) (σ := fun _ _ => none) es cs.toList h1'.1 h1'.2
    simpa [Ty.pk] using this
  | st l =>
    simp only [Ty.Is] at hi
    obtain ⟨fs, hx, _⟩ := hi
    obtain ⟨cs, rfl, _⟩ := okWide_struct hx hok
    have h1' : RL (fun _ => hp w) (fun _ _ => none) es cs.toList := h1
    have := Rel.agg (g := fun _ => hp w) (σ := fun _ _ => none) es cs.toList h1'.1 h1'.2
    simpa [Ty.pk] using this

/-- A law's call, from the contract of its function. -/
theorem law_calls {P : Program} {f : Nat} {args : List A} {vs : List Value} {w : World} (hv : VR P false f args [] (isR (.v (.bool true)))) (hr : RL (fun _ => hp w) (fun _ _ => none) args vs) :
    Calls P f vs.toArray w fun e w' => e = .returned (.bool true) ∧ Go.RowKit.Below w.heap.size w w' :=
  law_of (VR.law (hv.mono fun r G h => h.1) hr)
end Go.Lft
namespace Go.Lft
open Go
set_option linter.unusedVariables false
set_option linter.unusedSimpArgs false

theorem AWP.mono {P : Program} {n0 : Nat} {s : S} {Q Q' : QA} {e : List A} {H : List Blk} (hq : ∀ x e H, Q x e H → Q' x e H) (h : AWP P n0 s Q e H) : AWP P n0 s Q' e H :=
  fun c ev h1 h2 h3 h4 => S.wp_mono s (fun x e' h' ⟨e2, d, k1, k2, k3⟩ => ⟨e2, d, k1, hq _ _ _ k2, k3⟩) (h c ev h1 h2 h3 h4)

/-- A contract of which less is told. -/
theorem VR.cut {P : Program} {kp : Bool} {f : Nat} {args : List A} {H : List Blk} {R R' : A → List Blk → Prop} (h : VR P kp f args H R) (hc : ∀ r G, R r G → ∃ r' G', Cut H.length [r] G [r'] G' ∧ R' r' G') : VR P kp f args H R' := fun c vs hH hs hr =>
  (h c vs hH hs hr).mono fun v h' ⟨hk, r, d, e1, e2, e3, e4, e5⟩ => by
    obtain ⟨r', G', hcut, hR⟩ := hc r d.H e2
    obtain ⟨d', q1, q2, q3, q4, q5⟩ := hcut d [v] rfl (e3.len (by rw [hH]; exact Nat.le_refl _)) e4 (RL.cons e5 RL.nil)
    obtain ⟨x, xs, e6, e7, _⟩ := q5.uncons
    injection e6 with e6 _
    exact ⟨hk, r', d', q2.trans e1, q1 ▸ hR, e3.trans q3, q4, e6 ▸ e7⟩
/-! ### Freezing and lending all that a value names, told by what comes out -/
theorem FzL.cat {m : Nat} {H : List Blk} : ∀ {l r l' r' : List A}, FzL m H l l' → FzL m H r r' → FzL m H (l ++ r) (l' ++ r')
  | [], r, [], r', _, h => h
  | a :: l, r, b :: l', r', h, k => ⟨h.1, FzL.cat h.2 k⟩
  | [], _, _ :: _, _, h, _ => h.elim
  | _ :: _, _, [], _, h, _ => h.elim
theorem FzL.anys {m : Nat} {H : List Blk} : ∀ (l : List A), FzL m H l (List.replicate l.length .any)
  | [] => trivial
  | a :: l => ⟨Fz.any, FzL.anys l⟩
theorem LdL.cat {H : List Blk} : ∀ {l r l' r' : List A}, LdL H l l' → LdL H r r' → LdL H (l ++ r) (l' ++ r')
  | [], r, [], r', _, h => h
  | a :: l, r, b :: l', r', h, k => ⟨h.1, LdL.cat h.2 k⟩
  | [], _, _ :: _, _, h, _ => h.elim
  | _ :: _, _, [], _, h, _ => h.elim
theorem LdL.anys {H : List Blk} : ∀ (l : List A), LdL H l (List.replicate l.length .any)
  | [] => trivial
  | a :: l => ⟨Ld.any, LdL.anys l⟩
theorem part_eq {l : List A} {o m : Nat} (h : o + m ≤ l.length) : l.take o ++ ((l.drop o).take m ++ l.drop (o + m)) = l := by
  rw [← List.drop_drop, List.take_append_drop, List.take_append_drop]
theorem part_get {l : List A} {o m : Nat} (h : o + m ≤ l.length) {c : List A} (hc : c.length = m) : ((List.replicate (l.take o).length A.any ++ (c ++ List.replicate (l.drop (o + m)).length A.any)).drop o).take m = c := by
  have h1 : (l.take o).length = o := by simp; omega
  rw [h1, List.drop_append_of_le_length (by simp), List.drop_of_length_le (by simp), List.nil_append, List.take_append_of_le_length (by omega), List.take_of_length_le (by omega)]

def frzL (F : A → A → Prop) : List A → List A → Prop
  | [], [] => True
  | a :: l, b :: r => F a b ∧ frzL F l r
  | _, _ => False
def frzP (H : List Blk) : Nat → A → A → Prop
  | 0, _, _ => False
  | d + 1, a, b => match a, b with
    | _, .any => True
    | .v (.slice none 0 0), .fs true [] => True
    | .v x, .v y => x = y
    | .agg l, .agg r => frzL (frzP H d) l r
    | .tup l, .tup r => frzL (frzP H d) l r
    | .fn f l, .fn g r => f = g ∧ frzL (frzP H d) l r
    | .fs w l, .fs w' l' => A.bdL 0 l = true ∧ w = w' ∧ l = l'
    | .fp w l, .fp w' l' => A.bdL 0 l = true ∧ w = w' ∧ l = l'
    | .sl i ver k o n, .fs true els => ∃ l, blkAt H i ver = some l ∧ ∃ c, flatA k els = some c ∧ els.length = n ∧ o + n * k ≤ l.length ∧ frzL (frzP H d) ((l.drop o).take (n * k)) c
    | .vs i ver k n, .fs true els => ∃ l, blkAt H i ver = some l ∧ ∃ c, flatA k els = some c ∧ els.length = n ∧ n * k ≤ l.length ∧ frzL (frzP H d) (l.take (n * k)) c
    | .lp i ver o, .fp true c => ∃ l, blkAt H i ver = some l ∧ o ≤ l.length ∧ frzL (frzP H d) (l.drop o) c
    | _, _ => False
theorem frzL_len {F : A → A → Prop} : ∀ {l r : List A}, frzL F l r → l.length = r.length
  | [], [], _ => rfl
  | a :: l, b :: r, h => by simp [frzL_len h.2]
  | [], _ :: _, h => h.elim
  | _ :: _, [], h => h.elim
theorem frzL_sound {H : List Blk} {F : A → A → Prop} (hF : ∀ a b, F a b → Fz 0 H a b) : ∀ {l r : List A}, frzL F l r → FzL 0 H l r
  | [], [], _ => trivial
  | a :: l, b :: r, h => ⟨hF a b h.1, frzL_sound hF h.2⟩
  | [], _ :: _, h => h.elim
  | _ :: _, [], h => h.elim
theorem frzP_sound {H : List Blk} : ∀ (d : Nat) (a b : A), frzP H d a b → Fz 0 H a b
  | 0, a, b, h => h.elim
  | d + 1, a, b, h => by
    have ih := fun {l r : List A} (h : frzL (frzP H d) l r) => frzL_sound (frzP_sound d) h
    unfold frzP at h
    split at h
    · exact Fz.any
    · exact fz_nil _ _
    · subst h; exact Fz.refl rfl
    · exact Fz.agg (ih h)
    · exact Fz.tup (ih h)
    · obtain ⟨rfl, h⟩ := h; exact Fz.fn (ih h)
    · obtain ⟨h, rfl, rfl⟩ := h; exact Fz.refl h
    · obtain ⟨h, rfl, rfl⟩ := h; exact Fz.refl h
    · obtain ⟨l, h1, c, h2, h3, h4, h5⟩ := h
      have hc := frzL_len h5
      rw [List.length_take, List.length_drop] at hc
      rename_i i ver k o n els
      have h6 : FzL 0 H l (List.replicate (l.take o).length A.any ++ (c ++ List.replicate (l.drop (o + n * k)).length A.any)) := by
        have := FzL.cat (FzL.anys (m := 0) (H := H) (l.take o)) (FzL.cat (ih h5) (FzL.anys (l.drop (o + n * k))))
        rwa [part_eq h4] at this
      exact Fz.sl (Nat.zero_le _) h1 h6 (by rw [part_get h4 (by omega)]; exact h2) h3 (by have := h6.len; omega)
    · obtain ⟨l, h1, c, h2, h3, h4, h5⟩ := h
      have hc := frzL_len h5
      rw [List.length_take] at hc
      rename_i i ver k n els
      have h6 : FzL 0 H l (c ++ List.replicate (l.drop (n * k)).length A.any) := by
        have := FzL.cat (ih h5) (FzL.anys (l.drop (n * k)))
        rwa [List.take_append_drop] at this
      exact Fz.vs (Nat.zero_le _) h1 h6 (by rw [List.take_append_of_le_length (by omega), List.take_of_length_le (by omega)]; exact h2) h3 (by have := h6.len; omega)
    · obtain ⟨l, h1, h4, h5⟩ := h
      rename_i o c
      have h6 : FzL 0 H l (List.replicate (l.take o).length A.any ++ c) := by
        have := FzL.cat (FzL.anys (m := 0) (H := H) (l.take o)) (ih h5)
        rwa [List.take_append_drop] at this
      have h7 := Fz.lp (m := 0) (o := o) (Nat.zero_le _) h1 h6 (by have := h6.len; omega)
      have e : (List.replicate (l.take o).length A.any ++ c).drop o = c := by
        have : (l.take o).length = o := by simp; omega
        rw [this, List.drop_append_of_le_length (by simp), List.drop_of_length_le (by simp), List.nil_append]
      rw [e] at h7; exact h7
    · exact h.elim
theorem fz_all {H : List Blk} {a b : A} (h : frzP H 9 a b) : Fz 0 H a b := frzP_sound 9 a b h

def lndP (H : List Blk) : Nat → A → A → Prop
  | 0, _, _ => False
  | d + 1, a, b => match a, b with
    | _, .any => True
    | .v (.slice none 0 0), .fs false [] => True
    | .v x, .v y => x = y
    | .agg l, .agg r => frzL (lndP H d) l r
    | .fn f l, .fn g r => f = g ∧ frzL (lndP H d) l r
    | .fs w l, .fs w' l' => A.bdL 0 l = true ∧ (w = w' ∨ w' = false) ∧ l = l'
    | .fp w l, .fp w' l' => A.bdL 0 l = true ∧ (w = w' ∨ w' = false) ∧ l = l'
    | .sl i ver k o n, .fs false els => ∃ l, blkAt H i ver = some l ∧ ∃ c, flatA k els = some c ∧ els.length = n ∧ o + n * k ≤ l.length ∧ frzL (lndP H d) ((l.drop o).take (n * k)) c
    | .vs i ver k n, .fs false els => ∃ l, blkAt H i ver = some l ∧ ∃ c, flatA k els = some c ∧ els.length = n ∧ n * k ≤ l.length ∧ frzL (lndP H d) (l.take (n * k)) c
    | .lp i ver o, .fp false c => ∃ l, blkAt H i ver = some l ∧ o ≤ l.length ∧ frzL (lndP H d) (l.drop o) c
    | _, _ => False
theorem lndL_sound {H : List Blk} {F : A → A → Prop} (hF : ∀ a b, F a b → Ld H a b) : ∀ {l r : List A}, frzL F l r → LdL H l r
  | [], [], _ => trivial
  | a :: l, b :: r, h => ⟨hF a b h.1, lndL_sound hF h.2⟩
  | [], _ :: _, h => h.elim
  | _ :: _, [], h => h.elim
theorem lndP_sound {H : List Blk} : ∀ (d : Nat) (a b : A), lndP H d a b → Ld H a b
  | 0, a, b, h => h.elim
  | d + 1, a, b, h => by
    have ih := fun {l r : List A} (h : frzL (lndP H d) l r) => lndL_sound (lndP_sound d) h
    unfold lndP at h
    split at h
    · exact Ld.any
    · exact ld_nilA _
    · subst h; exact Ld.refl rfl
    · exact Ld.agg (ih h)
    · obtain ⟨rfl, h⟩ := h; exact Ld.fn (ih h)
    · obtain ⟨h, rfl | rfl, rfl⟩ := h
      · exact Ld.refl h
      · exact Ld.fs h
    · obtain ⟨h, rfl | rfl, rfl⟩ := h
      · exact Ld.refl h
      · exact Ld.fp h
    · obtain ⟨l, h1, c, h2, h3, h4, h5⟩ := h
      have hc := frzL_len h5
      rw [List.length_take, List.length_drop] at hc
      rename_i i ver k o n els
      have h6 : LdL H l (List.replicate (l.take o).length A.any ++ (c ++ List.replicate (l.drop (o + n * k)).length A.any)) := by
        have := LdL.cat (LdL.anys (H := H) (l.take o)) (LdL.cat (ih h5) (LdL.anys (l.drop (o + n * k))))
        rwa [part_eq h4] at this
      exact Ld.sl h1 h6 (by rw [part_get h4 (by omega)]; exact h2) h3 (by simp; omega)
    · obtain ⟨l, h1, c, h2, h3, h4, h5⟩ := h
      have hc := frzL_len h5
      rw [List.length_take] at hc
      rename_i i ver k n els
      have h6 : LdL H l (c ++ List.replicate (l.drop (n * k)).length A.any) := by
        have := LdL.cat (ih h5) (LdL.anys (l.drop (n * k)))
        rwa [List.take_append_drop] at this
      exact Ld.vs h1 h6 (by rw [List.take_append_of_le_length (by omega), List.take_of_length_le (by omega)]; exact h2) h3 (by simp; omega)
    · obtain ⟨l, h1, h4, h5⟩ := h
      rename_i o c
      have hc := frzL_len h5
      have h6 : LdL H l (List.replicate (l.take o).length A.any ++ c) := by
        have := LdL.cat (LdL.anys (H := H) (l.take o)) (ih h5)
        rwa [List.take_append_drop] at this
      have h7 := Ld.lp (o := o) h1 h6 (by simp; omega)
      have e : (List.replicate (l.take o).length A.any ++ c).drop o = c := by
        have : (l.take o).length = o := by simp; omega
        rw [this, List.drop_append_of_le_length (by simp), List.drop_of_length_le (by simp), List.nil_append]
      rw [e] at h7; exact h7
    · exact h.elim
theorem ld_all {H : List Blk} {l r : List A} (h : frzL (lndP H 9) l r) : LdL H l r := lndL_sound (lndP_sound 9) h


section
variable (H : List Blk) (d : Nat)
theorem frzL_nil (F : A → A → Prop) : frzL F [] [] = True := rfl
theorem frzL_cons (F : A → A → Prop) (a b : A) (l r : List A) : frzL F (a :: l) (b :: r) = (F a b ∧ frzL F l r) := rfl
theorem fzp_any (a : A) : frzP H (d + 1) a .any = True := by unfold frzP; cases a <;> first | rfl | (rename_i x; cases x <;> rfl)
theorem fzp_nil : frzP H (d + 1) (.v (.slice none 0 0)) (.fs true []) = True := rfl
theorem fzp_v (x y : Value) : frzP H (d + 1) (.v x) (.v y) = (x = y) := by unfold frzP; split <;> simp_all
theorem fzp_agg (l r : List A) : frzP H (d + 1) (.agg l) (.agg r) = frzL (frzP H d) l r := rfl
theorem fzp_tup (l r : List A) : frzP H (d + 1) (.tup l) (.tup r) = frzL (frzP H d) l r := rfl
theorem fzp_fn (f g : Nat) (l r : List A) : frzP H (d + 1) (.fn f l) (.fn g r) = (f = g ∧ frzL (frzP H d) l r) := rfl
theorem fzp_fs (w w' : Bool) (l r : List A) : frzP H (d + 1) (.fs w l) (.fs w' r) = (A.bdL 0 l = true ∧ w = w' ∧ l = r) := by cases w <;> cases w' <;> cases r <;> rfl
theorem fzp_fp (w w' : Bool) (l r : List A) : frzP H (d + 1) (.fp w l) (.fp w' r) = (A.bdL 0 l = true ∧ w = w' ∧ l = r) := by cases w <;> cases w' <;> cases r <;> rfl
theorem fzp_sl (i ver k o n : Nat) (els : List A) : frzP H (d + 1) (.sl i ver k o n) (.fs true els) = ∃ l, blkAt H i ver = some l ∧ ∃ c, flatA k els = some c ∧ els.length = n ∧ o + n * k ≤ l.length ∧ frzL (frzP H d) ((l.drop o).take (n * k)) c := by cases els <;> rfl
theorem fzp_vs (i ver k n : Nat) (els : List A) : frzP H (d + 1) (.vs i ver k n) (.fs true els) = ∃ l, blkAt H i ver = some l ∧ ∃ c, flatA k els = some c ∧ els.length = n ∧ n * k ≤ l.length ∧ frzL (frzP H d) (l.take (n * k)) c := by cases els <;> rfl
theorem fzp_lp (i ver o : Nat) (c : List A) : frzP H (d + 1) (.lp i ver o) (.fp true c) = ∃ l, blkAt H i ver = some l ∧ o ≤ l.length ∧ frzL (frzP H d) (l.drop o) c := by cases c <;> rfl
theorem ldp_any (a : A) : lndP H (d + 1) a .any = True := by unfold lndP; cases a <;> first | rfl | (rename_i x; cases x <;> rfl)
theorem ldp_nil : lndP H (d + 1) (.v (.slice none 0 0)) (.fs false []) = True := rfl
theorem ldp_v (x y : Value) : lndP H (d + 1) (.v x) (.v y) = (x = y) := by unfold lndP; split <;> simp_all
theorem ldp_agg (l r : List A) : lndP H (d + 1) (.agg l) (.agg r) = frzL (lndP H d) l r := rfl
theorem ldp_fn (f g : Nat) (l r : List A) : lndP H (d + 1) (.fn f l) (.fn g r) = (f = g ∧ frzL (lndP H d) l r) := rfl
theorem ldp_fs (w w' : Bool) (l r : List A) : lndP H (d + 1) (.fs w l) (.fs w' r) = (A.bdL 0 l = true ∧ (w = w' ∨ w' = false) ∧ l = r) := by cases w <;> cases w' <;> cases r <;> rfl
theorem ldp_fp (w w' : Bool) (l r : List A) : lndP H (d + 1) (.fp w l) (.fp w' r) = (A.bdL 0 l = true ∧ (w = w' ∨ w' = false) ∧ l = r) := by cases w <;> cases w' <;> cases r <;> rfl
theorem ldp_sl (i ver k o n : Nat) (els : List A) : lndP H (d + 1) (.sl i ver k o n) (.fs false els) = ∃ l, blkAt H i ver = some l ∧ ∃ c, flatA k els = some c ∧ els.length = n ∧ o + n * k ≤ l.length ∧ frzL (lndP H d) ((l.drop o).take (n * k)) c := by cases els <;> rfl
theorem ldp_vs (i ver k n : Nat) (els : List A) : lndP H (d + 1) (.vs i ver k n) (.fs false els) = ∃ l, blkAt H i ver = some l ∧ ∃ c, flatA k els = some c ∧ els.length = n ∧ n * k ≤ l.length ∧ frzL (lndP H d) (l.take (n * k)) c := by cases els <;> rfl
theorem ldp_lp (i ver o : Nat) (c : List A) : lndP H (d + 1) (.lp i ver o) (.fp false c) = ∃ l, blkAt H i ver = some l ∧ o ≤ l.length ∧ frzL (lndP H d) (l.drop o) c := by cases c <;> rfl
end
/-- A variable is forgotten. -/
theorem Cut.drop {n0 : Nat} {e : List A} {H : List Blk} (i : Nat) : Cut n0 e H (e.set i .any) H := fun c ev h1 h2 h3 h4 =>
  ⟨c, h1, rfl, Lat.refl _ _, h3, by simpa using h4.1, fun j a x ha hx => by
    rw [List.getElem?_set] at ha
    split at ha
    · split at ha
      · cases ha; exact .any x
      · cases ha
    · exact h4.2 j a x ha hx⟩
end Go.Lft
namespace Go.Proofs.Ytfnghkmchlfooaa
open Go Go.Lft
set_option linter.unusedSimpArgs false
set_option linter.unusedVariables false
attribute [local congr] ob_congr bw_congr ib_congr ck_congr iwA_congr itA_congr aw_congr awp_congr sqA_congr bkA_congr vr_congr gd_congr

theorem gcheck_plant {p : Pl} (h : POk p) : gcheck p.ms.length (arcsR p) = 0 := by
  unfold gcheck
  have h1 := h.n1
  have h2 := h.n2
  have h3 := h.b2
  have h4 := arcsR_len p
  rw [if_neg (by omega), if_neg (by omega), if_neg]
  rintro ⟨i, hi, hb⟩
  rw [arcsR_get p i (by omega)] at hb
  have := h.bt _ (mem_get b0 (show i < p.bs.length by omega))
  unfold arcBad at hb
  simp only at hb
  omega
theorem inR_plant {p : Pl} (h : POk p) : inR p.ms.length (arcsR p) := (gcheck_ok (gcheck_plant h)).2.2.2
end Go.Proofs.Ytfnghkmchlfooaa
namespace Go.Proofs.Ytfnghkmchlfooaa
open Go Go.Lft
set_option linter.unusedSimpArgs false
set_option linter.unusedVariables false

/-- Groups that part the nodes. -/
structure GP (n : Int) (l : Arcs) (G : List (List Int)) : Prop where
  len : G.length ≤ n.toNat
  rlen : ∀ k, k < G.length → (G.getD k []).length ≤ n.toNat
  rng : ∀ k, k < G.length → ∀ x ∈ G.getD k [], 0 ≤ x ∧ x < n
  apart : ∀ i k, i < k → k < G.length → ∀ x ∈ G.getD i [], x ∉ G.getD k []
  nd : ∀ k, k < G.length → (G.getD k []).Pairwise (· < ·)
  cover : ∀ x, 0 ≤ x → x < n → ∃ k, k < G.length ∧ x ∈ G.getD k []
  same : ∀ k, k < G.length → ∀ x ∈ G.getD k [], ∀ y, 0 ≤ y → y < n → (y ∈ G.getD k [] ↔ both n l x.toNat y.toNat = true)
  ne : ∀ k, k < G.length → G.getD k [] ≠ []
  cnt : ∀ k, k < G.length → (G.getD k []).length = ((List.range n.toNat).filter fun i : Nat => decide ((i : Int) ∈ G.getD k [])).length
theorem gp_of {n : Int} {l : Arcs} (hr : inR n l) : GP n l (gst n l n.toNat).2 := by
  have hG := gst_reps n l n.toNat
  have hlt := reps_lt n l n.toNat
  have hap := reps_apart hr n.toNat (Nat.le_refl _)
  have hlen : (gst n l n.toNat).2.length = (reps n l n.toNat).length := by rw [hG, List.length_map]
  have hget : ∀ k, k < (reps n l n.toNat).length → ∃ r, (reps n l n.toNat)[k]? = some r ∧ r < n.toNat ∧ (gst n l n.toNat).2.getD k [] = memb n l r 0 n.toNat := fun k hk => by
    refine ⟨(reps n l n.toNat)[k], by simp [hk], hlt _ (List.getElem_mem hk), ?_⟩
    rw [hG, List.getD_eq_getElem?_getD, List.getElem?_map, List.getElem?_eq_getElem hk]; rfl
  refine ⟨gst_len n l n.toNat, fun k hk => ?_, fun k hk x hx => ?_, fun i k hik hk x hx hx' => ?_, fun k hk => ?_, fun x h0 h1 => ?_, fun k hk x hx y hy0 hy1 => ?_, fun k hk => ?_, fun k hk => ?_⟩
  · obtain ⟨r, _, _, h⟩ := hget k (by omega)
    rw [h]; exact memb_len n l r 0 n.toNat
  · obtain ⟨r, _, _, h⟩ := hget k (by omega)
    rw [h, memb_mem] at hx
    omega
  · obtain ⟨r, g1, g2, h⟩ := hget k (by omega)
    obtain ⟨s, g3, g4, h'⟩ := hget i (by omega)
    rw [h', memb_mem] at hx
    rw [h, memb_mem] at hx'
    obtain ⟨i1, i2⟩ := List.getElem?_eq_some_iff.1 g3
    obtain ⟨k1, k2⟩ := List.getElem?_eq_some_iff.1 g1
    have hf := List.pairwise_iff_getElem.1 hap i k i1 k1 hik
    rw [i2, k2] at hf
    have := b_trans hr g4 (by omega) g2 hx.2.2 (b_symm hr g2 (by omega) hx'.2.2)
    rw [hf] at this; cases this
  · obtain ⟨r, _, _, h⟩ := hget k (by omega)
    rw [h]; exact memb_lt n l r 0 n.toNat
  · obtain ⟨r, h2, h3⟩ := reps_cover hr n.toNat (Nat.le_refl _) x.toNat (by omega)
    obtain ⟨k, hk, rfl⟩ := List.mem_iff_getElem.1 h2
    obtain ⟨s, g1, _, h⟩ := hget k hk
    obtain ⟨_, k2⟩ := List.getElem?_eq_some_iff.1 g1
    refine ⟨k, by omega, ?_⟩
    rw [h, ← k2, memb_mem]
    exact ⟨h0, by omega, h3⟩
  · obtain ⟨r, _, g2, h⟩ := hget k (by omega)
    rw [h, memb_mem] at hx ⊢
    constructor
    · rintro ⟨_, _, h3⟩
      exact b_trans hr (by omega) g2 (by omega) (b_symm hr g2 (by omega) hx.2.2) h3
    · intro h3
      exact ⟨hy0, by omega, b_trans hr g2 (by omega) (by omega) hx.2.2 h3⟩
  · obtain ⟨r, _, g2, h⟩ := hget k (by omega)
    rw [h]
    have : (r : Int) ∈ memb n l r 0 n.toNat := memb_mem.2 ⟨by omega, by omega, by rw [Int.toNat_natCast]; exact b_refl hr g2⟩
    intro hc; rw [hc] at this; simp at this
  · obtain ⟨r, _, g2, h⟩ := hget k (by omega)
    rw [h]
    have e : (memb n l r 0 n.toNat).length = ((List.range n.toNat).filter fun j => decide (0 ≤ j) && both n l r j).length := by unfold memb; rw [List.length_map]
    rw [e]
    refine congrArg List.length (List.filter_congr fun i hi => ?_)
    have hi : i < n.toNat := by simpa using hi
    have := memb_mem (n := n) (l := l) (r := r) (b := n.toNat) (x := (i : Int))
    rw [Int.toNat_natCast] at this
    rw [Bool.eq_iff_iff, decide_eq_true_eq, this]
    simp; omega

theorem getD_setC {α : Type} (l : List α) (i j : Nat) (y d : α) : (l.set i y).getD j d = if i = j ∧ j < l.length then y else l.getD j d := by
  rw [List.getD_eq_getElem?_getD, List.getElem?_set, List.getD_eq_getElem?_getD]
  by_cases h : i = j
  · subst h
    by_cases h2 : i < l.length
    · simp [h2]
    · simp [h2]
  · simp [h]
/-- The group of each machine. -/
def ofN (G : List (List Int)) : Nat → Int → Int
  | 0, _ => 0
  | k + 1, x => if x ∈ G.getD k [] then k else ofN G k x
def ofM (G : List (List Int)) (k j : Nat) (x : Int) : Int := if x ∈ (G.getD k []).take j then k else ofN G k x
def tabI (n : Nat) (f : Int → Int) : List Int := (List.range n).map fun i : Nat => f (i : Int)
theorem tabI_len (n : Nat) (f : Int → Int) : (tabI n f).length = n := by simp [tabI]
theorem tabI_get (n : Nat) (f : Int → Int) (i : Nat) (h : i < n) : (tabI n f).getD i 0 = f i := by simp [tabI, List.getD_eq_getElem?_getD, h]
theorem tabI_ext {n : Nat} {f g : Int → Int} (h : ∀ i : Nat, i < n → f i = g i) : tabI n f = tabI n g := List.map_congr_left fun i hi => h i (by simpa using hi)
theorem tabI_set {n : Nat} (f : Int → Int) (i : Nat) (v : Int) (h : i < n) : (tabI n f).set i v = tabI n fun x => if x = i then v else f x := by
  refine eq_of_get 0 (by simp [tabI]) fun j hj => ?_
  rw [List.length_set, tabI_len] at hj
  rw [tabI_get _ _ _ hj, getD_setC, tabI_len, tabI_get _ _ _ hj]
  by_cases hij : i = j
  · subst hij; rw [if_pos ⟨rfl, h⟩, if_pos rfl]
  · rw [if_neg (fun h => hij h.1), if_neg (by omega)]
theorem tabI_rep (n : Nat) : List.replicate n (0 : Int) = tabI n fun _ => 0 := by
  refine eq_of_get 0 (by simp [tabI]) fun j hj => ?_
  simp only [List.length_replicate] at hj
  rw [tabI_get _ _ _ hj]; simp [List.getD_eq_getElem?_getD, hj]
theorem ofM_zero (G : List (List Int)) (k : Nat) (x : Int) : ofM G k 0 x = ofN G k x := by unfold ofM; simp
theorem ofM_all (G : List (List Int)) (k : Nat) (x : Int) : ofM G k (G.getD k []).length x = ofN G (k + 1) x := by unfold ofM; rw [List.take_length]; rfl
theorem ofM_step (G : List (List Int)) (k j : Nat) (hj : j < (G.getD k []).length) (x : Int) : ofM G k (j + 1) x = if x = (G.getD k []).getD j 0 then (k : Int) else ofM G k j x := by
  unfold ofM
  rw [take_succ_get' _ j 0 hj]
  by_cases hx : x = (G.getD k []).getD j 0
  · rw [if_pos hx, if_pos (by rw [List.mem_append, List.mem_singleton]; exact .inr hx)]
  · rw [if_neg hx]
    have : x ∈ (G.getD k []).take j ++ [(G.getD k []).getD j 0] ↔ x ∈ (G.getD k []).take j := by
      rw [List.mem_append, List.mem_singleton]
      exact ⟨fun h => h.resolve_right hx, .inl⟩
    simp only [this]
section
variable {n : Int} {l : Arcs} {G : List (List Int)} (h : GP n l G)
include h
theorem ofN_at {k : Nat} (hk : k < G.length) {x : Int} (hx : x ∈ G.getD k []) : ofN G G.length x = k := by
  have : ∀ j, k < j → j ≤ G.length → ofN G j x = k := by
    intro j
    induction j with
    | zero => intro h1; omega
    | succ j ih =>
      intro h1 h2
      simp only [ofN]
      by_cases hj : k = j
      · subst hj; rw [if_pos hx]
      · rw [if_neg (h.apart k j (by omega) (by omega) x hx), ih (by omega) (by omega)]
  exact this _ hk (Nat.le_refl _)
theorem ofN_mem {x : Int} (h0 : 0 ≤ x) (h1 : x < n) : 0 ≤ ofN G G.length x ∧ ofN G G.length x < G.length ∧ x ∈ G.getD (ofN G G.length x).toNat [] := by
  obtain ⟨k, hk, hx⟩ := h.cover x h0 h1
  rw [ofN_at h hk hx]
  exact ⟨by omega, by omega, by simpa using hx⟩
theorem ofN_iff {x : Int} (h0 : 0 ≤ x) (h1 : x < n) {k : Nat} (hk : k < G.length) : ofN G G.length x = k ↔ x ∈ G.getD k [] := by
  obtain ⟨g1, g2, g3⟩ := ofN_mem h h0 h1
  constructor
  · intro he; rw [he] at g3; simpa using g3
  · exact fun hx => ofN_at h hk hx
end

theorem set_self {H : List Blk} {j ver : Nat} {l : List A} (h : blkAt H j ver = some l) : H.set j ⟨ver, l⟩ = H := by
  obtain ⟨B, h1, h2, h3⟩ := blkAt_iff.1 h
  have : B = ⟨ver, l⟩ := by cases B; simp at h2 h3; subst h2; subst h3; rfl
  subst this
  apply List.ext_getElem?
  intro k
  rw [List.getElem?_set]
  split
  · rename_i hk; subst hk; rw [if_pos (blkAt_lt h), h1]
  · rfl
/-! ### The calls -/
def grp (G : List (List Int)) (m : Int) : List Int := G.getD (ofN G G.length m).toNat []
def jamP (st r : List Int) : Prop := ∃ x ∈ r, st.getD x.toNat 0 = 2
instance (st r : List Int) : Decidable (jamP st r) := by unfold jamP; infer_instance
def blkP (l : Arcs) (r st : List Int) : Prop := ∃ a ∈ l, a.1 ∈ r ∧ a.2 ∉ r ∧ st.getD a.2.toNat 0 ≠ 1
instance (l : Arcs) (r st : List Int) : Decidable (blkP l r st) := by unfold blkP; infer_instance
def setG (st r : List Int) (v : Int) : List Int := r.foldl (fun s x => s.set x.toNat v) st
theorem setG_nil (st : List Int) (v : Int) : setG st [] v = st := rfl
theorem setG_snoc (st r : List Int) (x v : Int) : setG st (r ++ [x]) v = (setG st r v).set x.toNat v := by unfold setG; rw [List.foldl_append]; rfl
theorem setG_len (v : Int) : ∀ (r st : List Int), (setG st r v).length = st.length
  | [], st => rfl
  | x :: r, st => by show (setG (st.set x.toNat v) r v).length = _; rw [setG_len v r]; simp
def stp (s : Int) : Int := if s = 1 then 0 else s
def stopF (B : List Bool) (st : List Int) (k : Nat) : List Int := tabI st.length fun i => if i < k ∧ B.getD i.toNat false = true then stp (st.getD i.toNat 0) else st.getD i.toNat 0
theorem stopF_len (B : List Bool) (st : List Int) (k : Nat) : (stopF B st k).length = st.length := tabI_len _ _
theorem stopF_get (B : List Bool) (st : List Int) (k i : Nat) (h : i < st.length) : (stopF B st k).getD i 0 = if i < k ∧ B.getD i false = true then stp (st.getD i 0) else st.getD i 0 := by
  unfold stopF; rw [tabI_get _ _ _ h, Int.toNat_natCast]; simp only [Int.ofNat_lt]
theorem stopF_zero (B : List Bool) (st : List Int) : stopF B st 0 = st := by
  refine eq_of_get 0 (stopF_len _ _ _) fun i hi => ?_
  rw [stopF_len] at hi
  rw [stopF_get _ _ _ _ hi, if_neg (by omega)]
theorem stopF_succ (B : List Bool) (st : List Int) (k : Nat) (h : k < st.length) : stopF B st (k + 1) = if B.getD k false = true then (stopF B st k).set k (stp (st.getD k 0)) else stopF B st k := by
  refine eq_of_get 0 (by split <;> simp [stopF_len]) fun i hi => ?_
  rw [stopF_len] at hi
  rw [stopF_get _ _ _ _ hi]
  by_cases hb : B.getD k false = true
  · rw [if_pos hb, getD_setC, stopF_len, stopF_get _ _ _ _ hi]
    by_cases hik : k = i
    · subst hik; rw [if_pos ⟨by omega, hb⟩, if_pos ⟨rfl, hi⟩]
    · rw [if_neg (c := k = i ∧ i < st.length) (fun h => hik h.1)]
      by_cases hi2 : i < k + 1 ∧ B.getD i false = true
      · rw [if_pos hi2, if_pos ⟨by omega, hi2.2⟩]
      · rw [if_neg hi2, if_neg (fun h => hi2 ⟨by omega, h.2⟩)]
  · rw [if_neg hb, stopF_get _ _ _ _ hi]
    by_cases hik : i = k
    · subst hik; rw [if_neg (fun h => hb h.2), if_neg (fun h => hb h.2)]
    · by_cases hi2 : i < k + 1 ∧ B.getD i false = true
      · rw [if_pos hi2, if_pos ⟨by omega, hi2.2⟩]
      · rw [if_neg hi2, if_neg (fun h => hi2 ⟨by omega, h.2⟩)]
theorem stopF_at (B : List Bool) (st : List Int) (k : Nat) (h : k < st.length) : (stopF B st k).getD k 0 = st.getD k 0 := by
  rw [stopF_get _ _ _ _ h, if_neg (by omega)]

/-- A plant's graph and groups. -/
structure Cn where
  n : Nat
  l : Arcs
def Cn.G (c : Cn) : List (List Int) := (gst c.n c.l c.n).2
def Cn.bk (c : Cn) (m : Int) : List Bool := reachL c.n (backL c.l) m
def Cn.bad (c : Cn) (m : Int) : Prop := m < 0 ∨ (c.n : Int) ≤ m
instance (c : Cn) (m : Int) : Decidable (c.bad m) := by unfold Cn.bad; infer_instance
def startR (c : Cn) (st : List Int) (m : Int) : Int × List Int :=
  if c.bad m then (7, st) else if jamP st (grp c.G m) then (24, st) else if blkP c.l (grp c.G m) st then (13, st) else (0, setG st (grp c.G m) 1)
def stopL (c : Cn) (st : List Int) (m : Int) : List Int := stopF (c.bk m) st c.n
def stopR (c : Cn) (st : List Int) (m : Int) : Int × List Int := if c.bad m then (7, st) else (0, stopL c st m)
def jamR (c : Cn) (st : List Int) (m : Int) : Int × List Int := if c.bad m then (7, st) else (0, (stopL c st m).set m.toNat 2)
def clearR (c : Cn) (st : List Int) (m : Int) : Int × List Int := if c.bad m then (7, st) else if st.getD m.toNat 0 ≠ 2 then (13, st) else (0, st.set m.toNat 0)
def stateR (c : Cn) (st : List Int) (m : Int) : Int × Int := if c.bad m then (0, 7) else (st.getD m.toNat 0, 0)
def unsP (st : List Int) (a : Int × Int) : Prop := st.getD a.1.toNat 0 = 1 ∧ st.getD a.2.toNat 0 ≠ 1
instance (st : List Int) : DecidablePred (unsP st) := fun a => by unfold unsP; infer_instance
def safeP (c : Cn) (st : List Int) : Prop := ∀ a ∈ c.l, ¬ unsP st a
instance (c : Cn) (st : List Int) : Decidable (safeP c st) := by unfold safeP; infer_instance
theorem stopL_len (c : Cn) (st : List Int) (m : Int) : (stopL c st m).length = st.length := stopF_len _ _ _
end Go.Proofs.Ytfnghkmchlfooaa
namespace Go.Proofs.Ytfnghkmchlfooaa
open Go Go.Lft
set_option linter.unusedSimpArgs false
set_option linter.unusedVariables false
attribute [local congr] ob_congr bw_congr ib_congr ck_congr iwA_congr itA_congr aw_congr awp_congr sqA_congr bkA_congr vr_congr gd_congr

def cnP (p : Pl) : Cn := ⟨p.ms.length, arcsR p⟩
def Cn.of (c : Cn) : List Int := tabI c.n (ofN c.G c.G.length)
theorem Cn.of_len (c : Cn) : c.of.length = c.n := tabI_len _ _
structure CnOk (c : Cn) : Prop where
  gp : GP c.n c.l c.G
  r : inR c.n c.l
  g : gcheck c.n c.l = 0
  n1 : c.n ≤ 64
  l1 : c.l.length ≤ 512
theorem cn_ok {p : Pl} (h : pcheck p = 0) : CnOk (cnP p) := by
  have ok := pcheck_ok h
  have hg := gcheck_plant ok
  have hr := inR_plant ok
  obtain ⟨c1, c2, c3, c4⟩ := gcheck_ok hg
  have := gp_of hr
  rw [Int.toNat_natCast] at this
  exact ⟨this, hr, hg, by show p.ms.length ≤ 64; omega, c3⟩
theorem CnOk.G1 {c : Cn} (h : CnOk c) : c.G.length ≤ 64 := by have := h.gp.len; have := h.n1; omega
theorem CnOk.G2 {c : Cn} (h : CnOk c) {k : Nat} (hk : k < c.G.length) : (c.G.getD k []).length ≤ 64 := by have := h.gp.rlen k hk; have := h.n1; omega

theorem controlGroups_ok {w v : Bool} {p : Pl} (h : pcheck p = 0) : VR P false n_control_groups [plA w v p] [] (isR (.tup [.agg [.v (.int .i64 (cnP p).n), .fs true (pairs (cnP p).l)], .fs true (rows true (cnP p).G), .fs true (ints (cnP p).of), .v (.int .i64 0)])) := by
  refine vr_control_groups (by simp) (.inr rfl) fun _ _ => ?_
  have hv := layoutGraph_vr (w := w) (v := v) p
  have hv2 := groups_vr (w := true) p.ms.length (arcsR p)
  have ok := cn_ok h
  rw [pgraph_ok h] at hv
  have hgr : groupsR p.ms.length (arcsR p) = ((cnP p).G, 0) := by unfold groupsR; rw [if_neg (by have := ok.g; unfold cnP at this; simp only at this; omega), Int.toNat_natCast]; rfl
  rw [hgr] at hv2
  have hn : p.ms.length = (cnP p).n := rfl
  have hl : arcsR p = (cnP p).l := rfl
  unfold graphT graphA at hv
  unfold graphA at hv2
  rw [hn, hl] at hv hv2
  unfold plA plC at hv ⊢
  have g1 := ok.G1
  have g2 := fun k hk => ok.G2 (k := k) hk
  have n1 := ok.n1
  have hofe : (cnP p).of = tabI (cnP p).n (ofN (cnP p).G (cnP p).G.length) := rfl
  have gr := ok.gp.rng
  generalize (cnP p).of = O at *
  generalize (cnP p).G = G at *
  generalize (cnP p).l = l at *
  generalize hcn : (cnP p).n = n at *
  simp (disch := ((try simp only [List.length_set, List.length_replicate, List.length_append, List.length_cons, List.length_nil]); omega)) only [aW, aX, aV, aB, aN, aL, aP, aH, aM, s_control_groups, v_control_groups]
  refine hv.same (by simp (disch := first | omega | simp (disch := omega) only [aF, aL, aN, aM]) only [aW, aX, aV, aB, aN, aL, aP, aH, aM, aF, Int.natCast_add, Int.natCast_mul, Int.add_sub_cancel, List.length_nil, Int.cast_ofNat_Int, and_true, true_and]) (by simp (disch := first | omega | simp (disch := omega) only [aF, aL, aN, aM]) only [aW, aX, aV, aB, aN, aL, aP, aH, aM, aF, Int.natCast_add, Int.natCast_mul, Int.add_sub_cancel, List.length_nil, Int.cast_ofNat_Int, and_true, true_and]) (aret_of ?_)
  simp (disch := ((try simp only [List.length_set, List.length_replicate, List.length_append, List.length_cons, List.length_nil]); omega)) only [aW, aX, aV, aB, aN, aL, aP, aH, aM]
  refine hv2.same (by simp (disch := first | omega | simp (disch := omega) only [aF, aL, aN, aM]) only [aW, aX, aV, aB, aN, aL, aP, aH, aM, aF, Int.natCast_add, Int.natCast_mul, Int.add_sub_cancel, List.length_nil, Int.cast_ofNat_Int, and_true, true_and]) (by simp (disch := first | omega | simp (disch := omega) only [aF, aL, aN, aM]) only [aW, aX, aV, aB, aN, aL, aP, aH, aM, aF, Int.natCast_add, Int.natCast_mul, Int.add_sub_cancel, List.length_nil, Int.cast_ofNat_Int, and_true, true_and]) (aret_of ?_)
  simp (disch := ((try simp only [List.length_set, List.length_replicate, List.length_append, List.length_cons, List.length_nil]); omega)) only [aW, aX, aV, aB, aN, aL, aP, aH, aM, Int.toNat_natCast]
  rw [tabI_rep]
  refine AWP.loopP g_control_groups_0 (fun k : Nat => k ≤ G.length) (fun k => [(10, .v (.int .i64 k))]) (fun k => [(3, ⟨0, ints (tabI n (ofN G k))⟩)]) (fun k => G.length - k) 0 (by omega) ?_ ?_
  · have e0 : (fun _ : Int => (0 : Int)) = ofN G 0 := rfl
    rw [e0]
    try simp (disch := ((try simp only [List.length_set, List.length_replicate, List.length_append, List.length_cons, List.length_nil]); omega)) only [aW, aX, aV, aB, aN, aL, aP, aH, aM]
    exact Cut.of' 4 rfl (by omega) (by simp (disch := first | omega | simp (disch := omega) only [aF, aL, aN, aM]) only [aW, aX, aV, aB, aN, aL, aP, aH, aM, aF, Int.natCast_add, Int.natCast_mul, Int.add_sub_cancel, List.length_nil, Int.cast_ofNat_Int, and_true, true_and]) (by simp (disch := first | omega | simp (disch := omega) only [aF, aL, aN, aM]) only [aW, aX, aV, aB, aN, aL, aP, aH, aM, aF, Int.natCast_add, Int.natCast_mul, Int.add_sub_cancel, List.length_nil, Int.cast_ofNat_Int, and_true, true_and])
  rintro k hk
  by_cases hlt : k < G.length
  · have hg2 := g2 k hlt
    have hgr2 := gr k hlt
    have e1 : tabI n (ofN G k) = tabI n (ofM G k 0) := tabI_ext fun i _ => (ofM_zero G k i).symm
    have e2 : tabI n (ofM G k (G.getD k []).length) = tabI n (ofN G (k + 1)) := tabI_ext fun i _ => ofM_all G k i
    have e3 := fun j hj => ofM_step G k j hj
    rw [e1]
    simp (disch := ((try simp only [List.length_set, List.length_replicate, List.length_append, List.length_cons, List.length_nil]); omega)) only [aW, aX, aV, aB, aN, aL, aP, aH, aM]
    refine AWP.loopP g_control_groups_1 (fun j : Nat => j ≤ (G.getD k []).length) (fun j => [(16, .v (.int .i64 j))]) (fun j => [(3, ⟨0, ints (tabI n (ofM G k j))⟩)]) (fun j => (G.getD k []).length - j) 0 (by omega) ?_ ?_
    · try simp (disch := ((try simp only [List.length_set, List.length_replicate, List.length_append, List.length_cons, List.length_nil]); omega)) only [aW, aX, aV, aB, aN, aL, aP, aH, aM]
      exact Cut.of' 4 rfl (by omega) (by simp (disch := first | omega | simp (disch := omega) only [aF, aL, aN, aM]) only [aW, aX, aV, aB, aN, aL, aP, aH, aM, aF, Int.natCast_add, Int.natCast_mul, Int.add_sub_cancel, List.length_nil, Int.cast_ofNat_Int, and_true, true_and]) (by simp (disch := first | omega | simp (disch := omega) only [aF, aL, aN, aM]) only [aW, aX, aV, aB, aN, aL, aP, aH, aM, aF, Int.natCast_add, Int.natCast_mul, Int.add_sub_cancel, List.length_nil, Int.cast_ofNat_Int, and_true, true_and])
    rintro j hj
    have tl := tabI_len n (ofM G k j)
    by_cases hjl : j < (G.getD k []).length
    · have hx := hgr2 _ (mem_get 0 hjl)
      have e4 : (tabI n (ofM G k j)).set ((G.getD k []).getD j 0).toNat (k : Int) = tabI n (ofM G k (j + 1)) := by
        rw [tabI_set _ _ _ (by omega)]
        refine tabI_ext fun i hi => ?_
        rw [e3 j hjl, Int.toNat_of_nonneg hx.1]
      simp (disch := ((try simp only [List.length_set, List.length_replicate, List.length_append, List.length_cons, List.length_nil]); omega)) only [aW, aX, aV, aB, aN, aL, aP, aH, aM, e4]
      refine ⟨j + 1, by omega, by omega, ?_⟩
      exact Cut.of' 4 rfl (by omega) (by simp (disch := first | omega | simp (disch := omega) only [aF, aL, aN, aM]) only [aW, aX, aV, aB, aN, aL, aP, aH, aM, aF, Int.natCast_add, Int.natCast_mul, Int.add_sub_cancel, List.length_nil, Int.cast_ofNat_Int, and_true, true_and]) (by simp (disch := first | omega | simp (disch := omega) only [aF, aL, aN, aM]) only [aW, aX, aV, aB, aN, aL, aP, aH, aM, aF, Int.natCast_add, Int.natCast_mul, Int.add_sub_cancel, List.length_nil, Int.cast_ofNat_Int, and_true, true_and])
    · have hje : j = (G.getD k []).length := by omega
      subst hje
      rw [e2]
      simp (disch := ((try simp only [List.length_set, List.length_replicate, List.length_append, List.length_cons, List.length_nil]); omega)) only [aW, aX, aV, aB, aN, aL, aP, aH, aM]
      refine ⟨k + 1, by omega, by omega, ?_⟩
      exact Cut.of' 4 rfl (by omega) (by simp (disch := first | omega | simp (disch := omega) only [aF, aL, aN, aM]) only [aW, aX, aV, aB, aN, aL, aP, aH, aM, aF, Int.natCast_add, Int.natCast_mul, Int.add_sub_cancel, List.length_nil, Int.cast_ofNat_Int, and_true, true_and]) (by simp (disch := first | omega | simp (disch := omega) only [aF, aL, aN, aM]) only [aW, aX, aV, aB, aN, aL, aP, aH, aM, aF, Int.natCast_add, Int.natCast_mul, Int.add_sub_cancel, List.length_nil, Int.cast_ofNat_Int, and_true, true_and])
  · have hke : k = G.length := by omega
    subst hke
    have tl := tabI_len n (ofN G G.length)
    rw [← hofe] at tl ⊢
    simp (disch := ((try simp only [List.length_set, List.length_replicate, List.length_append, List.length_cons, List.length_nil]); omega)) only [aW, aX, aV, aB, aN, aL, aP, aH, aM, r_control_groups]
    exact post0 (r := .tup [.agg [.v (.int .i64 n), .fs true (pairs l)], .fs true (rows true G), .fs true (ints O), .v (.int .i64 0)]) (Fz.tup ⟨Fz.refl (by simp (disch := first | omega | simp (disch := omega) only [aF, aL, aN, aM]) only [aW, aX, aV, aB, aN, aL, aP, aH, aM, aF, Int.natCast_add, Int.natCast_mul, Int.add_sub_cancel, List.length_nil, Int.cast_ofNat_Int, and_true, true_and]), Fz.refl (by simp (disch := first | omega | simp (disch := omega) only [aF, aL, aN, aM]) only [aW, aX, aV, aB, aN, aL, aP, aH, aM, aF, Int.natCast_add, Int.natCast_mul, Int.add_sub_cancel, List.length_nil, Int.cast_ofNat_Int, and_true, true_and]), fz_slI 0 _ 3 0 _ O (by omega) tl.symm rfl, Fz.refl rfl, trivial⟩) ⟨rfl, rfl⟩

/-! ### A panel in memory -/
def panC (c : Cn) (j : Nat) : List A := [.v (.int .i64 c.n), .fs true (pairs c.l), .fs true (rows true c.G), .fs true (ints c.of), .sl j 0 1 0 c.n]
structure PS (H : List Blk) (i j : Nat) (c : Cn) (st : List Int) : Prop where
  hi : blkAt H i 0 = some (panC c j)
  hj : blkAt H j 0 = some (ints st)
  ne : i ≠ j
  sl : st.length = c.n
theorem PS.set {H : List Blk} {i j : Nat} {c : Cn} {st : List Int} (h : PS H i j c st) (st' : List Int) (hl : st'.length = c.n) : PS (H.set j ⟨0, ints st'⟩) i j c st' :=
  ⟨by rw [blkAt_set_ne _ _ _ _ _ h.ne]; exact h.hi, blkAt_set_same _ _ _ _ (blkAt_lt h.hj), h.ne, hl⟩

/-- What a new panel brings along: two things of no use, the states, the panel. -/
def panG (c : Cn) (st : List Int) : List Blk := [⟨0, [.any, .any, .any, .any]⟩, ⟨0, [.any, .any]⟩, ⟨0, ints st⟩, ⟨0, panC c 2⟩]
theorem controlNew_ok {w v : Bool} {p : Pl} (h : pcheck p = 0) : VR P false n_control_New [plA w v p] [] (ownR (.tup [.lp 3 0 0, .v (.int .i64 0)]) (panG (cnP p) (List.replicate (cnP p).n 0))) := by
  refine vr_control_New (by simp) (.inr rfl) fun _ _ => ?_
  have hv := controlGroups_ok (w := w) (v := v) h
  have n1 := (cn_ok h).n1
  unfold panG panC
  unfold plA plC at hv ⊢
  generalize cnP p = c at *
  simp (disch := ((try simp only [List.length_set, List.length_replicate, List.length_append, List.length_cons, List.length_nil]); omega)) only [aW, aX, aV, aB, aN, aL, aP, aH, aM, s_control_New, v_control_New]
  refine hv.same (by simp (disch := first | omega | simp (disch := omega) only [aF, aL, aN, aM]) only [aW, aX, aV, aB, aN, aL, aP, aH, aM, aF, Int.natCast_add, Int.natCast_mul, Int.add_sub_cancel, List.length_nil, Int.cast_ofNat_Int, and_true, true_and]) (by simp (disch := first | omega | simp (disch := omega) only [aF, aL, aN, aM]) only [aW, aX, aV, aB, aN, aL, aP, aH, aM, aF, Int.natCast_add, Int.natCast_mul, Int.add_sub_cancel, List.length_nil, Int.cast_ofNat_Int, and_true, true_and]) (aret_of ?_)
  simp (disch := ((try simp only [List.length_set, List.length_replicate, List.length_append, List.length_cons, List.length_nil]); omega)) only [aW, aX, aV, aB, aN, aL, aP, aH, aM, Int.toNat_natCast, r_control_New]
  refine ⟨_, panG c (List.replicate c.n 0), ?_, rfl, rfl⟩
  unfold panG panC
  exact Cut.of' 4 rfl (by omega) (by simp (disch := first | omega | simp (disch := omega) only [aF, aL, aN, aM]) only [aW, aX, aV, aB, aN, aL, aP, aH, aM, aF, Int.natCast_add, Int.natCast_mul, Int.add_sub_cancel, List.length_nil, Int.cast_ofNat_Int, and_true, true_and]) ⟨Fz.refl rfl, trivial⟩
theorem panC_sh (n : Nat) (c : Cn) (j : Nat) : A.shL n (panC c j) = panC c (n + j) := by
  unfold panC
  simp only [A.shL, A.sh, shL_bd _ (p_bd 0 _), shL_bd _ (r_bd 0 _ _), shL_bd _ (ii_bd 0 _)]
theorem panG_sh (n : Nat) (c : Cn) (st : List Int) : (panG c st).map (Blk.sh n) = [⟨0, [.any, .any, .any, .any]⟩, ⟨0, [.any, .any]⟩, ⟨0, ints st⟩, ⟨0, panC c (n + 2)⟩] := by
  unfold panG
  simp only [List.map_cons, List.map_nil, Blk.sh, panC_sh, A.shL, A.sh, shL_bd _ (ii_bd 0 _)]
theorem panG_cl (c : Cn) (st : List Int) : ((panG c st).all fun B => A.clL B.cells) = true := by
  simp [panG, panC, A.clL, A.cl, p_cl, r_cl, ii_cl]

/-! ### The calls -/
theorem find_ps {H : List Blk} {i j : Nat} {c : Cn} {st : List Int} (h : PS H i j c st) (m : Int) : VR P false n_control_Panel_find [.lp i 0 0, .v (.int .i64 m)] H (fun r H' => r = .v (.int .i64 (if c.bad m then 7 else 0)) ∧ H' = H) := by
  refine vr_control_Panel_find (by simp) (.inl rfl) fun hb _ => ?_
  have hi := h.hi
  unfold panC at hi
  by_cases hm : c.bad m
  · have hm' := hm
    unfold Cn.bad at hm'
    rw [if_pos hm]
    simp (disch := ((try simp only [List.length_set, List.length_replicate, List.length_append, List.length_cons, List.length_nil]); omega)) only [aW, aX, aV, aB, aN, aL, aP, aH, aM, s_control_Panel_find, v_control_Panel_find, r_control_Panel_find, hi, decide_eq_true hm']
    exact post2 (R := fun r H' => _) ⟨rfl, rfl⟩
  · have hm' := hm
    unfold Cn.bad at hm'
    rw [if_neg hm]
    simp (disch := ((try simp only [List.length_set, List.length_replicate, List.length_append, List.length_cons, List.length_nil]); omega)) only [aW, aX, aV, aB, aN, aL, aP, aH, aM, s_control_Panel_find, v_control_Panel_find, r_control_Panel_find, hi, decide_eq_false hm']
    exact post2 (R := fun r H' => _) ⟨rfl, rfl⟩
theorem state_ps {H : List Blk} {i j : Nat} {c : Cn} {st : List Int} (h : PS H i j c st) (m : Int) : VR P false n_control_Panel_State [.lp i 0 0, .v (.int .i64 m)] H (fun r H' => r = .tup [.v (.int .i64 (stateR c st m).1), .v (.int .i64 (stateR c st m).2)] ∧ H' = H) := by
  refine vr_control_Panel_State (by simp) (.inl rfl) fun hb _ => ?_
  have hi := h.hi
  have hj := h.hj
  have sl := h.sl
  unfold panC at hi
  unfold stateR
  simp (disch := ((try simp only [List.length_set, List.length_replicate, List.length_append, List.length_cons, List.length_nil]); omega)) only [aW, aX, aV, aB, aN, aL, aP, aH, aM, s_control_Panel_State, v_control_Panel_State]
  refine (find_ps h m).mono ?_
  rintro r H' ⟨rfl, hH⟩
  rw [hH]
  refine aret_of ?_
  by_cases hm : c.bad m
  · rw [if_pos hm, if_pos hm]
    simp (disch := ((try simp only [List.length_set, List.length_replicate, List.length_append, List.length_cons, List.length_nil]); omega)) only [aW, aX, aV, aB, aN, aL, aP, aH, aM, r_control_Panel_State]
    exact post2 (R := fun r H' => _) ⟨rfl, rfl⟩
  · rw [if_neg hm, if_neg hm]
    unfold Cn.bad at hm
    simp (disch := ((try simp only [List.length_set, List.length_replicate, List.length_append, List.length_cons, List.length_nil]); omega)) only [aW, aX, aV, aB, aN, aL, aP, aH, aM, r_control_Panel_State, hi, hj]
    exact post2 (R := fun r H' => _) ⟨rfl, rfl⟩
theorem clear_ps {H : List Blk} {i j : Nat} {c : Cn} {st : List Int} (h : PS H i j c st) (m : Int) : VR P false n_control_Panel_Clear [.lp i 0 0, .v (.int .i64 m)] H (fun r H' => r = .v (.int .i64 (clearR c st m).1) ∧ H' = H.set j ⟨0, ints (clearR c st m).2⟩) := by
  refine vr_control_Panel_Clear (by simp) (.inl rfl) fun hb _ => ?_
  have hi := h.hi
  have hj := h.hj
  have sl := h.sl
  have hs := set_self hj
  have lt := blkAt_lt hj
  have lti := blkAt_lt h.hi
  unfold panC at hi
  unfold clearR
  simp (disch := ((try simp only [List.length_set, List.length_replicate, List.length_append, List.length_cons, List.length_nil]); omega)) only [aW, aX, aV, aB, aN, aL, aP, aH, aM, s_control_Panel_Clear, v_control_Panel_Clear]
  refine (find_ps h m).mono ?_
  rintro r H' ⟨rfl, hH⟩
  rw [hH]
  refine aret_of ?_
  by_cases hm : c.bad m
  · rw [if_pos hm, if_pos hm]
    simp (disch := ((try simp only [List.length_set, List.length_replicate, List.length_append, List.length_cons, List.length_nil]); omega)) only [aW, aX, aV, aB, aN, aL, aP, aH, aM, r_control_Panel_Clear]
    exact post2 (R := fun r H' => _) ⟨rfl, hs.symm⟩
  rw [if_neg hm, if_neg hm]
  unfold Cn.bad at hm
  simp (disch := ((try simp only [List.length_set, List.length_replicate, List.length_append, List.length_cons, List.length_nil]); omega)) only [aW, aX, aV, aB, aN, aL, aP, aH, aM, hi, hj]
  refine ib_intro (fun h1 => ?_) (fun h1 => ?_)
  · rw [if_pos h1]
    simp (disch := ((try simp only [List.length_set, List.length_replicate, List.length_append, List.length_cons, List.length_nil]); omega)) only [aW, aX, aV, aB, aN, aL, aP, aH, aM, r_control_Panel_Clear]
    exact post2 (R := fun r H' => _) ⟨rfl, hs.symm⟩
  · rw [if_neg h1]
    simp (disch := ((try simp only [List.length_set, List.length_replicate, List.length_append, List.length_cons, List.length_nil]); omega)) only [aW, aX, aV, aB, aN, aL, aP, aH, aM, r_control_Panel_Clear, hi, hj]
    exact post2 (R := fun r H' => _) ⟨rfl, rfl⟩

theorem stopped_vr {kp : Bool} {H : List Blk} (s : Int) : VR P kp n_control_stopped [.v (.int .i64 s)] H (fun r H' => r = .v (.int .i64 (stp s)) ∧ H' = H) := by
  have : VR P false n_control_stopped [.v (.int .i64 s)] [] (isR (.v (.int .i64 (stp s)))) := by
    refine vr_control_stopped (by simp) (.inr rfl) fun _ _ => ?_
    by_cases h1 : s = 1
    · have : stp s = 0 := by unfold stp; rw [if_pos h1]
      rw [this]
      simp (disch := ((try simp only [List.length_set, List.length_replicate, List.length_append, List.length_cons, List.length_nil]); omega)) only [aW, aX, aV, aB, aN, aL, aP, aH, aM, s_control_stopped, v_control_stopped, decide_eq_true h1, r_control_stopped]
      exact post_v ⟨rfl, rfl⟩
    by_cases h0 : s = 0
    · have : stp s = 0 := by unfold stp; rw [if_neg h1]; exact h0
      rw [this]
      simp (disch := ((try simp only [List.length_set, List.length_replicate, List.length_append, List.length_cons, List.length_nil]); omega)) only [aW, aX, aV, aB, aN, aL, aP, aH, aM, s_control_stopped, v_control_stopped, decide_eq_false h1, decide_eq_true h0, r_control_stopped]
      exact post_v ⟨rfl, rfl⟩
    · have : stp s = s := by unfold stp; rw [if_neg h1]
      rw [this]
      simp (disch := ((try simp only [List.length_set, List.length_replicate, List.length_append, List.length_cons, List.length_nil]); omega)) only [aW, aX, aV, aB, aN, aL, aP, aH, aM, s_control_stopped, v_control_stopped, decide_eq_false h1, decide_eq_false h0, r_control_stopped]
      exact post_v ⟨rfl, rfl⟩
  exact this.same rfl rfl ⟨rfl, rfl⟩

theorem stop_ps {H : List Blk} {i j : Nat} {c : Cn} {st : List Int} (ok : CnOk c) (h : PS H i j c st) (m : Int) : VR P false n_control_Panel_Stop [.lp i 0 0, .v (.int .i64 m)] H (fun r H' => r = .v (.int .i64 (stopR c st m).1) ∧ H' = H.set j ⟨0, ints (stopR c st m).2⟩) := by
  refine vr_control_Panel_Stop (by simp) (.inl rfl) fun hb _ => ?_
  have hi := h.hi
  have hj := h.hj
  have sl := h.sl
  have hs := set_self hj
  have lt := blkAt_lt hj
  have lti := blkAt_lt h.hi
  have n1 := ok.n1
  unfold panC at hi
  unfold stopR
  simp (disch := ((try simp only [List.length_set, List.length_replicate, List.length_append, List.length_cons, List.length_nil]); omega)) only [aW, aX, aV, aB, aN, aL, aP, aH, aM, s_control_Panel_Stop, v_control_Panel_Stop]
  refine (find_ps h m).mono ?_
  rintro r H' ⟨rfl, hH⟩
  rw [hH]
  refine aret_of ?_
  by_cases hm : c.bad m
  · rw [if_pos hm, if_pos hm]
    simp (disch := ((try simp only [List.length_set, List.length_replicate, List.length_append, List.length_cons, List.length_nil]); omega)) only [aW, aX, aV, aB, aN, aL, aP, aH, aM, r_control_Panel_Stop]
    exact post2 (R := fun r H' => _) ⟨rfl, hs.symm⟩
  rw [if_neg hm, if_neg hm]
  unfold Cn.bad at hm
  have hv := back_vr (w := true) c.n c.l m
  have e : visitR c.n c.l (backL c.l) m = (c.bk m, 0) := by
    unfold visitR; rw [if_neg (by have := ok.g; omega), if_neg (by omega)]; rfl
  have hbl : (c.bk m).length = c.n := by unfold Cn.bk; rw [reachL_len]; simp
  rw [e] at hv
  unfold graphA at hv
  unfold stopL
  generalize c.bk m = B at *
  simp (disch := ((try simp only [List.length_set, List.length_replicate, List.length_append, List.length_cons, List.length_nil]); omega)) only [aW, aX, aV, aB, aN, aL, aP, aH, aM, hi]
  refine hv.same (by simp (disch := first | omega | simp (disch := omega) only [aF, aL, aN, aM]) only [aW, aX, aV, aB, aN, aL, aP, aH, aM, aF, Int.natCast_add, Int.natCast_mul, Int.add_sub_cancel, List.length_nil, Int.cast_ofNat_Int, and_true, true_and]) (by simp (disch := first | omega | simp (disch := omega) only [aF, aL, aN, aM]) only [aW, aX, aV, aB, aN, aL, aP, aH, aM, aF, Int.natCast_add, Int.natCast_mul, Int.add_sub_cancel, List.length_nil, Int.cast_ofNat_Int, and_true, true_and]) (aret_of ?_)
  simp (disch := ((try simp only [List.length_set, List.length_replicate, List.length_append, List.length_cons, List.length_nil]); omega)) only [aW, aX, aV, aB, aN, aL, aP, aH, aM]
  refine AWP.loopP g_control_Panel_Stop_0 (fun k : Nat => k ≤ c.n) (fun k => [(6, .v (.int .i64 k))]) (fun k => [(j, ⟨0, ints (stopF B st k)⟩)]) (fun k => c.n - k) 0 (by omega) ?_ ?_
  · rw [stopF_zero]
    simp (disch := ((try simp only [List.length_set, List.length_replicate, List.length_append, List.length_cons, List.length_nil]); omega)) only [aW, aX, aV, aB, aN, aL, aP, aH, aM, hs]
    exact Cut.same (Nat.le_refl _) hb (by simp (disch := first | omega | simp (disch := omega) only [aF, aL, aN, aM]) only [aW, aX, aV, aB, aN, aL, aP, aH, aM, aF, Int.natCast_add, Int.natCast_mul, Int.add_sub_cancel, List.length_nil, Int.cast_ofNat_Int, and_true, true_and])
  rintro k hk
  have hq := h.set (stopF B st k) (by rw [stopF_len]; exact sl)
  have hqi := hq.hi
  have hqj := hq.hj
  unfold panC at hqi
  have fl := stopF_len B st k
  have hb' : ∀ st' : List Int, okB (H.set j ⟨0, ints st'⟩).length (H.set j ⟨0, ints st'⟩) := fun st' => by rw [List.length_set]; exact okB.set hb (ii_bd _ _)
  by_cases hlt : k < c.n
  · have hsu := stopF_succ B st k (by omega)
    have hat := stopF_at B st k (by omega)
    simp (disch := ((try simp only [List.length_set, List.length_replicate, List.length_append, List.length_cons, List.length_nil]); omega)) only [aW, aX, aV, aB, aN, aL, aP, aH, aM]
    refine ib_split (fun h1 => ?_) (fun h1 => ?_)
    · rw [if_pos h1] at hsu
      simp (disch := ((try simp only [List.length_set, List.length_replicate, List.length_append, List.length_cons, List.length_nil]); omega)) only [aW, aX, aV, aB, aN, aL, aP, aH, aM, hqi, hqj]
      refine (stopped_vr ((stopF B st k).getD k 0)).mono ?_
      rintro r H' ⟨rfl, hH⟩
      rw [hH]
      refine aret_of ?_
      rw [hat]
      simp (disch := ((try simp only [List.length_set, List.length_replicate, List.length_append, List.length_cons, List.length_nil]); omega)) only [aW, aX, aV, aB, aN, aL, aP, aH, aM, hqi, hqj, List.length_set, ← hsu]
      refine ⟨k + 1, by omega, by omega, ?_⟩
      try simp (disch := ((try simp only [List.length_set, List.length_replicate, List.length_append, List.length_cons, List.length_nil]); omega)) only [aW, aX, aV, aB, aN, aL, aP, aH, aM]
      exact Cut.same (by rw [List.length_set]; exact Nat.le_refl _) (hb' _) (by simp (disch := first | omega | simp (disch := omega) only [aF, aL, aN, aM]) only [aW, aX, aV, aB, aN, aL, aP, aH, aM, aF, Int.natCast_add, Int.natCast_mul, Int.add_sub_cancel, List.length_nil, Int.cast_ofNat_Int, and_true, true_and])
    · rw [if_neg (by rw [h1]; simp)] at hsu
      simp (disch := ((try simp only [List.length_set, List.length_replicate, List.length_append, List.length_cons, List.length_nil]); omega)) only [aW, aX, aV, aB, aN, aL, aP, aH, aM, ← hsu]
      refine ⟨k + 1, by omega, by omega, ?_⟩
      try simp (disch := ((try simp only [List.length_set, List.length_replicate, List.length_append, List.length_cons, List.length_nil]); omega)) only [aW, aX, aV, aB, aN, aL, aP, aH, aM]
      exact Cut.same (by rw [List.length_set]; exact Nat.le_refl _) (hb' _) (by simp (disch := first | omega | simp (disch := omega) only [aF, aL, aN, aM]) only [aW, aX, aV, aB, aN, aL, aP, aH, aM, aF, Int.natCast_add, Int.natCast_mul, Int.add_sub_cancel, List.length_nil, Int.cast_ofNat_Int, and_true, true_and])
  · have hke : k = c.n := by omega
    subst hke
    simp (disch := ((try simp only [List.length_set, List.length_replicate, List.length_append, List.length_cons, List.length_nil]); omega)) only [aW, aX, aV, aB, aN, aL, aP, aH, aM, r_control_Panel_Stop]
    exact post2 (R := fun r H' => _) ⟨rfl, rfl⟩
theorem jam_ps {H : List Blk} {i j : Nat} {c : Cn} {st : List Int} (ok : CnOk c) (h : PS H i j c st) (m : Int) : VR P false n_control_Panel_Jam [.lp i 0 0, .v (.int .i64 m)] H (fun r H' => r = .v (.int .i64 (jamR c st m).1) ∧ H' = H.set j ⟨0, ints (jamR c st m).2⟩) := by
  refine vr_control_Panel_Jam (by simp) (.inl rfl) fun hb _ => ?_
  have lt := blkAt_lt h.hj
  have lti := blkAt_lt h.hi
  have n1 := ok.n1
  unfold jamR
  simp (disch := ((try simp only [List.length_set, List.length_replicate, List.length_append, List.length_cons, List.length_nil]); omega)) only [aW, aX, aV, aB, aN, aL, aP, aH, aM, s_control_Panel_Jam, v_control_Panel_Jam]
  refine (stop_ps ok h m).mono ?_
  rintro r H' ⟨rfl, hH⟩
  rw [hH]
  refine aret_of ?_
  unfold stopR
  by_cases hm : c.bad m
  · rw [if_pos hm, if_pos hm]
    simp (disch := ((try simp only [List.length_set, List.length_replicate, List.length_append, List.length_cons, List.length_nil]); omega)) only [aW, aX, aV, aB, aN, aL, aP, aH, aM, r_control_Panel_Jam]
    exact post2 (R := fun r H' => _) ⟨rfl, rfl⟩
  rw [if_neg hm, if_neg hm]
  have sl := stopL_len c st m
  have sl2 := h.sl
  have hq := h.set (stopL c st m) (by omega)
  have hqi := hq.hi
  have hqj := hq.hj
  unfold panC at hqi
  unfold Cn.bad at hm
  simp (disch := ((try simp only [List.length_set, List.length_replicate, List.length_append, List.length_cons, List.length_nil]); omega)) only [aW, aX, aV, aB, aN, aL, aP, aH, aM, r_control_Panel_Jam, hqi, hqj, List.length_set]
  exact post2 (R := fun r H' => _) ⟨rfl, rfl⟩
end Go.Proofs.Ytfnghkmchlfooaa
namespace Go.Proofs.Ytfnghkmchlfooaa
open Go Go.Lft
set_option linter.unusedSimpArgs false
set_option linter.unusedVariables false
attribute [local congr] ob_congr bw_congr ib_congr ck_congr iwA_congr itA_congr aw_congr awp_congr sqA_congr bkA_congr vr_congr gd_congr

theorem grp_ok {c : Cn} (h : CnOk c) {m : Int} (h0 : 0 ≤ m) (h1 : m < c.n) : (grp c.G m).length ≤ 64 ∧ ∀ x ∈ grp c.G m, 0 ≤ x ∧ x < c.n := by
  obtain ⟨g1, g2, g3⟩ := ofN_mem h.gp h0 h1
  exact ⟨h.G2 (by omega), h.gp.rng _ (by omega)⟩
theorem of_get {c : Cn} {x : Int} (h0 : 0 ≤ x) (h1 : x < c.n) : c.of.getD x.toNat 0 = ofN c.G c.G.length x := by
  unfold Cn.of; rw [tabI_get _ _ _ (by omega), Int.toNat_of_nonneg h0]
theorem of_mem {c : Cn} (h : CnOk c) {m x : Int} (h0 : 0 ≤ m) (h1 : m < c.n) (h2 : 0 ≤ x) (h3 : x < c.n) : ofN c.G c.G.length x = ofN c.G c.G.length m ↔ x ∈ grp c.G m := by
  obtain ⟨g1, g2, g3⟩ := ofN_mem h.gp h0 h1
  have := ofN_iff h.gp h2 h3 (k := (ofN c.G c.G.length m).toNat) (by omega)
  rw [Int.toNat_of_nonneg g1] at this
  exact this
theorem jam_hit {st r : List Int} {k : Nat} (hk : k < r.length) (h : st.getD (r.getD k 0).toNat 0 = 2) : jamP st r := ⟨_, mem_get 0 hk, h⟩
theorem jam_none {st r : List Int} (h : ∀ i, i < r.length → ¬ st.getD (r.getD i 0).toNat 0 = 2) : ¬ jamP st r := by
  rintro ⟨x, hx, h2⟩
  obtain ⟨i, hi, rfl⟩ := get_mem 0 hx
  exact h i hi h2
def blk1 (r st : List Int) (a : Int × Int) : Prop := a.1 ∈ r ∧ a.2 ∉ r ∧ st.getD a.2.toNat 0 ≠ 1
theorem blk_hit {l : Arcs} {r st : List Int} {k : Nat} (hk : k < l.length) (h : blk1 r st (l.getD k (0, 0))) : blkP l r st := ⟨_, mem_get (0, 0) hk, h⟩
theorem blk_none {l : Arcs} {r st : List Int} (h : ∀ i, i < l.length → ¬ blk1 r st (l.getD i (0, 0))) : ¬ blkP l r st := by
  rintro ⟨x, hx, h2⟩
  obtain ⟨i, hi, rfl⟩ := get_mem (0, 0) hx
  exact h i hi h2

theorem start_ps {H : List Blk} {i j : Nat} {c : Cn} {st : List Int} (ok : CnOk c) (h : PS H i j c st) (m : Int) : VR P false n_control_Panel_Start [.lp i 0 0, .v (.int .i64 m)] H (fun r H' => r = .v (.int .i64 (startR c st m).1) ∧ H' = H.set j ⟨0, ints (startR c st m).2⟩) := by
  refine vr_control_Panel_Start (by simp) (.inl rfl) fun hb _ => ?_
  have hi := h.hi
  have hj := h.hj
  have sl := h.sl
  have hs := set_self hj
  have lt := blkAt_lt hj
  have lti := blkAt_lt h.hi
  have n1 := ok.n1
  have l1 := ok.l1
  have g1 := ok.G1
  have ol := c.of_len
  unfold panC at hi
  unfold startR
  simp (disch := ((try simp only [List.length_set, List.length_replicate, List.length_append, List.length_cons, List.length_nil]); omega)) only [aW, aX, aV, aB, aN, aL, aP, aH, aM, s_control_Panel_Start, v_control_Panel_Start]
  refine (find_ps h m).mono ?_
  rintro r H' ⟨rfl, hH⟩
  rw [hH]
  refine aret_of ?_
  by_cases hm : c.bad m
  · rw [if_pos hm, if_pos hm]
    simp (disch := ((try simp only [List.length_set, List.length_replicate, List.length_append, List.length_cons, List.length_nil]); omega)) only [aW, aX, aV, aB, aN, aL, aP, aH, aM, r_control_Panel_Start]
    exact post2 (R := fun r H' => _) ⟨rfl, hs.symm⟩
  rw [if_neg hm, if_neg hm]
  unfold Cn.bad at hm
  obtain ⟨q1, q2, q3⟩ := ofN_mem ok.gp (x := m) (by omega) (by omega)
  obtain ⟨r1, r2⟩ := grp_ok ok (m := m) (by omega) (by omega)
  have og := of_get (c := c) (x := m) (by omega) (by omega)
  have om := fun x h2 h3 => of_mem ok (m := m) (x := x) (by omega) (by omega) h2 h3
  have hgr : c.G.getD (ofN c.G c.G.length m).toNat [] = grp c.G m := rfl
  generalize hr : grp c.G m = r at *
  generalize hg : ofN c.G c.G.length m = g at *
  simp (disch := ((try simp only [List.length_set, List.length_replicate, List.length_append, List.length_cons, List.length_nil]); omega)) only [aW, aX, aV, aB, aN, aL, aP, aH, aM, hi, hj, og, hgr]
  refine AWP.loopP g_control_Panel_Start_0 (fun k : Nat => k ≤ r.length ∧ ∀ i, i < k → ¬ st.getD (r.getD i 0).toNat 0 = 2) (fun k => [(2, .v (.int .i64 0)), (5, .v (.int .i64 k))]) (fun _ => []) (fun k => r.length - k) 0 ⟨by omega, fun i hi => by omega⟩ ?_ ?_
  · exact Cut.same (Nat.le_refl _) hb (by simp (disch := first | omega | simp (disch := omega) only [aF, aL, aN, aM]) only [aW, aX, aV, aB, aN, aL, aP, aH, aM, aF, Int.natCast_add, Int.natCast_mul, Int.add_sub_cancel, List.length_nil, Int.cast_ofNat_Int, and_true, true_and])
  rintro k ⟨hk, hn⟩
  by_cases hlt : k < r.length
  · have hx := r2 _ (mem_get 0 hlt)
    simp (disch := ((try simp only [List.length_set, List.length_replicate, List.length_append, List.length_cons, List.length_nil]); omega)) only [aW, aX, aV, aB, aN, aL, aP, aH, aM, hi, hj]
    refine ib_intro (fun h3 => ?_) (fun h3 => ?_)
    · rw [if_pos (jam_hit hlt h3)]
      simp (disch := ((try simp only [List.length_set, List.length_replicate, List.length_append, List.length_cons, List.length_nil]); omega)) only [aW, aX, aV, aB, aN, aL, aP, aH, aM, r_control_Panel_Start]
      exact post2 (R := fun r H' => _) ⟨rfl, hs.symm⟩
    · simp (disch := ((try simp only [List.length_set, List.length_replicate, List.length_append, List.length_cons, List.length_nil]); omega)) only [aW, aX, aV, aB, aN, aL, aP, aH, aM]
      refine ⟨k + 1, ⟨by omega, fun i hi => ?_⟩, by omega, ?_⟩
      · rcases Nat.lt_succ_iff_lt_or_eq.1 hi with h | rfl
        · exact hn i h
        · exact h3
      · exact Cut.same (Nat.le_refl _) hb (by simp (disch := first | omega | simp (disch := omega) only [aF, aL, aN, aM]) only [aW, aX, aV, aB, aN, aL, aP, aH, aM, aF, Int.natCast_add, Int.natCast_mul, Int.add_sub_cancel, List.length_nil, Int.cast_ofNat_Int, and_true, true_and])
  have hke : k = r.length := by omega
  subst hke
  rw [if_neg (jam_none hn)]
  simp (disch := ((try simp only [List.length_set, List.length_replicate, List.length_append, List.length_cons, List.length_nil]); omega)) only [aW, aX, aV, aB, aN, aL, aP, aH, aM, hi, hj]
  refine AWP.loopP g_control_Panel_Start_1 (fun k : Nat => k ≤ c.l.length ∧ ∀ i, i < k → ¬ blk1 r st (c.l.getD i (0, 0))) (fun k => [(2, .v (.int .i64 0)), (10, .v (.int .i64 k))]) (fun _ => []) (fun k => c.l.length - k) 0 ⟨by omega, fun i hi => by omega⟩ ?_ ?_
  · exact Cut.same (Nat.le_refl _) hb (by simp (disch := first | omega | simp (disch := omega) only [aF, aL, aN, aM]) only [aW, aX, aV, aB, aN, aL, aP, aH, aM, aF, Int.natCast_add, Int.natCast_mul, Int.add_sub_cancel, List.length_nil, Int.cast_ofNat_Int, and_true, true_and])
  rintro k ⟨hk, hn2⟩
  by_cases hlt2 : k < c.l.length
  · obtain ⟨a1, a2⟩ := ok.r _ (mem_get (0, 0) hlt2)
    have o1 := of_get (c := c) a1.1 a1.2
    have o2 := of_get (c := c) a2.1 a2.2
    have m1 := om _ a1.1 a1.2
    have m2 := om _ a2.1 a2.2
    simp (disch := ((try simp only [List.length_set, List.length_replicate, List.length_append, List.length_cons, List.length_nil]); omega)) only [aW, aX, aV, aB, aN, aL, aP, aH, aM, hi, hj, o1, o2]
    refine ib_intro (fun h3 => ?_) (fun h3 => ?_)
    · rw [if_pos (blk_hit hlt2 ⟨m1.1 h3.1.1, fun hc => h3.1.2 (m2.2 hc), h3.2⟩)]
      simp (disch := ((try simp only [List.length_set, List.length_replicate, List.length_append, List.length_cons, List.length_nil]); omega)) only [aW, aX, aV, aB, aN, aL, aP, aH, aM, r_control_Panel_Start]
      exact post1 (R := fun r H' => _) (Nat.le_refl _) hb (Fz.refl rfl) ⟨rfl, hs.symm⟩
    · simp (disch := ((try simp only [List.length_set, List.length_replicate, List.length_append, List.length_cons, List.length_nil]); omega)) only [aW, aX, aV, aB, aN, aL, aP, aH, aM]
      refine ⟨k + 1, ⟨by omega, fun i hi => ?_⟩, by omega, ?_⟩
      · rcases Nat.lt_succ_iff_lt_or_eq.1 hi with h | rfl
        · exact hn2 i h
        · exact fun hc => h3 ⟨⟨m1.2 hc.1, fun he => hc.2.1 (m2.1 he)⟩, hc.2.2⟩
      · exact Cut.app (Nat.le_refl _) hb (by simp (disch := first | omega | simp (disch := omega) only [aF, aL, aN, aM]) only [aW, aX, aV, aB, aN, aL, aP, aH, aM, aF, Int.natCast_add, Int.natCast_mul, Int.add_sub_cancel, List.length_nil, Int.cast_ofNat_Int, and_true, true_and])
  have hke2 : k = c.l.length := by omega
  subst hke2
  rw [if_neg (blk_none hn2)]
  simp (disch := ((try simp only [List.length_set, List.length_replicate, List.length_append, List.length_cons, List.length_nil]); omega)) only [aW, aX, aV, aB, aN, aL, aP, aH, aM, hi, hj, hgr]
  refine AWP.loopP g_control_Panel_Start_2 (fun k : Nat => k ≤ r.length) (fun k => [(15, .v (.int .i64 k))]) (fun k => [(j, ⟨0, ints (setG st (r.take k) 1)⟩)]) (fun k => r.length - k) 0 (by omega) ?_ ?_
  · rw [List.take_zero, setG_nil]
    simp (disch := ((try simp only [List.length_set, List.length_replicate, List.length_append, List.length_cons, List.length_nil]); omega)) only [aW, aX, aV, aB, aN, aL, aP, aH, aM, hs]
    exact Cut.same (Nat.le_refl _) hb (by simp (disch := first | omega | simp (disch := omega) only [aF, aL, aN, aM]) only [aW, aX, aV, aB, aN, aL, aP, aH, aM, aF, Int.natCast_add, Int.natCast_mul, Int.add_sub_cancel, List.length_nil, Int.cast_ofNat_Int, and_true, true_and])
  rintro k hk3
  have hq := h.set (setG st (r.take k) 1) (by rw [setG_len]; exact sl)
  have hqi := hq.hi
  have hqj := hq.hj
  unfold panC at hqi
  have fl := setG_len 1 (r.take k) st
  have hb' : ∀ st' : List Int, okB (H.set j ⟨0, ints st'⟩).length (H.set j ⟨0, ints st'⟩) := fun st' => by rw [List.length_set]; exact okB.set hb (ii_bd _ _)
  by_cases hlt3 : k < r.length
  · have hx := r2 _ (mem_get 0 hlt3)
    have e1 : setG st (r.take (k + 1)) 1 = (setG st (r.take k) 1).set (r.getD k 0).toNat 1 := by rw [take_succ_get' r k 0 hlt3, setG_snoc]
    simp (disch := ((try simp only [List.length_set, List.length_replicate, List.length_append, List.length_cons, List.length_nil]); omega)) only [aW, aX, aV, aB, aN, aL, aP, aH, aM, hqi, hqj, ← e1]
    refine ⟨k + 1, by omega, by omega, ?_⟩
    try simp (disch := ((try simp only [List.length_set, List.length_replicate, List.length_append, List.length_cons, List.length_nil]); omega)) only [aW, aX, aV, aB, aN, aL, aP, aH, aM]
    exact Cut.same (by rw [List.length_set]; exact Nat.le_refl _) (hb' _) (by simp (disch := first | omega | simp (disch := omega) only [aF, aL, aN, aM]) only [aW, aX, aV, aB, aN, aL, aP, aH, aM, aF, Int.natCast_add, Int.natCast_mul, Int.add_sub_cancel, List.length_nil, Int.cast_ofNat_Int, and_true, true_and])
  · have hke3 : k = r.length := by omega
    subst hke3
    rw [List.take_length]
    simp (disch := ((try simp only [List.length_set, List.length_replicate, List.length_append, List.length_cons, List.length_nil]); omega)) only [aW, aX, aV, aB, aN, aL, aP, aH, aM, r_control_Panel_Start]
    exact post2 (R := fun r H' => _) ⟨rfl, rfl⟩

theorem safe1_vr {c : Cn} {st : List Int} (ok : CnOk c) (sl : st.length = c.n) (a : Int × Int) (ha : (0 ≤ a.1 ∧ a.1 < c.n) ∧ 0 ≤ a.2 ∧ a.2 < c.n) : VR P false n_control_Panel_Safe_1 [pairA a, .fp false [.fp false [.v (.int .i64 c.n), .fs true (pairs c.l), .fs true (rows true c.G), .fs true (ints c.of), .fs false (ints st)]]] [] (isR (.v (.bool (decide (unsP st a))))) := by
  refine vr_control_Panel_Safe_1 (by simp) (.inr rfl) fun _ _ => ?_
  unfold pairA unsP
  simp (disch := ((try simp only [List.length_set, List.length_replicate, List.length_append, List.length_cons, List.length_nil]); omega)) only [aW, aX, aV, aB, aN, aL, aP, aH, aM, s_control_Panel_Safe_1, v_control_Panel_Safe_1, r_control_Panel_Safe_1]
  exact post_v ⟨rfl, rfl⟩
theorem indexUns_vr {c : Cn} {st : List Int} (ok : CnOk c) (sl : st.length = c.n) : VR P false n_slices_IndexFuncapi_Arc_api_Arc [.fs true (pairs c.l), .fn n_control_Panel_Safe_1 [.fp false [.fp false [.v (.int .i64 c.n), .fs true (pairs c.l), .fs true (rows true c.G), .fs true (ints c.of), .fs false (ints st)]]]] [] (isR (.v (.int .i64 (idxE (unsP st) c.l)))) := by
  refine vr_slices_IndexFuncapi_Arc_api_Arc (by simp) (.inr rfl) fun _ _ => ?_
  have l1 := ok.l1
  simp (disch := ((try simp only [List.length_set, List.length_replicate, List.length_append, List.length_cons, List.length_nil]); omega)) only [aW, aX, aV, aB, aN, aL, aP, aH, aM, s_slices_IndexFuncapi_Arc_api_Arc, v_slices_IndexFuncapi_Arc_api_Arc]
  refine AWP.loopP g_slices_IndexFuncapi_Arc_api_Arc_0 (fun k : Nat => k ≤ c.l.length ∧ ∀ i, i < k → ¬ unsP st (c.l.getD i (0, 0))) (fun k => [(2, .v (.int .i64 0)), (3, .v (.int .i64 k))]) (fun _ => []) (fun k => c.l.length - k) 0 ⟨by omega, fun i hi => by omega⟩ ?_ ?_
  · exact Cut.of' 0 rfl (by omega) (by simp (disch := first | omega | simp (disch := omega) only [aF, aL, aN, aM]) only [aW, aX, aV, aB, aN, aL, aP, aH, aM, aF, Int.natCast_add, Int.natCast_mul, Int.add_sub_cancel, List.length_nil, Int.cast_ofNat_Int, and_true, true_and]) (by simp (disch := first | omega | simp (disch := omega) only [aF, aL, aN, aM]) only [aW, aX, aV, aB, aN, aL, aP, aH, aM, aF, Int.natCast_add, Int.natCast_mul, Int.add_sub_cancel, List.length_nil, Int.cast_ofNat_Int, and_true, true_and])
  rintro k ⟨hk, hb⟩
  by_cases hlt : k < c.l.length
  · have hv := safe1_vr ok sl (c.l.getD k (0, 0)) (ok.r _ (mem_get (0, 0) hlt))
    unfold pairA at hv
    simp (disch := ((try simp only [List.length_set, List.length_replicate, List.length_append, List.length_cons, List.length_nil]); omega)) only [aW, aX, aV, aB, aN, aL, aP, aH, aM]
    refine ⟨by kernel_rfl, ?_⟩
    refine hv.same (by simp (disch := first | omega | simp (disch := omega) only [aF, aL, aN, aM]) only [aW, aX, aV, aB, aN, aL, aP, aH, aM, aF, Int.natCast_add, Int.natCast_mul, Int.add_sub_cancel, List.length_nil, Int.cast_ofNat_Int, and_true, true_and]) rfl (aret_of ?_)
    simp (disch := ((try simp only [List.length_set, List.length_replicate, List.length_append, List.length_cons, List.length_nil]); omega)) only [aW, aX, aV, aB, aN, aL, aP, aH, aM]
    refine ib_intro (fun h3 => ?_) (fun h3 => ?_)
    · simp (disch := ((try simp only [List.length_set, List.length_replicate, List.length_append, List.length_cons, List.length_nil]); omega)) only [aW, aX, aV, aB, aN, aL, aP, aH, aM, r_slices_IndexFuncapi_Arc_api_Arc]
      exact post_v ⟨by rw [idxE_hit (p := unsP st) (0, 0) hlt hb h3], rfl⟩
    · simp (disch := ((try simp only [List.length_set, List.length_replicate, List.length_append, List.length_cons, List.length_nil]); omega)) only [aW, aX, aV, aB, aN, aL, aP, aH, aM]
      refine ⟨k + 1, ⟨by omega, fun i hi => ?_⟩, by omega, ?_⟩
      · rcases Nat.lt_succ_iff_lt_or_eq.1 hi with h | rfl
        · exact hb i h
        · exact h3
      · exact Cut.of' 0 rfl (by omega) (by simp (disch := first | omega | simp (disch := omega) only [aF, aL, aN, aM]) only [aW, aX, aV, aB, aN, aL, aP, aH, aM, aF, Int.natCast_add, Int.natCast_mul, Int.add_sub_cancel, List.length_nil, Int.cast_ofNat_Int, and_true, true_and]) (by simp (disch := first | omega | simp (disch := omega) only [aF, aL, aN, aM]) only [aW, aX, aV, aB, aN, aL, aP, aH, aM, aF, Int.natCast_add, Int.natCast_mul, Int.add_sub_cancel, List.length_nil, Int.cast_ofNat_Int, and_true, true_and])
  · simp (disch := ((try simp only [List.length_set, List.length_replicate, List.length_append, List.length_cons, List.length_nil]); omega)) only [aW, aX, aV, aB, aN, aL, aP, aH, aM, r_slices_IndexFuncapi_Arc_api_Arc]
    exact post_v ⟨by rw [idxE_none (p := unsP st) (0, 0) fun i hi => hb i (by omega)], rfl⟩
theorem containsUns_vr {c : Cn} {st : List Int} (ok : CnOk c) (sl : st.length = c.n) : VR P false n_slices_ContainsFuncapi_Arc_api_Arc [.fs true (pairs c.l), .fn n_control_Panel_Safe_1 [.fp false [.fp false [.v (.int .i64 c.n), .fs true (pairs c.l), .fs true (rows true c.G), .fs true (ints c.of), .fs false (ints st)]]]] [] (isR (.v (.bool (decide (¬ safeP c st))))) := by
  refine vr_slices_ContainsFuncapi_Arc_api_Arc (by simp) (.inr rfl) fun _ _ => ?_
  simp (disch := ((try simp only [List.length_set, List.length_replicate, List.length_append, List.length_cons, List.length_nil]); omega)) only [aW, aX, aV, aB, aN, aL, aP, aH, aM, s_slices_ContainsFuncapi_Arc_api_Arc, v_slices_ContainsFuncapi_Arc_api_Arc]
  refine (indexUns_vr ok sl).same (by simp (disch := first | omega | simp (disch := omega) only [aF, aL, aN, aM]) only [aW, aX, aV, aB, aN, aL, aP, aH, aM, aF, Int.natCast_add, Int.natCast_mul, Int.add_sub_cancel, List.length_nil, Int.cast_ofNat_Int, and_true, true_and]) rfl (aret_of ?_)
  simp (disch := ((try simp only [List.length_set, List.length_replicate, List.length_append, List.length_cons, List.length_nil]); omega)) only [aW, aX, aV, aB, aN, aL, aP, aH, aM, r_slices_ContainsFuncapi_Arc_api_Arc]
  refine post_v ⟨vdec ?_, rfl⟩
  rw [show (0 ≤ idxE (unsP st) c.l) ↔ _ from idxE_mem]
  unfold safeP
  constructor
  · rintro ⟨x, h1, h2⟩ h3; exact h3 x h1 h2
  · intro h3
    apply Classical.byContradiction; intro h4
    exact h3 fun a ha hu => h4 ⟨a, ha, hu⟩
theorem safe_ps {H : List Blk} {i j : Nat} {c : Cn} {st : List Int} (ok : CnOk c) (h : PS H i j c st) : VR P false n_control_Panel_Safe [.lp i 0 0] H (fun r H' => r = .v (.bool (decide (safeP c st))) ∧ H' = H) := by
  refine vr_control_Panel_Safe (by simp) (.inl rfl) fun hb _ => ?_
  have hi := h.hi
  have hj := h.hj
  have sl := h.sl
  have lt := blkAt_lt hj
  have lti := blkAt_lt h.hi
  unfold panC at hi
  simp (disch := ((try simp only [List.length_set, List.length_replicate, List.length_append, List.length_cons, List.length_nil]); omega)) only [aW, aX, aV, aB, aN, aL, aP, aH, aM, s_control_Panel_Safe, v_control_Panel_Safe, hi]
  have hi' : blkAt (H ++ [⟨0, [.lp i 0 0]⟩]) i 0 = _ := (blkAt_app _ _ _ _ lti).trans hi
  have hj' : blkAt (H ++ [⟨0, [.lp i 0 0]⟩]) j 0 = _ := (blkAt_app _ _ _ _ lt).trans hj
  have hn' : blkAt (H ++ [⟨0, [.lp i 0 0]⟩]) H.length 0 = some [.lp i 0 0] := by rw [blkAt_new0]; rfl
  have hl1 : Ld (H ++ [⟨0, [.lp i 0 0]⟩]) (.lp i 0 0) (.fp false [.v (.int .i64 c.n), .fs true (pairs c.l), .fs true (rows true c.G), .fs true (ints c.of), .fs false (ints st)]) :=
    Ld.lp (o := 0) hi' (r := [.v (.int .i64 c.n), .fs true (pairs c.l), .fs true (rows true c.G), .fs true (ints c.of), .fs false (ints st)]) ⟨Ld.refl rfl, Ld.refl (by simp (disch := first | omega | simp (disch := omega) only [aF, aL, aN, aM]) only [aW, aX, aV, aB, aN, aL, aP, aH, aM, aF, Int.natCast_add, Int.natCast_mul, Int.add_sub_cancel, List.length_nil, Int.cast_ofNat_Int, and_true, true_and]), Ld.refl (by simp (disch := first | omega | simp (disch := omega) only [aF, aL, aN, aM]) only [aW, aX, aV, aB, aN, aL, aP, aH, aM, aF, Int.natCast_add, Int.natCast_mul, Int.add_sub_cancel, List.length_nil, Int.cast_ofNat_Int, and_true, true_and]), Ld.refl (by simp (disch := first | omega | simp (disch := omega) only [aF, aL, aN, aM]) only [aW, aX, aV, aB, aN, aL, aP, aH, aM, aF, Int.natCast_add, Int.natCast_mul, Int.add_sub_cancel, List.length_nil, Int.cast_ofNat_Int, and_true, true_and]), ld_slI _ j 0 _ st sl.symm hj', trivial⟩ (by simp)
  have hl2 : Ld (H ++ [⟨0, [.lp i 0 0]⟩]) (.lp H.length 0 0) (.fp false [.fp false [.v (.int .i64 c.n), .fs true (pairs c.l), .fs true (rows true c.G), .fs true (ints c.of), .fs false (ints st)]]) :=
    Ld.lp (o := 0) hn' (r := [_]) ⟨hl1, trivial⟩ (by simp)
  refine (containsUns_vr ok sl).use ⟨Ld.refl (by simp (disch := first | omega | simp (disch := omega) only [aF, aL, aN, aM]) only [aW, aX, aV, aB, aN, aL, aP, aH, aM, aF, Int.natCast_add, Int.natCast_mul, Int.add_sub_cancel, List.length_nil, Int.cast_ofNat_Int, and_true, true_and]), Ld.fn ⟨hl2, trivial⟩, trivial⟩ rfl (aret_of ?_)
  simp (disch := ((try simp only [List.length_set, List.length_replicate, List.length_append, List.length_cons, List.length_nil]); omega)) only [aW, aX, aV, aB, aN, aL, aP, aH, aM, r_control_Panel_Safe]
  refine post1 (R := fun r H' => _) (Nat.le_refl _) hb (Fz.refl rfl) ⟨?_, rfl⟩
  by_cases hs : safeP c st
  · simp [hs, retA]
  · simp [hs, retA]

end Go.Proofs.Ytfnghkmchlfooaa
namespace Go.Proofs.Ytfnghkmchlfooaa
open Go Go.Lft
set_option linter.unusedSimpArgs false
set_option linter.unusedVariables false
attribute [local congr] ob_congr bw_congr ib_congr ck_congr iwA_congr itA_congr aw_congr awp_congr sqA_congr bkA_congr vr_congr gd_congr

/-- The group feeds a machine outside. -/
def feedP (l : Arcs) (r : List Int) (m : Int) : Prop := m ∉ r ∧ ∃ a ∈ l, a.2 = m ∧ a.1 ∈ r
instance (l : Arcs) (r : List Int) (m : Int) : Decidable (feedP l r m) := by unfold feedP; infer_instance
/-! ### A panel in memory -/
def refC (c : Cn) (j : Nat) : List A := [.v (.int .i64 c.n), .fs true (pairs c.l), .fs true (rows true c.G), .sl j 0 1 0 c.n]
structure RS (H : List Blk) (i j : Nat) (c : Cn) (st : List Int) : Prop where
  hi : blkAt H i 0 = some (refC c j)
  hj : blkAt H j 0 = some (ints st)
  ne : i ≠ j
  sl : st.length = c.n
theorem RS.set {H : List Blk} {i j : Nat} {c : Cn} {st : List Int} (h : RS H i j c st) (st' : List Int) (hl : st'.length = c.n) : RS (H.set j ⟨0, ints st'⟩) i j c st' :=
  ⟨by rw [blkAt_set_ne _ _ _ _ _ h.ne]; exact h.hi, blkAt_set_same _ _ _ _ (blkAt_lt h.hj), h.ne, hl⟩
end Go.Proofs.Ytfnghkmchlfooaa
namespace Go.Proofs.Ytfnghkmchlfooaa
open Go Go.Lft
set_option linter.unusedSimpArgs false
set_option linter.unusedVariables false

def Cn.no (c : Cn) (x : Int) : Nat := (ofN c.G c.G.length x).toNat
/-- Group i may come next. -/
def freeP (c : Cn) (T : Nat → Bool) (i : Nat) : Prop := T i = false ∧ ∀ a ∈ c.l, c.no a.1 = i → c.no a.2 = i ∨ T (c.no a.2) = true
instance (c : Cn) (T : Nat → Bool) : DecidablePred (freeP c T) := fun i => by unfold freeP; infer_instance
def nextG (c : Cn) (T : Nat → Bool) : Int := idxE (freeP c T) (List.range c.G.length)
theorem range_get {n k : Nat} (h : k < n) : (List.range n).getD k 0 = k := by simp [List.getD_eq_getElem?_getD, h]
theorem next_hit {c : Cn} {T : Nat → Bool} {k : Nat} (hk : k < c.G.length) (hb : ∀ i, i < k → ¬ freeP c T i) (hp : freeP c T k) : nextG c T = k :=
  idxE_hit (p := freeP c T) 0 (by simpa using hk) (fun i hi => by rw [range_get (by omega)]; exact hb i hi) (by rw [range_get hk]; exact hp)
theorem next_none {c : Cn} {T : Nat → Bool} (hb : ∀ i, i < c.G.length → ¬ freeP c T i) : nextG c T = -1 :=
  idxE_none (p := freeP c T) 0 fun i hi => by
    simp only [List.length_range] at hi
    rw [range_get hi]; exact hb i hi
theorem next_lt (c : Cn) (T : Nat → Bool) : -1 ≤ nextG c T ∧ nextG c T < c.G.length := by
  have := idxE_ge (freeP c T) (List.range c.G.length)
  rw [List.length_range] at this; exact this
theorem next_at {c : Cn} {T : Nat → Bool} (h : 0 ≤ nextG c T) : freeP c T (nextG c T).toNat := by
  have h1 := idxE_at (p := freeP c T) 0 h
  have h2 := next_lt c T
  have h3 : (idxE (freeP c T) (List.range c.G.length)).toNat = (nextG c T).toNat := rfl
  rw [h3, range_get (by omega)] at h1; exact h1
theorem next_neg {c : Cn} {T : Nat → Bool} (h : nextG c T < 0) {i : Nat} (hi : i < c.G.length) : ¬ freeP c T i := idxE_neg (p := freeP c T) h i (by simpa using hi)
/-- The groups that are taken after k rounds, and their order. -/
def ordS (c : Cn) : Nat → (Nat → Bool) × List Nat
  | 0 => (fun _ => false, [])
  | k + 1 => (fun j => (ordS c k).1 j || j == (nextG c (ordS c k).1).toNat, (ordS c k).2 ++ [(nextG c (ordS c k).1).toNat])
section
variable {c : Cn} (ok : CnOk c)
include ok
theorem no_lt {x : Int} (h0 : 0 ≤ x) (h1 : x < c.n) : c.no x < c.G.length ∧ x ∈ c.G.getD (c.no x) [] ∧ (c.no x : Int) = ofN c.G c.G.length x := by
  obtain ⟨g1, g2, g3⟩ := ofN_mem ok.gp h0 h1
  exact ⟨by unfold Cn.no; omega, g3, by unfold Cn.no; omega⟩
theorem no_at {k : Nat} (hk : k < c.G.length) {x : Int} (hx : x ∈ c.G.getD k []) : c.no x = k := by
  unfold Cn.no; rw [ofN_at ok.gp hk hx, Int.toNat_natCast]
theorem head_mem {k : Nat} (hk : k < c.G.length) : (c.G.getD k []).getD 0 0 ∈ c.G.getD k [] := mem_get 0 (List.length_pos_iff.2 (ok.gp.ne k hk))
/-- Two nodes of one group reach the same. -/
theorem same_path {k : Nat} (hk : k < c.G.length) {x y : Int} (hx : x ∈ c.G.getD k []) (hy : y ∈ c.G.getD k []) : Path c.l x y := by
  have h1 := ok.gp.rng k hk x hx
  have h2 := ok.gp.rng k hk y hy
  have h3 := (ok.gp.same k hk x hx y h2.1 h2.2).1 hy
  have := (both_iff ok.r (v := x.toNat) (k := y.toNat) (by omega) (by omega)).1 h3
  rw [Int.toNat_of_nonneg h1.1, Int.toNat_of_nonneg h2.1] at this
  exact this.1
theorem path_same {k : Nat} (hk : k < c.G.length) {x y : Int} (hx : x ∈ c.G.getD k []) (h0 : 0 ≤ y) (h1 : y < c.n) (p : Path c.l x y) (q : Path c.l y x) : y ∈ c.G.getD k [] := by
  have h2 := ok.gp.rng k hk x hx
  refine (ok.gp.same k hk x hx y h0 h1).2 ((both_iff ok.r (v := x.toNat) (k := y.toNat) (by omega) (by omega)).2 ?_)
  rw [Int.toNat_of_nonneg h2.1, Int.toNat_of_nonneg h0]; exact ⟨p, q⟩
def rcN (c : Cn) (i : Nat) : Nat := (reachL c.n c.l ((c.G.getD i []).getD 0 0)).count true
/-- As long as one group is not taken, one may come next. -/
theorem free_some {T : Nat → Bool} : ∀ (N i : Nat), i < c.G.length → T i = false → rcN c i ≤ N → ∃ j, j < c.G.length ∧ freeP c T j
  | N, i, hi, hT, hN => by
    by_cases hf : freeP c T i
    · exact ⟨i, hi, hf⟩
    have : ∃ a ∈ c.l, c.no a.1 = i ∧ c.no a.2 ≠ i ∧ T (c.no a.2) = false := by
      apply Classical.byContradiction; intro hc
      refine hf ⟨hT, fun a ha h1 => ?_⟩
      by_cases h2 : c.no a.2 = i
      · exact .inl h2
      · refine .inr ?_
        cases h3 : T (c.no a.2) with
        | true => rfl
        | false => exact absurd ⟨a, ha, h1, h2, h3⟩ hc
    obtain ⟨a, ha, h1, h2, h3⟩ := this
    obtain ⟨⟨b1, b2⟩, b3, b4⟩ := ok.r a ha
    obtain ⟨e1, e2, _⟩ := no_lt ok b1 b2
    obtain ⟨f1, f2, _⟩ := no_lt ok b3 b4
    have m1 := head_mem ok hi
    have m2 := head_mem ok f1
    rw [h1] at e2
    have r1 := ok.gp.rng i hi _ m1
    have r2 := ok.gp.rng _ f1 _ m2
    have pij : Path c.l ((c.G.getD i []).getD 0 0) ((c.G.getD (c.no a.2) []).getD 0 0) :=
      ((same_path ok hi m1 e2).snoc ha).trans (same_path ok f1 f2 m2)
    have hcl := count_le (S := reachL c.n c.l ((c.G.getD (c.no a.2) []).getD 0 0)) (S' := reachL c.n c.l ((c.G.getD i []).getD 0 0)) (by rw [reachL_len, reachL_len]) (fun k hk => by
      have hk' : vis (reachL c.n c.l ((c.G.getD (c.no a.2) []).getD 0 0)) (k : Int) := by unfold vis; rw [Int.toNat_natCast]; exact hk
      have hp := (reachL_iff ok.r r2.1 r2.2 (w := (k : Int)) (by omega)).1 hk'
      have := (reachL_iff ok.r r1.1 r1.2 (w := (k : Int)) (by omega)).2 (pij.trans hp)
      unfold vis at this; rw [Int.toNat_natCast] at this; exact this)
    have hlt : rcN c (c.no a.2) < rcN c i := by
      unfold rcN
      rcases Nat.lt_or_eq_of_le hcl.1 with h | h
      · exact h
      · have he := hcl.2 h
        have hv := (reachL_iff ok.r r1.1 r1.2 (w := (c.G.getD i []).getD 0 0) r1.1).2 (.refl _)
        rw [← he] at hv
        have hp := (reachL_iff ok.r r2.1 r2.2 r1.1).1 hv
        exact absurd (no_at ok hi (path_same ok hi m1 r2.1 r2.2 pij hp)) (fun h => h2 (by rw [no_at ok f1 m2] at h; exact h))
    exact free_some (T := T) (N - 1) (c.no a.2) f1 h3 (by omega)
  termination_by N => N
  decreasing_by omega
def cntT (N : Nat) (T : Nat → Bool) : Nat := ((List.range N).filter T).length
omit ok in
theorem cnt_all {N : Nat} {T : Nat → Bool} (h : cntT N T = N) : ∀ i, i < N → T i = true := by
  intro i hi
  have h1 : (List.range N).filter T = List.range N := by
    refine List.filter_eq_self.2 ?_
    have h2 := (List.filter_sublist (p := T) (l := List.range N)).eq_of_length (by rw [List.length_range]; exact h)
    rw [← h2]
    intro a ha; exact (List.mem_filter.1 ha).2
  have : i ∈ (List.range N).filter T := by rw [h1]; simpa using hi
  exact (List.mem_filter.1 this).2
omit ok in
theorem cnt_some {N : Nat} {T : Nat → Bool} (h : cntT N T < N) : ∃ i, i < N ∧ T i = false := by
  apply Classical.byContradiction; intro hc
  have : (List.range N).filter T = List.range N := List.filter_eq_self.2 fun a ha => by
    cases h2 : T a with
    | true => rfl
    | false => exact absurd ⟨a, by simpa using ha, h2⟩ hc
  unfold cntT at h
  rw [this, List.length_range] at h; omega
omit ok in
theorem cnt_add {T : Nat → Bool} {i : Nat} (hT : T i = false) : ∀ N, cntT N (fun j => T j || j == i) = if i < N then cntT N T + 1 else cntT N T
  | 0 => by simp [cntT]
  | N + 1 => by
    have ih := cnt_add hT N
    unfold cntT at ih ⊢
    rw [List.range_succ, List.filter_append, List.filter_append, List.length_append, List.length_append, ih]
    by_cases h1 : i < N
    · rw [if_pos h1, if_pos (by omega)]
      have : (N == i) = false := by simp; omega
      simp only [List.filter_cons, List.filter_nil, this, Bool.or_false]; omega
    · rw [if_neg h1]
      by_cases h2 : N = i
      · subst h2
        rw [if_pos (by omega)]
        simp [hT]
      · rw [if_neg (by omega)]
        have : (N == i) = false := by simp; omega
        simp only [List.filter_cons, List.filter_nil, this, Bool.or_false]
theorem ord_cnt : ∀ k, k ≤ c.G.length → cntT c.G.length (ordS c k).1 = k ∧ (ordS c k).2.length = k
  | 0, _ => by constructor <;> simp [cntT, ordS]
  | k + 1, hk => by
    obtain ⟨h1, h2⟩ := ord_cnt k (by omega)
    obtain ⟨i, hi, hT⟩ := cnt_some (T := (ordS c k).1) (N := c.G.length) (by omega)
    obtain ⟨j, hj, hf⟩ := free_some ok (T := (ordS c k).1) _ i hi hT (Nat.le_refl _)
    have hn : 0 ≤ nextG c (ordS c k).1 := by
      apply Classical.byContradiction; intro hc
      exact next_neg (by omega) hj hf
    have ha := next_at hn
    have hl := next_lt c (ordS c k).1
    refine ⟨?_, by simp [ordS, h2]⟩
    simp only [ordS]
    rw [cnt_add ha.1, if_pos (by omega), h1]
theorem ord_next {k : Nat} (hk : k < c.G.length) : 0 ≤ nextG c (ordS c k).1 := by
  obtain ⟨i, hi, hT⟩ := cnt_some (T := (ordS c k).1) (N := c.G.length) (by rw [(ord_cnt ok k (by omega)).1]; exact hk)
  obtain ⟨j, hj, hf⟩ := free_some ok (T := (ordS c k).1) _ i hi hT (Nat.le_refl _)
  apply Classical.byContradiction; intro hc
  exact next_neg (by omega) hj hf
theorem ord_end : nextG c (ordS c c.G.length).1 = -1 := next_none fun i hi hf => by
  have := cnt_all (ord_cnt ok _ (Nat.le_refl _)).1 i hi
  rw [hf.1] at this; cases this
end
def ordL (c : Cn) (k : Nat) : List (List Int) := (ordS c k).2.map fun i => c.G.getD i []
theorem ordL_succ (c : Cn) (k : Nat) : ordL c (k + 1) = ordL c k ++ [c.G.getD (nextG c (ordS c k).1).toNat []] := by simp [ordL, ordS]
theorem ordL_len {c : Cn} (ok : CnOk c) {k : Nat} (hk : k ≤ c.G.length) : (ordL c k).length = k := by unfold ordL; rw [List.length_map, (ord_cnt ok k hk).2]
end Go.Proofs.Ytfnghkmchlfooaa
namespace Go.Proofs.Ytfnghkmchlfooaa
open Go Go.Lft
set_option linter.unusedSimpArgs false
set_option linter.unusedVariables false
attribute [local congr] ob_congr bw_congr ib_congr ck_congr iwA_congr itA_congr aw_congr awp_congr sqA_congr bkA_congr vr_congr gd_congr

theorem no_get {c : Cn} (ok : CnOk c) {x : Int} (h0 : 0 ≤ x) (h1 : x < c.n) : c.of.getD x.toNat 0 = (c.no x : Int) := by
  rw [of_get h0 h1, (no_lt ok h0 h1).2.2]
/-- What the closure sees. -/
def ordC (c : Cn) (T : Nat → Bool) : List A := [.fp false [.fs true (rows true c.G)], .fp false [.fs false (bools (tab c.G.length T))], .fp false [.v (.int .i64 c.n), .fs true (pairs c.l)], .fp false [.fs true (ints c.of)]]
theorem order1_vr {c : Cn} (ok : CnOk c) (T : Nat → Bool) : VR P false n_control_Order_1 (ordC c T) [] (isR (.v (.int .i64 (nextG c T)))) := by
  refine vr_control_Order_1 (by simp [ordC]) (.inr rfl) fun _ _ => ?_
  have g1 := ok.G1
  have l1 := ok.l1
  have n1 := ok.n1
  have tl := tab_len c.G.length T
  have ol := c.of_len
  unfold ordC
  simp (disch := ((try simp only [List.length_set, List.length_replicate, List.length_append, List.length_cons, List.length_nil]); omega)) only [aW, aX, aV, aB, aN, aL, aP, aH, aM, s_control_Order_1, v_control_Order_1]
  refine AWP.loopP g_control_Order_1_0 (fun k : Nat => k ≤ c.G.length ∧ ∀ i, i < k → ¬ freeP c T i) (fun k => [(4, .v (.int .i64 0)), (5, .v (.int .i64 k))]) (fun _ => []) (fun k => c.G.length - k) 0 ⟨by omega, fun i hi => by omega⟩ ?_ ?_
  · exact Cut.of' 0 rfl (by omega) (by simp (disch := first | omega | simp (disch := omega) only [aF, aL, aN, aM]) only [aW, aX, aV, aB, aN, aL, aP, aH, aM, aF, Int.natCast_add, Int.natCast_mul, Int.add_sub_cancel, List.length_nil, Int.cast_ofNat_Int, and_true, true_and]) (by simp (disch := first | omega | simp (disch := omega) only [aF, aL, aN, aM]) only [aW, aX, aV, aB, aN, aL, aP, aH, aM, aF, Int.natCast_add, Int.natCast_mul, Int.add_sub_cancel, List.length_nil, Int.cast_ofNat_Int, and_true, true_and])
  rintro k ⟨hk, hb⟩
  by_cases hlt : k < c.G.length
  · have tg := tab_get c.G.length T k hlt
    simp (disch := ((try simp only [List.length_set, List.length_replicate, List.length_append, List.length_cons, List.length_nil]); omega)) only [aW, aX, aV, aB, aN, aL, aP, aH, aM, tg]
    refine AWP.loopP (α := Nat) g_control_Order_1_1 (fun q => q ≤ c.l.length) (fun q => [(9, .v (.bool (!T k && (c.l.take q).all fun a => decide (c.no a.1 = k → c.no a.2 = k ∨ T (c.no a.2) = true)))), (10, .v (.int .i64 q))]) (fun _ => []) (fun q => c.l.length - q) 0 (by omega) ?_ ?_
    · simp only [List.take_zero, List.all_nil, Bool.and_true]
      exact Cut.of' 0 rfl (by omega) (by simp (disch := first | omega | simp (disch := omega) only [aF, aL, aN, aM]) only [aW, aX, aV, aB, aN, aL, aP, aH, aM, aF, Int.natCast_add, Int.natCast_mul, Int.add_sub_cancel, List.length_nil, Int.cast_ofNat_Int, and_true, true_and]) (by simp (disch := first | omega | simp (disch := omega) only [aF, aL, aN, aM]) only [aW, aX, aV, aB, aN, aL, aP, aH, aM, aF, Int.natCast_add, Int.natCast_mul, Int.add_sub_cancel, List.length_nil, Int.cast_ofNat_Int, and_true, true_and])
    rintro q hq
    by_cases hql : q < c.l.length
    · obtain ⟨⟨a1, a2⟩, a3, a4⟩ := ok.r _ (mem_get (0, 0) hql)
      have o1 := no_get ok a1 a2
      have o2 := no_get ok a3 a4
      obtain ⟨e1, _, _⟩ := no_lt ok a3 a4
      have tg2 := tab_get c.G.length T _ e1
      have hts := take_succ_get' c.l q (0, 0) hql
      have e : ((!T k && (c.l.take q).all fun a => decide (c.no a.1 = k → c.no a.2 = k ∨ T (c.no a.2) = true)) && (decide ((c.no (c.l.getD q (0, 0)).1 : Int) ≠ k ∨ (c.no (c.l.getD q (0, 0)).2 : Int) = k) || T (c.no (c.l.getD q (0, 0)).2))) = (!T k && (c.l.take (q + 1)).all fun a => decide (c.no a.1 = k → c.no a.2 = k ∨ T (c.no a.2) = true)) := by
        rw [hts, List.all_append, Bool.and_assoc]
        congr 2
        simp only [List.all_cons, List.all_nil, Bool.and_true]
        cases hT : T (c.no (c.l.getD q (0, 0)).2) with
        | true => simp
        | false =>
          simp only [Bool.or_false]
          refine decide_eq_decide.2 ?_
          simp only [Bool.false_eq_true, or_false]
          omega
      simp (disch := ((try simp only [List.length_set, List.length_replicate, List.length_append, List.length_cons, List.length_nil]); omega)) only [aW, aX, aV, aB, aN, aL, aP, aH, aM, o1, o2, tg2, Int.toNat_natCast]
      rw [e]
      refine ⟨q + 1, by omega, by omega, ?_⟩
      exact Cut.of' 0 rfl (by omega) (by simp (disch := first | omega | simp (disch := omega) only [aF, aL, aN, aM]) only [aW, aX, aV, aB, aN, aL, aP, aH, aM, aF, Int.natCast_add, Int.natCast_mul, Int.add_sub_cancel, List.length_nil, Int.cast_ofNat_Int, and_true, true_and]) (by simp (disch := first | omega | simp (disch := omega) only [aF, aL, aN, aM]) only [aW, aX, aV, aB, aN, aL, aP, aH, aM, aF, Int.natCast_add, Int.natCast_mul, Int.add_sub_cancel, List.length_nil, Int.cast_ofNat_Int, and_true, true_and])
    · have hqe : q = c.l.length := by omega
      subst hqe
      rw [List.take_length]
      have e : (!T k && c.l.all fun a => decide (c.no a.1 = k → c.no a.2 = k ∨ T (c.no a.2) = true)) = decide (freeP c T k) := by
        rw [Bool.eq_iff_iff]
        simp only [Bool.and_eq_true, Bool.not_eq_true', List.all_eq_true, decide_eq_true_eq]
        exact Iff.rfl
      rw [e]
      by_cases hf : freeP c T k
      · rw [next_hit hlt hb hf, decide_eq_true hf]
        simp (disch := ((try simp only [List.length_set, List.length_replicate, List.length_append, List.length_cons, List.length_nil]); omega)) only [aW, aX, aV, aB, aN, aL, aP, aH, aM, r_control_Order_1]
        exact post_v ⟨rfl, rfl⟩
      · rw [decide_eq_false hf]
        simp (disch := ((try simp only [List.length_set, List.length_replicate, List.length_append, List.length_cons, List.length_nil]); omega)) only [aW, aX, aV, aB, aN, aL, aP, aH, aM]
        refine ⟨k + 1, ⟨by omega, fun i hi => ?_⟩, by omega, ?_⟩
        · rcases Nat.lt_succ_iff_lt_or_eq.1 hi with h | rfl
          · exact hb i h
          · exact hf
        · exact Cut.of' 0 rfl (by omega) (by simp (disch := first | omega | simp (disch := omega) only [aF, aL, aN, aM]) only [aW, aX, aV, aB, aN, aL, aP, aH, aM, aF, Int.natCast_add, Int.natCast_mul, Int.add_sub_cancel, List.length_nil, Int.cast_ofNat_Int, and_true, true_and]) (by simp (disch := first | omega | simp (disch := omega) only [aF, aL, aN, aM]) only [aW, aX, aV, aB, aN, aL, aP, aH, aM, aF, Int.natCast_add, Int.natCast_mul, Int.add_sub_cancel, List.length_nil, Int.cast_ofNat_Int, and_true, true_and])
  · have hke : k = c.G.length := by omega
    subst hke
    rw [next_none hb]
    simp (disch := ((try simp only [List.length_set, List.length_replicate, List.length_append, List.length_cons, List.length_nil]); omega)) only [aW, aX, aV, aB, aN, aL, aP, aH, aM, r_control_Order_1]
    exact post_v ⟨rfl, rfl⟩

def ordT (x : List (List Int) × Int) : A := .tup [.fs true (rows true x.1), .v (.int .i64 x.2)]
theorem tab_setB (N : Nat) (D : Nat → Bool) (k : Nat) (h : k < N) : (tab N D).set k true = tab N fun j => D j || j == k := tab_set N D k h
theorem controlOrder_ok {w v : Bool} {p : Pl} (h : pcheck p = 0) : VR P false n_control_Order [plA w v p] [] (isR (ordT (ordL (cnP p) (cnP p).G.length, 0))) := by
  refine vr_control_Order (by simp) (.inr rfl) fun _ _ => ?_
  have hv := controlGroups_ok (w := w) (v := v) h
  have ok := cn_ok h
  have n1 := ok.n1
  have g1 := ok.G1
  unfold ordT
  unfold plA plC at hv ⊢
  generalize cnP p = c at *
  have hord := fun T => order1_vr ok T
  unfold ordC at hord
  simp (disch := ((try simp only [List.length_set, List.length_replicate, List.length_append, List.length_cons, List.length_nil]); omega)) only [aW, aX, aV, aB, aN, aL, aP, aH, aM, s_control_Order, v_control_Order]
  refine hv.same (by simp (disch := first | omega | simp (disch := omega) only [aF, aL, aN, aM]) only [aW, aX, aV, aB, aN, aL, aP, aH, aM, aF, Int.natCast_add, Int.natCast_mul, Int.add_sub_cancel, List.length_nil, Int.cast_ofNat_Int, and_true, true_and]) (by simp (disch := first | omega | simp (disch := omega) only [aF, aL, aN, aM]) only [aW, aX, aV, aB, aN, aL, aP, aH, aM, aF, Int.natCast_add, Int.natCast_mul, Int.add_sub_cancel, List.length_nil, Int.cast_ofNat_Int, and_true, true_and]) (aret_of ?_)
  simp (disch := ((try simp only [List.length_set, List.length_replicate, List.length_append, List.length_cons, List.length_nil]); omega)) only [aW, aX, aV, aB, aN, aL, aP, aH, aM, Int.toNat_natCast]
  rw [tab_rep]
  have T0 : (fun _ : Nat => false) = (ordS c 0).1 := rfl
  rw [T0]
  refine ⟨by kernel_rfl, ?_⟩
  refine (hord (ordS c 0).1).use ⟨Ld.lp (o := 0) rfl (LdL.refl (by simp (disch := first | omega | simp (disch := omega) only [aF, aL, aN, aM]) only [aW, aX, aV, aB, aN, aL, aP, aH, aM, aF, Int.natCast_add, Int.natCast_mul, Int.add_sub_cancel, List.length_nil, Int.cast_ofNat_Int, and_true, true_and])) (by simp), Ld.lp (o := 0) (r := [.fs false (bools (tab c.G.length (ordS c 0).1))]) rfl ⟨ld_slB _ 4 0 _ _ (tab_len _ _).symm rfl, trivial⟩ (by simp), Ld.lp (o := 0) rfl (LdL.refl (by simp (disch := first | omega | simp (disch := omega) only [aF, aL, aN, aM]) only [aW, aX, aV, aB, aN, aL, aP, aH, aM, aF, Int.natCast_add, Int.natCast_mul, Int.add_sub_cancel, List.length_nil, Int.cast_ofNat_Int, and_true, true_and])) (by simp), Ld.lp (o := 0) rfl (LdL.refl (by simp (disch := first | omega | simp (disch := omega) only [aF, aL, aN, aM]) only [aW, aX, aV, aB, aN, aL, aP, aH, aM, aF, Int.natCast_add, Int.natCast_mul, Int.add_sub_cancel, List.length_nil, Int.cast_ofNat_Int, and_true, true_and])) (by simp), trivial⟩ rfl (aret_of ?_)
  simp (disch := ((try simp only [List.length_set, List.length_replicate, List.length_append, List.length_cons, List.length_nil]); omega)) only [aW, aX, aV, aB, aN, aL, aP, aH, aM]
  refine AWP.cut (Cut.virt 10 1 rfl) ?_
  refine AWP.loopP (α := Nat × Nat) g_control_Order_0 (fun q => q.1 ≤ c.G.length) (fun q => [(10, .vs 6 q.2 1 q.1), (11, .v (.int .i64 (nextG c (ordS c q.1).1)))]) (fun q => [(4, ⟨0, bools (tab c.G.length (ordS c q.1).1)⟩), (6, ⟨q.2, rows true (ordL c q.1)⟩)]) (fun q => c.G.length - q.1) (0, 0) (by simp) ?_ ?_
  · have e0 : rows true (ordL c 0) = [] := rfl
    simp (disch := ((try simp only [List.length_set, List.length_replicate, List.length_append, List.length_cons, List.length_nil]); omega)) only [aW, aX, aV, aB, aN, aL, aP, aH, aM, e0]
    exact Cut.of' 7 rfl (by omega) (by simp (disch := first | omega | simp (disch := omega) only [aF, aL, aN, aM]) only [aW, aX, aV, aB, aN, aL, aP, aH, aM, aF, Int.natCast_add, Int.natCast_mul, Int.add_sub_cancel, List.length_nil, Int.cast_ofNat_Int, and_true, true_and]) (by simp (disch := first | omega | simp (disch := omega) only [aF, aL, aN, aM]) only [aW, aX, aV, aB, aN, aL, aP, aH, aM, aF, Int.natCast_add, Int.natCast_mul, Int.add_sub_cancel, List.length_nil, Int.cast_ofNat_Int, and_true, true_and])
  rintro ⟨k, ver⟩ hk
  simp only at hk
  have ll := ordL_len ok hk
  have tl := tab_len c.G.length (ordS c k).1
  have nl := next_lt c (ordS c k).1
  by_cases hlt : k < c.G.length
  · have hn := ord_next ok hlt
    have e1 := ordL_succ c k
    have e2 : (tab c.G.length (ordS c k).1).set (nextG c (ordS c k).1).toNat true = tab c.G.length (ordS c (k + 1)).1 := tab_setB _ _ _ (by omega)
    have e3 : (rows true (ordL c k)).take k = rows true (ordL c k) := List.take_of_length_le (by rw [r_len]; omega)
    have ho := hord (ordS c (k + 1)).1
    simp (disch := ((try simp only [List.length_set, List.length_replicate, List.length_append, List.length_cons, List.length_nil]); omega)) only [aW, aX, aV, aB, aN, aL, aP, aH, aM, e2, e3, ← e1]
    refine ⟨by kernel_rfl, ?_⟩
    refine ho.use ⟨Ld.lp (o := 0) rfl (LdL.refl (by simp (disch := first | omega | simp (disch := omega) only [aF, aL, aN, aM]) only [aW, aX, aV, aB, aN, aL, aP, aH, aM, aF, Int.natCast_add, Int.natCast_mul, Int.add_sub_cancel, List.length_nil, Int.cast_ofNat_Int, and_true, true_and])) (by simp), Ld.lp (o := 0) (r := [.fs false (bools (tab c.G.length (ordS c (k + 1)).1))]) rfl ⟨ld_slB _ 4 0 _ _ (tab_len _ _).symm rfl, trivial⟩ (by simp), Ld.lp (o := 0) rfl (LdL.refl (by simp (disch := first | omega | simp (disch := omega) only [aF, aL, aN, aM]) only [aW, aX, aV, aB, aN, aL, aP, aH, aM, aF, Int.natCast_add, Int.natCast_mul, Int.add_sub_cancel, List.length_nil, Int.cast_ofNat_Int, and_true, true_and])) (by simp), Ld.lp (o := 0) rfl (LdL.refl (by simp (disch := first | omega | simp (disch := omega) only [aF, aL, aN, aM]) only [aW, aX, aV, aB, aN, aL, aP, aH, aM, aF, Int.natCast_add, Int.natCast_mul, Int.add_sub_cancel, List.length_nil, Int.cast_ofNat_Int, and_true, true_and])) (by simp), trivial⟩ rfl (aret_of ?_)
    simp (disch := ((try simp only [List.length_set, List.length_replicate, List.length_append, List.length_cons, List.length_nil]); omega)) only [aW, aX, aV, aB, aN, aL, aP, aH, aM]
    refine ⟨(k + 1, ver + 1), by simp only; omega, by simp only; omega, ?_⟩
    simp only
    exact Cut.of' 7 rfl (by omega) (by simp (disch := first | omega | simp (disch := omega) only [aF, aL, aN, aM]) only [aW, aX, aV, aB, aN, aL, aP, aH, aM, aF, Int.natCast_add, Int.natCast_mul, Int.add_sub_cancel, List.length_nil, Int.cast_ofNat_Int, and_true, true_and]) (by simp (disch := first | omega | simp (disch := omega) only [aF, aL, aN, aM]) only [aW, aX, aV, aB, aN, aL, aP, aH, aM, aF, Int.natCast_add, Int.natCast_mul, Int.add_sub_cancel, List.length_nil, Int.cast_ofNat_Int, and_true, true_and])
  · have hke : k = c.G.length := by omega
    subst hke
    rw [ord_end ok]
    simp (disch := ((try simp only [List.length_set, List.length_replicate, List.length_append, List.length_cons, List.length_nil]); omega)) only [aW, aX, aV, aB, aN, aL, aP, aH, aM, r_control_Order]
    exact post0 (r := .tup [.fs true (rows true (ordL c c.G.length)), .v (.int .i64 0)]) (Fz.tup ⟨fz_vsR 0 _ 6 ver _ _ (by omega) ll.symm (by simp [blkAt]), Fz.refl rfl, trivial⟩) ⟨rfl, rfl⟩

end Go.Proofs.Ytfnghkmchlfooaa
namespace Go.Proofs.Ytfnghkmchlfooaa
open Go Go.Lft
set_option linter.unusedSimpArgs false
set_option linter.unusedVariables false

section
variable {c : Cn} (ok : CnOk c)
include ok
end

/-! ### Clearing all jams, and starting all -/
section
variable {c : Cn} (ok : CnOk c)
include ok
end
end Go.Proofs.Ytfnghkmchlfooaa
namespace Go.Proofs.Ytfnghkmchlfooaa
open Go Go.Lft
set_option linter.unusedSimpArgs false
set_option linter.unusedVariables false

end Go.Proofs.Ytfnghkmchlfooaa
namespace Go.Proofs.Ytfnghkmchlfooaa
open Go Go.Lft
set_option linter.unusedSimpArgs false
set_option linter.unusedVariables false

def tyAct : Ty := (.st [(.int .i64), (.int .i64)])
theorem tyAct_is : tyAct.Is Try.prog 41 := by
  unfold tyAct
  simp only [Ty.Is]
  refine ⟨_, Try.underlying41, by kernel_rfl, ?_⟩
  simp only [Ty.IsL, Ty.Is]
  refine ⟨by first | rfl | trivial, by kernel_rfl, ?_, ?_⟩
  ·
    exact Try.underlying3
  refine ⟨by first | rfl | trivial, by kernel_rfl, ?_, ?_⟩
  ·
    exact Try.underlying3
  trivial
theorem act_of {es : List A} (h : tyAct.Sh true es) : ∃ a : Int × Int, tyAct.pk es = pairA a := by
  unfold tyAct at h ⊢
  simp only [Ty.Sh, Ty.ShL] at h
  obtain ⟨_, _, rfl, ⟨y, rfl, hy⟩, _, _, rfl, ⟨z, rfl, hz⟩, rfl⟩ := h
  exact ⟨(y, z), rfl⟩
end Go.Proofs.Ytfnghkmchlfooaa
namespace Go.Proofs.Ytfnghkmchlfooaa
open Go Go.Lft
set_option linter.unusedSimpArgs false
set_option linter.unusedVariables false
attribute [local congr] ob_congr bw_congr ib_congr ck_congr iwA_congr itA_congr aw_congr awp_congr sqA_congr bkA_congr vr_congr gd_congr

def exC : Pl := ⟨1, [[[600, 400]], [[600, 400]], [[]], [[]]], [⟨0, 0, 1, 1⟩, ⟨0, 1, 2, 1⟩, ⟨1, 0, 0, 1⟩, ⟨1, 1, 3, 1⟩], 0⟩
theorem example36_vr : VR P false n_law36_example [] [] (isR (plA true true exC)) := by
  refine vr_law36_example (by simp) (.inr rfl) fun _ _ => ?_
  simp (disch := ((try simp only [List.length_set, List.length_replicate, List.length_append, List.length_cons, List.length_nil]); omega)) only [aW, aX, aV, aB, aN, aL, aP, aH, aM, s_law36_example, v_law36_example, r_law36_example]
  refine post0 (fz_all ?_) ⟨rfl, rfl⟩
  simp [frzL_nil, frzL_cons, fzp_any, fzp_nil, fzp_v, fzp_agg, fzp_tup, fzp_fn, fzp_fs, fzp_fp, fzp_sl, fzp_vs, fzp_lp, ldp_any, ldp_nil, ldp_v, ldp_agg, ldp_fn, ldp_fs, ldp_fp, ldp_sl, ldp_vs, ldp_lp, blkAt, flatA, A.cells, A.one, Lft.one, retA, A.bdL, A.bd, exC, plA, plC, mcs, mcA, mcC, bts, btA, btC, rows, ints]
theorem new_sh (n : Nat) (e : Value) : (A.tup [.lp 3 0 0, .v e]).sh n = .tup [.lp (n + 3) 0 0, .v e] := rfl

theorem awake36_vr : VR P false n_law36_awake [] [] (isR (.v (.bool true))) := by
  refine vr_law36_awake (by simp) (.inr rfl) fun _ _ => ?_
  have h0 : pcheck exC = 0 := by decide +kernel
  have ok := cn_ok h0
  have a1 : ordL (cnP exC) (cnP exC).G.length = [[2], [3], [0, 1]] := by decide +kernel
  have b1 := controlOrder_ok (w := true) (v := true) h0
  rw [a1] at b1
  have b2 := controlNew_ok (w := true) (v := true) h0
  have b3 := refLists_vr (w := true) (v := false) (w' := true) (v' := false) [[2], [3], [0, 1]] [[2], [3], [0, 1]] (by decide) (by decide)
  rw [decide_eq_true rfl] at b3
  have hn : (cnP exC).n = 4 := rfl
  have e0 : List.replicate (cnP exC).n (0 : Int) = [0, 0, 0, 0] := rfl
  have c1 : startR (cnP exC) [0, 0, 0, 0] 0 = (13, [0, 0, 0, 0]) := by decide +kernel
  have c2 : startR (cnP exC) [0, 0, 0, 0] 2 = (0, [0, 0, 1, 0]) := by decide +kernel
  have c3 : startR (cnP exC) [0, 0, 1, 0] 3 = (0, [0, 0, 1, 1]) := by decide +kernel
  have c4 : startR (cnP exC) [0, 0, 1, 1] 1 = (0, [1, 1, 1, 1]) := by decide +kernel
  have c5 : jamR (cnP exC) [1, 1, 1, 1] 2 = (0, [0, 0, 2, 1]) := by decide +kernel
  have c6 : startR (cnP exC) [0, 0, 2, 1] 2 = (24, [0, 0, 2, 1]) := by decide +kernel
  have c7 : stateR (cnP exC) [0, 0, 2, 1] 2 = (2, 0) := by decide +kernel
  have c8 : stateR (cnP exC) [0, 0, 2, 1] 0 = (0, 0) := by decide +kernel
  have c9 : stateR (cnP exC) [0, 0, 2, 1] 3 = (1, 0) := by decide +kernel
  have c10 : clearR (cnP exC) [0, 0, 2, 1] 2 = (0, [0, 0, 0, 1]) := by decide +kernel
  have c11 : safeP (cnP exC) [0, 0, 0, 1] := by decide +kernel
  rw [e0] at b2
  unfold ordT at b1
  generalize hcc : cnP exC = c at *
  have hex := example36_vr
  generalize exC = p at *
  unfold plA plC at b1 b2 hex
  have ps : ∀ (st : List Int) (T : List Blk), st.length = 4 → PS ([⟨0, [.any, .any, .any, .any]⟩, ⟨0, [.any, .any]⟩, ⟨0, ints st⟩, ⟨0, panC c 2⟩] ++ T) 3 2 c st := fun st T h => ⟨by simp [blkAt], by simp [blkAt], by decide, by omega⟩
  have ps0 : ∀ (st : List Int), st.length = 4 → PS [⟨0, [.any, .any, .any, .any]⟩, ⟨0, [.any, .any]⟩, ⟨0, ints st⟩, ⟨0, panC c 2⟩] 3 2 c st := fun st h => ps st [] h
  simp (disch := ((try simp only [List.length_set, List.length_replicate, List.length_append, List.length_cons, List.length_nil]); omega)) only [aW, aX, aV, aB, aN, aL, aP, aH, aM, s_law36_awake, v_law36_awake]
  refine hex.same (by simp (disch := first | omega | simp (disch := omega) only [aF, aL, aN, aM]) only [aW, aX, aV, aB, aN, aL, aP, aH, aM, aF, Int.natCast_add, Int.natCast_mul, Int.add_sub_cancel, List.length_nil, Int.cast_ofNat_Int, and_true, true_and]) (by simp (disch := first | omega | simp (disch := omega) only [aF, aL, aN, aM]) only [aW, aX, aV, aB, aN, aL, aP, aH, aM, aF, Int.natCast_add, Int.natCast_mul, Int.add_sub_cancel, List.length_nil, Int.cast_ofNat_Int, and_true, true_and]) (aret_of ?_)
  simp (disch := ((try simp only [List.length_set, List.length_replicate, List.length_append, List.length_cons, List.length_nil]); omega)) only [aW, aX, aV, aB, aN, aL, aP, aH, aM]
  refine b1.same (by simp (disch := first | omega | simp (disch := omega) only [aF, aL, aN, aM]) only [aW, aX, aV, aB, aN, aL, aP, aH, aM, aF, Int.natCast_add, Int.natCast_mul, Int.add_sub_cancel, List.length_nil, Int.cast_ofNat_Int, and_true, true_and]) (by simp (disch := first | omega | simp (disch := omega) only [aF, aL, aN, aM]) only [aW, aX, aV, aB, aN, aL, aP, aH, aM, aF, Int.natCast_add, Int.natCast_mul, Int.add_sub_cancel, List.length_nil, Int.cast_ofNat_Int, and_true, true_and]) (aret_of ?_)
  simp (disch := ((try simp only [List.length_set, List.length_replicate, List.length_append, List.length_cons, List.length_nil]); omega)) only [aW, aX, aV, aB, aN, aL, aP, aH, aM]
  refine hex.same (by simp (disch := first | omega | simp (disch := omega) only [aF, aL, aN, aM]) only [aW, aX, aV, aB, aN, aL, aP, aH, aM, aF, Int.natCast_add, Int.natCast_mul, Int.add_sub_cancel, List.length_nil, Int.cast_ofNat_Int, and_true, true_and]) (by simp (disch := first | omega | simp (disch := omega) only [aF, aL, aN, aM]) only [aW, aX, aV, aB, aN, aL, aP, aH, aM, aF, Int.natCast_add, Int.natCast_mul, Int.add_sub_cancel, List.length_nil, Int.cast_ofNat_Int, and_true, true_and]) (aret_of ?_)
  simp (disch := ((try simp only [List.length_set, List.length_replicate, List.length_append, List.length_cons, List.length_nil]); omega)) only [aW, aX, aV, aB, aN, aL, aP, aH, aM]
  refine b2.useO (LdL.refl (by simp (disch := first | omega | simp (disch := omega) only [aF, aL, aN, aM]) only [aW, aX, aV, aB, aN, aL, aP, aH, aM, aF, Int.natCast_add, Int.natCast_mul, Int.add_sub_cancel, List.length_nil, Int.cast_ofNat_Int, and_true, true_and])) (by rw [panG_cl]; rfl) (aret_of ?_)
  rw [panG_sh, new_sh]
  simp (disch := ((try simp only [List.length_set, List.length_replicate, List.length_append, List.length_cons, List.length_nil]); omega)) only [aW, aX, aV, aB, aN, aL, aP, aH, aM]
  refine (start_ps ok (ps0 [0, 0, 0, 0] rfl) 0).mono ?_
  rintro r H' ⟨rfl, hH⟩
  rw [hH, c1]
  refine aret_of ?_
  simp (disch := ((try simp only [List.length_set, List.length_replicate, List.length_append, List.length_cons, List.length_nil]); omega)) only [aW, aX, aV, aB, aN, aL, aP, aH, aM]
  refine (start_ps ok (ps0 [0, 0, 0, 0] rfl) 2).mono ?_
  rintro r H' ⟨rfl, hH⟩
  rw [hH, c2]
  refine aret_of ?_
  simp (disch := ((try simp only [List.length_set, List.length_replicate, List.length_append, List.length_cons, List.length_nil]); omega)) only [aW, aX, aV, aB, aN, aL, aP, aH, aM]
  refine (start_ps ok (ps0 [0, 0, 1, 0] rfl) 3).mono ?_
  rintro r H' ⟨rfl, hH⟩
  rw [hH, c3]
  refine aret_of ?_
  simp (disch := ((try simp only [List.length_set, List.length_replicate, List.length_append, List.length_cons, List.length_nil]); omega)) only [aW, aX, aV, aB, aN, aL, aP, aH, aM]
  refine (start_ps ok (ps0 [0, 0, 1, 1] rfl) 1).mono ?_
  rintro r H' ⟨rfl, hH⟩
  rw [hH, c4]
  refine aret_of ?_
  simp (disch := ((try simp only [List.length_set, List.length_replicate, List.length_append, List.length_cons, List.length_nil]); omega)) only [aW, aX, aV, aB, aN, aL, aP, aH, aM]
  refine (jam_ps ok (ps0 [1, 1, 1, 1] rfl) 2).mono ?_
  rintro r H' ⟨rfl, hH⟩
  rw [hH, c5]
  refine aret_of ?_
  simp (disch := ((try simp only [List.length_set, List.length_replicate, List.length_append, List.length_cons, List.length_nil]); omega)) only [aW, aX, aV, aB, aN, aL, aP, aH, aM]
  refine (start_ps ok (ps0 [0, 0, 2, 1] rfl) 2).mono ?_
  rintro r H' ⟨rfl, hH⟩
  rw [hH, c6]
  refine aret_of ?_
  simp (disch := ((try simp only [List.length_set, List.length_replicate, List.length_append, List.length_cons, List.length_nil]); omega)) only [aW, aX, aV, aB, aN, aL, aP, aH, aM]
  refine (state_ps (ps0 [0, 0, 2, 1] rfl) 2).mono ?_
  rintro r H' ⟨rfl, hH⟩
  rw [hH, c7]
  refine aret_of ?_
  simp (disch := ((try simp only [List.length_set, List.length_replicate, List.length_append, List.length_cons, List.length_nil]); omega)) only [aW, aX, aV, aB, aN, aL, aP, aH, aM]
  refine (state_ps (ps0 [0, 0, 2, 1] rfl) 0).mono ?_
  rintro r H' ⟨rfl, hH⟩
  rw [hH, c8]
  refine aret_of ?_
  simp (disch := ((try simp only [List.length_set, List.length_replicate, List.length_append, List.length_cons, List.length_nil]); omega)) only [aW, aX, aV, aB, aN, aL, aP, aH, aM]
  refine (state_ps (ps0 [0, 0, 2, 1] rfl) 3).mono ?_
  rintro r H' ⟨rfl, hH⟩
  rw [hH, c9]
  refine aret_of ?_
  simp (disch := ((try simp only [List.length_set, List.length_replicate, List.length_append, List.length_cons, List.length_nil]); omega)) only [aW, aX, aV, aB, aN, aL, aP, aH, aM]
  refine b3.use ⟨Ld.refl (by simp (disch := first | omega | simp (disch := omega) only [aF, aL, aN, aM]) only [aW, aX, aV, aB, aN, aL, aP, aH, aM, aF, Int.natCast_add, Int.natCast_mul, Int.add_sub_cancel, List.length_nil, Int.cast_ofNat_Int, and_true, true_and]), (ld_all (l := [_]) (r := [_]) (by simp [frzL_nil, frzL_cons, fzp_any, fzp_nil, fzp_v, fzp_agg, fzp_tup, fzp_fn, fzp_fs, fzp_fp, fzp_sl, fzp_vs, fzp_lp, ldp_any, ldp_nil, ldp_v, ldp_agg, ldp_fn, ldp_fs, ldp_fp, ldp_sl, ldp_vs, ldp_lp, blkAt, flatA, A.cells, A.one, Lft.one, retA, A.bdL, A.bd, rows, ints])).1, trivial⟩ rfl (aret_of ?_)
  simp (disch := ((try simp only [List.length_set, List.length_replicate, List.length_append, List.length_cons, List.length_nil]); omega)) only [aW, aX, aV, aB, aN, aL, aP, aH, aM]
  refine (clear_ps (ps [0, 0, 2, 1] _ rfl) 2).mono ?_
  rintro r H' ⟨rfl, hH⟩
  rw [hH, c10]
  refine aret_of ?_
  simp (disch := ((try simp only [List.length_set, List.length_replicate, List.length_append, List.length_cons, List.length_nil]); omega)) only [aW, aX, aV, aB, aN, aL, aP, aH, aM]
  refine (safe_ps ok (ps [0, 0, 0, 1] _ rfl)).mono ?_
  rintro r H' ⟨rfl, hH⟩
  rw [hH, decide_eq_true c11]
  refine aret_of ?_
  simp (disch := ((try simp only [List.length_set, List.length_replicate, List.length_append, List.length_cons, List.length_nil]); omega)) only [aW, aX, aV, aB, aN, aL, aP, aH, aM, r_law36_awake]
  exact post_v ⟨rfl, rfl⟩

end Go.Proofs.Ytfnghkmchlfooaa
namespace Go.Proofs.Ytfnghkmchlfooaa
open Go Go.Lft
set_option linter.unusedSimpArgs false
set_option linter.unusedVariables false
attribute [local congr] ob_congr bw_congr ib_congr ck_congr iwA_congr itA_congr aw_congr awp_congr sqA_congr bkA_congr vr_congr gd_congr

end Go.Proofs.Ytfnghkmchlfooaa
namespace Go.Proofs.Ytfnghkmchlfooaa
open Go Go.Lft
set_option linter.unusedSimpArgs false
set_option linter.unusedVariables false
attribute [local congr] ob_congr bw_congr ib_congr ck_congr iwA_congr itA_congr aw_congr awp_congr sqA_congr bkA_congr vr_congr gd_congr

/-! ### A nil panel -/
theorem startNil_vr {kp : Bool} {H : List Blk} {m : Int} (hf : VR P false n_control_Panel_find [.v (.pointer none), .v (.int .i64 m)] [] (isR (.v (.int .i64 14)))) : VR P false n_control_Panel_Start [.v (.pointer none), .v (.int .i64 m)] [] (isR (.v (.int .i64 14))) := by
  refine vr_control_Panel_Start (by simp) (.inr rfl) fun _ _ => ?_
  simp (disch := ((try simp only [List.length_set, List.length_replicate, List.length_append, List.length_cons, List.length_nil]); omega)) only [aW, aX, aV, aB, aN, aL, aP, aH, aM, s_control_Panel_Start, v_control_Panel_Start]
  refine hf.same (by simp (disch := first | omega | simp (disch := omega) only [aF, aL, aN, aM]) only [aW, aX, aV, aB, aN, aL, aP, aH, aM, aF, Int.natCast_add, Int.natCast_mul, Int.add_sub_cancel, List.length_nil, Int.cast_ofNat_Int, and_true, true_and]) rfl (aret_of ?_)
  simp (disch := ((try simp only [List.length_set, List.length_replicate, List.length_append, List.length_cons, List.length_nil]); omega)) only [aW, aX, aV, aB, aN, aL, aP, aH, aM, r_control_Panel_Start]
  exact post_v ⟨rfl, rfl⟩

theorem stopNil_vr {kp : Bool} {H : List Blk} {m : Int} (hf : VR P false n_control_Panel_find [.v (.pointer none), .v (.int .i64 m)] [] (isR (.v (.int .i64 14)))) : VR P false n_control_Panel_Stop [.v (.pointer none), .v (.int .i64 m)] [] (isR (.v (.int .i64 14))) := by
  refine vr_control_Panel_Stop (by simp) (.inr rfl) fun _ _ => ?_
  simp (disch := ((try simp only [List.length_set, List.length_replicate, List.length_append, List.length_cons, List.length_nil]); omega)) only [aW, aX, aV, aB, aN, aL, aP, aH, aM, s_control_Panel_Stop, v_control_Panel_Stop]
  refine hf.same (by simp (disch := first | omega | simp (disch := omega) only [aF, aL, aN, aM]) only [aW, aX, aV, aB, aN, aL, aP, aH, aM, aF, Int.natCast_add, Int.natCast_mul, Int.add_sub_cancel, List.length_nil, Int.cast_ofNat_Int, and_true, true_and]) rfl (aret_of ?_)
  simp (disch := ((try simp only [List.length_set, List.length_replicate, List.length_append, List.length_cons, List.length_nil]); omega)) only [aW, aX, aV, aB, aN, aL, aP, aH, aM, r_control_Panel_Stop]
  exact post_v ⟨rfl, rfl⟩

theorem clearNil_vr {kp : Bool} {H : List Blk} {m : Int} (hf : VR P false n_control_Panel_find [.v (.pointer none), .v (.int .i64 m)] [] (isR (.v (.int .i64 14)))) : VR P false n_control_Panel_Clear [.v (.pointer none), .v (.int .i64 m)] [] (isR (.v (.int .i64 14))) := by
  refine vr_control_Panel_Clear (by simp) (.inr rfl) fun _ _ => ?_
  simp (disch := ((try simp only [List.length_set, List.length_replicate, List.length_append, List.length_cons, List.length_nil]); omega)) only [aW, aX, aV, aB, aN, aL, aP, aH, aM, s_control_Panel_Clear, v_control_Panel_Clear]
  refine hf.same (by simp (disch := first | omega | simp (disch := omega) only [aF, aL, aN, aM]) only [aW, aX, aV, aB, aN, aL, aP, aH, aM, aF, Int.natCast_add, Int.natCast_mul, Int.add_sub_cancel, List.length_nil, Int.cast_ofNat_Int, and_true, true_and]) rfl (aret_of ?_)
  simp (disch := ((try simp only [List.length_set, List.length_replicate, List.length_append, List.length_cons, List.length_nil]); omega)) only [aW, aX, aV, aB, aN, aL, aP, aH, aM, r_control_Panel_Clear]
  exact post_v ⟨rfl, rfl⟩
theorem controlNil_vr (a : Int × Int) : VR P false n_law36_ControlNil [pairA a] [] (isR (.v (.bool true))) := by
  have hf : ∀ m, VR P false n_control_Panel_find [.v (.pointer none), .v (.int .i64 m)] [] (isR (.v (.int .i64 14))) := fun m => by
    refine vr_control_Panel_find (by simp) (.inr rfl) fun _ _ => ?_
    simp (disch := ((try simp only [List.length_set, List.length_replicate, List.length_append, List.length_cons, List.length_nil]); omega)) only [aW, aX, aV, aB, aN, aL, aP, aH, aM, s_control_Panel_find, v_control_Panel_find, r_control_Panel_find]
    exact post_v ⟨rfl, rfl⟩
  have hs : ∀ m, VR P false n_control_Panel_State [.v (.pointer none), .v (.int .i64 m)] [] (isR (.tup [.v (.int .i64 0), .v (.int .i64 14)])) := fun m => by
    refine vr_control_Panel_State (by simp) (.inr rfl) fun _ _ => ?_
    simp (disch := ((try simp only [List.length_set, List.length_replicate, List.length_append, List.length_cons, List.length_nil]); omega)) only [aW, aX, aV, aB, aN, aL, aP, aH, aM, s_control_Panel_State, v_control_Panel_State]
    refine (hf m).same (by simp (disch := first | omega | simp (disch := omega) only [aF, aL, aN, aM]) only [aW, aX, aV, aB, aN, aL, aP, aH, aM, aF, Int.natCast_add, Int.natCast_mul, Int.add_sub_cancel, List.length_nil, Int.cast_ofNat_Int, and_true, true_and]) rfl (aret_of ?_)
    simp (disch := ((try simp only [List.length_set, List.length_replicate, List.length_append, List.length_cons, List.length_nil]); omega)) only [aW, aX, aV, aB, aN, aL, aP, aH, aM, r_control_Panel_State]
    exact post0 (Fz.refl rfl) ⟨rfl, rfl⟩
  have hj : ∀ m, VR P false n_control_Panel_Jam [.v (.pointer none), .v (.int .i64 m)] [] (isR (.v (.int .i64 14))) := fun m => by
    refine vr_control_Panel_Jam (by simp) (.inr rfl) fun _ _ => ?_
    simp (disch := ((try simp only [List.length_set, List.length_replicate, List.length_append, List.length_cons, List.length_nil]); omega)) only [aW, aX, aV, aB, aN, aL, aP, aH, aM, s_control_Panel_Jam, v_control_Panel_Jam]
    refine (stopNil_vr (kp := false) (H := []) (hf m)).same (by simp (disch := first | omega | simp (disch := omega) only [aF, aL, aN, aM]) only [aW, aX, aV, aB, aN, aL, aP, aH, aM, aF, Int.natCast_add, Int.natCast_mul, Int.add_sub_cancel, List.length_nil, Int.cast_ofNat_Int, and_true, true_and]) rfl (aret_of ?_)
    simp (disch := ((try simp only [List.length_set, List.length_replicate, List.length_append, List.length_cons, List.length_nil]); omega)) only [aW, aX, aV, aB, aN, aL, aP, aH, aM, r_control_Panel_Jam]
    exact post_v ⟨rfl, rfl⟩
  have hsf : VR P false n_control_Panel_Safe [.v (.pointer none)] [] (isR (.v (.bool false))) := by
    refine vr_control_Panel_Safe (by simp) (.inr rfl) fun _ _ => ?_
    simp (disch := ((try simp only [List.length_set, List.length_replicate, List.length_append, List.length_cons, List.length_nil]); omega)) only [aW, aX, aV, aB, aN, aL, aP, aH, aM, s_control_Panel_Safe, v_control_Panel_Safe, r_control_Panel_Safe]
    exact post_v ⟨rfl, rfl⟩
  have hd : VR P false n_law36_do [.v (.pointer none), pairA a] [] (isR (.v (.int .i64 14))) := by
    refine vr_law36_do (by simp) (.inr rfl) fun _ _ => ?_
    unfold pairA
    by_cases h0 : a.1 = 0
    · simp (disch := ((try simp only [List.length_set, List.length_replicate, List.length_append, List.length_cons, List.length_nil]); omega)) only [aW, aX, aV, aB, aN, aL, aP, aH, aM, s_law36_do, v_law36_do, decide_eq_true h0]
      refine (startNil_vr (kp := false) (H := []) (hf a.2)).same (by simp (disch := first | omega | simp (disch := omega) only [aF, aL, aN, aM]) only [aW, aX, aV, aB, aN, aL, aP, aH, aM, aF, Int.natCast_add, Int.natCast_mul, Int.add_sub_cancel, List.length_nil, Int.cast_ofNat_Int, and_true, true_and]) rfl (aret_of ?_)
      simp (disch := ((try simp only [List.length_set, List.length_replicate, List.length_append, List.length_cons, List.length_nil]); omega)) only [aW, aX, aV, aB, aN, aL, aP, aH, aM, r_law36_do]
      exact post_v ⟨rfl, rfl⟩
    by_cases h1 : a.1 = 1
    · simp (disch := ((try simp only [List.length_set, List.length_replicate, List.length_append, List.length_cons, List.length_nil]); omega)) only [aW, aX, aV, aB, aN, aL, aP, aH, aM, s_law36_do, v_law36_do, decide_eq_false h0, decide_eq_true h1]
      refine (stopNil_vr (kp := false) (H := []) (hf a.2)).same (by simp (disch := first | omega | simp (disch := omega) only [aF, aL, aN, aM]) only [aW, aX, aV, aB, aN, aL, aP, aH, aM, aF, Int.natCast_add, Int.natCast_mul, Int.add_sub_cancel, List.length_nil, Int.cast_ofNat_Int, and_true, true_and]) rfl (aret_of ?_)
      simp (disch := ((try simp only [List.length_set, List.length_replicate, List.length_append, List.length_cons, List.length_nil]); omega)) only [aW, aX, aV, aB, aN, aL, aP, aH, aM, r_law36_do]
      exact post_v ⟨rfl, rfl⟩
    by_cases h2 : a.1 = 2
    · simp (disch := ((try simp only [List.length_set, List.length_replicate, List.length_append, List.length_cons, List.length_nil]); omega)) only [aW, aX, aV, aB, aN, aL, aP, aH, aM, s_law36_do, v_law36_do, decide_eq_false h0, decide_eq_false h1, decide_eq_true h2]
      refine (hj a.2).same (by simp (disch := first | omega | simp (disch := omega) only [aF, aL, aN, aM]) only [aW, aX, aV, aB, aN, aL, aP, aH, aM, aF, Int.natCast_add, Int.natCast_mul, Int.add_sub_cancel, List.length_nil, Int.cast_ofNat_Int, and_true, true_and]) rfl (aret_of ?_)
      simp (disch := ((try simp only [List.length_set, List.length_replicate, List.length_append, List.length_cons, List.length_nil]); omega)) only [aW, aX, aV, aB, aN, aL, aP, aH, aM, r_law36_do]
      exact post_v ⟨rfl, rfl⟩
    simp (disch := ((try simp only [List.length_set, List.length_replicate, List.length_append, List.length_cons, List.length_nil]); omega)) only [aW, aX, aV, aB, aN, aL, aP, aH, aM, s_law36_do, v_law36_do, decide_eq_false h0, decide_eq_false h1, decide_eq_false h2]
    refine (clearNil_vr (kp := false) (H := []) (hf a.2)).same (by simp (disch := first | omega | simp (disch := omega) only [aF, aL, aN, aM]) only [aW, aX, aV, aB, aN, aL, aP, aH, aM, aF, Int.natCast_add, Int.natCast_mul, Int.add_sub_cancel, List.length_nil, Int.cast_ofNat_Int, and_true, true_and]) rfl (aret_of ?_)
    simp (disch := ((try simp only [List.length_set, List.length_replicate, List.length_append, List.length_cons, List.length_nil]); omega)) only [aW, aX, aV, aB, aN, aL, aP, aH, aM, r_law36_do]
    exact post_v ⟨rfl, rfl⟩
  refine vr_law36_ControlNil (by simp) (.inr rfl) fun _ _ => ?_
  unfold pairA at hd ⊢
  simp (disch := ((try simp only [List.length_set, List.length_replicate, List.length_append, List.length_cons, List.length_nil]); omega)) only [aW, aX, aV, aB, aN, aL, aP, aH, aM, s_law36_ControlNil, v_law36_ControlNil]
  refine (hs a.2).same (by simp (disch := first | omega | simp (disch := omega) only [aF, aL, aN, aM]) only [aW, aX, aV, aB, aN, aL, aP, aH, aM, aF, Int.natCast_add, Int.natCast_mul, Int.add_sub_cancel, List.length_nil, Int.cast_ofNat_Int, and_true, true_and]) rfl (aret_of ?_)
  simp (disch := ((try simp only [List.length_set, List.length_replicate, List.length_append, List.length_cons, List.length_nil]); omega)) only [aW, aX, aV, aB, aN, aL, aP, aH, aM]
  refine hd.same (by simp (disch := first | omega | simp (disch := omega) only [aF, aL, aN, aM]) only [aW, aX, aV, aB, aN, aL, aP, aH, aM, aF, Int.natCast_add, Int.natCast_mul, Int.add_sub_cancel, List.length_nil, Int.cast_ofNat_Int, and_true, true_and]) rfl (aret_of ?_)
  simp (disch := ((try simp only [List.length_set, List.length_replicate, List.length_append, List.length_cons, List.length_nil]); omega)) only [aW, aX, aV, aB, aN, aL, aP, aH, aM]
  refine hsf.same (by simp (disch := first | omega | simp (disch := omega) only [aF, aL, aN, aM]) only [aW, aX, aV, aB, aN, aL, aP, aH, aM, aF, Int.natCast_add, Int.natCast_mul, Int.add_sub_cancel, List.length_nil, Int.cast_ofNat_Int, and_true, true_and]) rfl (aret_of ?_)
  simp (disch := ((try simp only [List.length_set, List.length_replicate, List.length_append, List.length_cons, List.length_nil]); omega)) only [aW, aX, aV, aB, aN, aL, aP, aH, aM]
  refine awake36_vr.same (by simp (disch := first | omega | simp (disch := omega) only [aF, aL, aN, aM]) only [aW, aX, aV, aB, aN, aL, aP, aH, aM, aF, Int.natCast_add, Int.natCast_mul, Int.add_sub_cancel, List.length_nil, Int.cast_ofNat_Int, and_true, true_and]) rfl (aret_of ?_)
  simp (disch := ((try simp only [List.length_set, List.length_replicate, List.length_append, List.length_cons, List.length_nil]); omega)) only [aW, aX, aV, aB, aN, aL, aP, aH, aM, r_law36_ControlNil]
  exact post_v ⟨rfl, rfl⟩
end Go.Proofs.Ytfnghkmchlfooaa
