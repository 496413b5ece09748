/- Expressions over values without addresses, and that they mean what the small language's mean. Plain lemmas; no statement is claimed here. -/
import Derived.Test.YtjhdedifmhkhbaaVa
namespace Go.Lft
open Go
set_option linter.unusedVariables false
set_option linter.unusedSimpArgs false

def E0 : Heap := fun _ => none

def blkAt : List Blk → Nat → Nat → Option (List A)
  | [], _, _ => none
  | B :: _, 0, ver => if B.ver = ver then some B.cells else none
  | _ :: H, i + 1, ver => blkAt H i ver
theorem blkAt_iff : ∀ {H : List Blk} {i ver : Nat} {l : List A}, blkAt H i ver = some l ↔ ∃ B, H[i]? = some B ∧ B.ver = ver ∧ B.cells = l
  | [], _, _, _ => by simp [blkAt]
  | B :: H, 0, ver, l => by
    simp only [blkAt, List.getElem?_cons_zero, Option.some.injEq]
    constructor
    · intro h; split at h
      · rename_i hv; cases h; exact ⟨B, rfl, hv, rfl⟩
      · cases h
    · rintro ⟨_, rfl, h1, h2⟩; rw [if_pos h1, h2]
  | B :: H, i + 1, ver, l => by simp only [blkAt, List.getElem?_cons_succ]; exact blkAt_iff

def nthA : List A → Nat → Option A
  | [], _ => none
  | a :: _, 0 => some a
  | _ :: l, n + 1 => nthA l n
theorem nthA_get : ∀ (l : List A) (i : Nat), nthA l i = l[i]?
  | [], _ => by simp [nthA]
  | a :: l, 0 => by simp [nthA]
  | a :: l, n + 1 => by simp [nthA, nthA_get l n]

def liftV : Value → A
  | .func (.func f) ⟨[]⟩ ⟨[]⟩ => .fn f []
  | x => .v x
theorem liftV_rel {g : Bool → Heap} {σ : Nam} (x : Value) : Rel g σ (liftV x) x := by
  unfold liftV
  split
  · exact .fn _ [] [] rfl (fun i a x h => by simp at h)
  · exact .v x

def lenA : A → Option A
  | .fs _ l => some (.v (.int .i64 l.length))
  | .sl _ _ _ _ n => some (.v (.int .i64 n))
  | .vs _ _ _ n => some (.v (.int .i64 n))
  | .v x => (k1v .len x E0).map .v
  | _ => none
def nilcA : A → Option A
  | .fp w l => some (.fp w l)
  | .lp i ver o => some (.lp i ver o)
  | .fn f l => some (.fn f l)
  | .v x => (k1v .nilc x E0).map .v
  | _ => none
def fldA (off : Nat) : A → Option A
  | .fp w l => if off ≤ l.length then some (.fp w (l.drop off)) else none
  | .lp i ver o => some (.lp i ver (o + off))
  | _ => none
def ldA (H : List Blk) : A → Option A
  | .fp _ l => nthA l 0
  | .lp i ver o => (blkAt H i ver).bind fun l => nthA l o
  | _ => none
def ldaA (n : Nat) (H : List Blk) : A → Option A
  | .fp _ l => if n ≤ l.length then some (.agg (l.take n)) else none
  | .lp i ver o => (blkAt H i ver).bind fun l => if o + n ≤ l.length then some (.agg ((l.drop o).take n)) else none
  | _ => none
def prtA (off : Nat) : A → Option A
  | .agg cs => nthA cs off
  | _ => none
def prtaA (off n : Nat) : A → Option A
  | .agg cs => some (.agg ((cs.drop off).take n))
  | _ => none
def extA (i : Nat) : A → Option A
  | .tup cs => nthA cs i
  | _ => none
/-- An operation on a known value. -/
def s1A (k : K1) : A → Option A
  | .v x => (k1v k x E0).map .v
  | _ => none
def s2A (k : K2) : A → A → Option A
  | .v x, .v y => (k2v k x y).map .v
  | _, _ => none

def a1 (k : K1) (H : List Blk) (x : A) : Option A :=
  match k with
  | .len => lenA x
  | .nilc => nilcA x
  | .fld off => fldA off x
  | .ld1 => ldA H x
  | .lda n => ldaA n H x
  | .prt off => prtA off x
  | .prta off n => prtaA off n x
  | .ext i => extA i x
  | .un op => s1A (.un op) x
  | .conv k => s1A (.conv k) x

def eqpA (neg : Bool) : A → A → Option A
  | .v x, .v y => (k2v (.eqp neg) x y).map .v
  | .lp _ _ _, .v (.pointer none) => some (.v (.bool neg))
  | .fp _ _, .v (.pointer none) => some (.v (.bool neg))
  | .v (.pointer none), .lp _ _ _ => some (.v (.bool neg))
  | .v (.pointer none), .fp _ _ => some (.v (.bool neg))
  | _, _ => none
def eqsA (neg : Bool) : A → A → Option A
  | .v x, .v y => (k2v (.eqs neg) x y).map .v
  | .sl _ _ _ _ _, .v (.slice none _ _) => some (.v (.bool neg))
  | .fs _ l, .v (.slice none _ _) => if l.length = 0 then none else some (.v (.bool neg))
  | _, _ => none
def eqfA (neg : Bool) : A → A → Option A
  | .v x, .v y => (k2v (.eqf neg) x y).map .v
  | .fn _ _, .v .nilFunc => some (.v (.bool neg))
  | _, _ => none
/-- Structs of numbers. -/
def eqiL : List A → List A → Option Bool
  | [], [] => some true
  | .v (.int k a) :: r, .v (.int k' b) :: s => if k = k' then (eqiL r s).map fun t => decide (a = b) && t else none
  | _, _ => none
def eqiA (n : Nat) (neg : Bool) : A → A → Option A
  | .agg cs, .agg ds => if cs.length = n then (eqiL cs ds).map fun b => .v (.bool (b != neg)) else none
  | _, _ => none
def idxA (n : Nat) : A → A → Option A
  | .fs w l, .v (.int _ i) => if 0 ≤ i ∧ i < l.length then (nthA l i.toNat).bind fun a => a.cells.bind fun cs => if cs.length = n then some (.fp w cs) else none else none
  | .sl i ver _ o m, .v (.int _ j) => if 0 ≤ j ∧ j < m then some (.lp i ver (o + j.toNat * n)) else none
  | .vs i ver _ m, .v (.int _ j) => if 0 ≤ j ∧ j < m then some (.lp i ver (j.toNat * n)) else none
  | _, _ => none
def idxaA (len n : Nat) : A → A → Option A
  | .fp w l, .v (.int _ j) => if 0 ≤ j ∧ j < len ∧ j.toNat * n ≤ l.length then some (.fp w (l.drop (j.toNat * n))) else none
  | .lp i ver o, .v (.int _ j) => if 0 ≤ j ∧ j < len then some (.lp i ver (o + j.toNat * n)) else none
  | _, _ => none
def ixvA (len n : Nat) (agg : Bool) : A → A → Option A
  | .agg cs, .v (.int _ i) => if 0 ≤ i ∧ i < len then (if agg then some (.agg ((cs.drop (i.toNat * n)).take n)) else nthA cs (i.toNat * n)) else none
  | _, _ => none

def a2 (k : K2) (x y : A) : Option A :=
  match k with
  | .eqp neg => eqpA neg x y
  | .eqs neg => eqsA neg x y
  | .eqf neg => eqfA neg x y
  | .eqi n neg => eqiA n neg x y
  | .idx n => idxA n x y
  | .idxa len n => idxaA len n x y
  | .ixv len n agg => ixvA len n agg x y
  | k => s2A k x y

/-- All elements have n cells. -/
def szB (n : Nat) (l : List A) : Bool := l.all fun a => match a.cells with | some cs => cs.length == n | none => false

def slcA (H : List Blk) (arr : Option Nat) (n : Nat) (x lo hi : A) (mx : Option A) : Option A :=
  match arr, x, lo, hi, mx with
  | none, .fs w l, .v (.int _ a), .v (.int _ b), none => if szB n l = true ∧ 0 ≤ a ∧ a ≤ b ∧ b ≤ l.length then some (.fs w ((l.take b.toNat).drop a.toNat)) else none
  | none, .sl i ver k o m, .v (.int _ a), .v (.int _ b), none => if k = n ∧ 0 ≤ a ∧ a ≤ b ∧ b ≤ m then some (.sl i ver k (o + a.toNat * n) (b.toNat - a.toNat)) else none
  | none, .sl i ver k o m, .v (.int _ a), .v (.int _ b), some (.v (.int _ c)) => if k = n ∧ 0 ≤ a ∧ a ≤ b ∧ b ≤ c ∧ c ≤ m then some (.sl i ver k (o + a.toNat * n) (b.toNat - a.toNat)) else none
  | none, .v x, .v l, .v u, none => (slcv none n x l u none).map .v
  | some len, .lp i ver o, .v (.int _ a), .v (.int _ b), none => (blkAt H i ver).bind fun l => if 0 ≤ a ∧ a ≤ b ∧ b ≤ len ∧ o + len * n ≤ l.length then some (.sl i ver n (o + a.toNat * n) (b.toNat - a.toNat)) else none
  | some len, .fp w l, .v (.int _ a), .v (.int _ b), none => if n = 1 ∧ 0 ≤ a ∧ a ≤ b ∧ b ≤ len ∧ b ≤ l.length ∧ ((l.take b.toNat).drop a.toNat).all A.one = true then some (.fs w ((l.take b.toNat).drop a.toNat)) else none
  | _, _, _, _, _ => none

def splA (c : List A) (o : Nat) (cs : List A) : List A := c.take o ++ cs ++ c.drop (o + cs.length)
def fillA : List A → List (Nat × A) → Option (List A)
  | c, [] => some c
  | c, (off, a) :: r => a.cells.bind fun cs => if off + cs.length ≤ c.length then fillA (splA c off cs) r else none

def itA (c a b : Option A) : Option A := c.bind fun v => match v with | .v (.bool true) => a | .v (.bool false) => b | _ => none

mutual
def X.av (e : List A) (H : List Blk) : X → Option A
  | .var i => some (e.getD i .any)
  | .lit v => some (liftV v)
  | .u k a => (a.av e H).bind fun x => a1 k H x
  | .b k a c => (a.av e H).bind fun x => (c.av e H).bind fun y => a2 k x y
  | .ite c a d => itA (c.av e H) (a.av e H) (d.av e H)
  | .slc arr n a lo hi mx => (a.av e H).bind fun x => (lo.av e H).bind fun l => (hi.av e H).bind fun u =>
      match mx with
      | .nl => slcA H arr n x l u none
      | mx => (mx.av e H).bind fun m => slcA H arr n x l u (some m)
  | .fn f caps => (caps.avs e H).bind fun vs => some (.fn f vs)
  | .bld z ps => (ps.avp e H).bind fun vs => (fillA (z.map .v) vs).bind fun cs => some (.agg cs)
  | .nl => none
  | .cn _ _ => none
  | .pl _ _ _ _ => none
def X.avs (e : List A) (H : List Blk) : X → Option (List A)
  | .nl => some []
  | .cn a r => (a.av e H).bind fun x => (r.avs e H).bind fun xs => some (x :: xs)
  | _ => none
def X.avp (e : List A) (H : List Blk) : X → Option (List (Nat × A))
  | .nl => some []
  | .pl off size a r => (a.av e H).bind fun x => x.cells.bind fun cs => if cs.length = size then (r.avp e H).bind fun xs => some ((off, x) :: xs) else none
  | _ => none
end

/-! ### What they mean -/
theorem St.blkAt {c : Cfg} (hs : St c) {i ver : Nat} {l : List A} (hb : blkAt c.H i ver = some l) {q : Nat × Nat} (hq : c.σ i ver = some (some q)) :
    ∃ b s vs z t, c.σ i ver = some (some (b, s)) ∧ (∀ w, c.g w b = none) ∧ c.h b = some (.cells (vs ++ z).toArray t (0, 0)) ∧ (vs ++ z).length = s ∧ RL c.g c.σ l vs := by
  obtain ⟨B, h1, h2, h3⟩ := blkAt_iff.1 hb
  rcases hs.blk i B h1 with ⟨g1, _⟩ | ⟨b, s, vs, z, t, g1, g2, g3, g4, g5⟩
  · rw [h2, hq] at g1; cases g1
  · exact ⟨b, s, vs, z, t, h2 ▸ g1, g2, g3, g4, h3 ▸ g5⟩

theorem rd_len {h : Heap} {b o n : Nat} {vs : List Value} (hr : rd h b o n = some vs) : vs.length = n := by
  unfold rd at hr
  split at hr
  · split at hr
    · cases hr; simp; omega
    · cases hr
  · cases hr

theorem one_take {α : Type} {l : List α} {o : Nat} {x : α} (h : l[o]? = some x) : (l.drop o).take 1 = [x] := by
  have hl : o < l.length := (List.getElem?_eq_some_iff.1 h).1
  rw [List.drop_eq_getElem_cons hl]
  simp only [List.take_succ_cons, List.take_zero]
  rw [(List.getElem?_eq_some_iff.1 h).2]

theorem rd_front {h : Heap} {b o n : Nat} {vs z : List Value} {t : Nat} (hb : h b = some (.cells (vs ++ z).toArray t (0, 0))) (hn : o + n ≤ vs.length) : rd h b o n = some ((vs.drop o).take n) := by
  unfold rd
  rw [hb]
  simp only [List.size_toArray, List.length_append]
  rw [if_pos (by omega)]
  congr 1
  rw [List.drop_append_of_le_length (by omega), List.take_append_of_le_length (by simp; omega)]

theorem rd_in {h : Heap} {b o m : Nat} {vs : List Value} (hd : rd h b o m = some vs) {p n : Nat} (hp : p + n ≤ m) : rd h b (o + p) n = some ((vs.drop p).take n) := by
  unfold rd at hd ⊢
  split at hd
  · rename_i c t f hb
    split at hd
    · rename_i hle
      cases hd
      rw [if_pos (by omega)]
      congr 1
      apply List.ext_getElem?
      intro i
      simp only [List.getElem?_take, List.getElem?_drop]
      by_cases hi : i < n
      · rw [if_pos hi, if_pos hi, if_pos (by omega)]; congr 1; omega
      · rw [if_neg hi, if_neg hi]
    · cases hd
  · cases hd

theorem k1v_un {op : UnOp} {x : Value} {h : Heap} : k1v (.un op) x h = k1v (.un op) x E0 := rfl
theorem k1v_len {x : Value} {h : Heap} : k1v .len x h = k1v .len x E0 := by cases x <;> rfl
theorem k1v_conv {k : IntKind} {x : Value} {h : Heap} : k1v (.conv k) x h = k1v (.conv k) x E0 := by cases x <;> rfl
theorem k1v_nilc {x : Value} {h : Heap} : k1v .nilc x h = k1v .nilc x E0 := by
  cases x with
  | pointer a => cases a <;> rfl
  | func f p q => cases f <;> rfl
  | _ => rfl

section
variable {c : Cfg} (hs : St c)
include hs

omit hs in
theorem lenA_sound {x r : A} {v : Value} (h : lenA x = some r) (hr : Rel c.g c.σ x v) : ∃ u, k1v .len v c.h = some u ∧ Rel c.g c.σ r u := by
  cases hr <;> simp only [lenA] at h <;> try (cases h; done)
  case v =>
    cases hx : k1v .len v E0 with
    | none => rw [hx] at h; cases h
    | some u => rw [hx] at h; cases h; exact ⟨u, k1v_len.trans hx, .v u⟩
  all_goals (cases h; exact ⟨_, rfl, .v _⟩)

omit hs in
theorem nilcA_sound {x r : A} {v : Value} (h : nilcA x = some r) (hr : Rel c.g c.σ x v) : ∃ u, k1v .nilc v c.h = some u ∧ Rel c.g c.σ r u := by
  have hr' := hr
  cases hr <;> simp only [nilcA] at h <;> try (cases h; done)
  case v =>
    cases hx : k1v .nilc v E0 with
    | none => rw [hx] at h; cases h
    | some u => rw [hx] at h; cases h; exact ⟨u, k1v_nilc.trans hx, .v u⟩
  all_goals (cases h; exact ⟨_, rfl, hr'⟩)

omit hs in
theorem fldA_sound {off : Nat} {x r : A} {v : Value} (h : fldA off x = some r) (hr : Rel c.g c.σ x v) : ∃ u, k1v (.fld off) v c.h = some u ∧ Rel c.g c.σ r u := by
  cases hr <;> simp only [fldA] at h <;> try (cases h; done)
  case fp w l b o vs hd hr =>
    split at h
    · rename_i hle
      cases h
      refine ⟨_, rfl, .fp w _ b (o + off) (vs.drop off) ?_ ?_⟩
      · have hl := rd_in hd (p := off) (n := l.length - off) (by omega)
        rw [List.length_drop, hl]
        congr 1
        apply List.take_of_length_le
        have := (rd_len hd); simp; omega
      · intro i a x h1 h2
        rw [List.getElem?_drop] at h1 h2
        exact hr _ a x h1 h2
    · cases h
  case lp i ver o b s h1 => cases h; exact ⟨_, rfl, .lp i ver (o + off) b s h1⟩

theorem ldA_sound {x r : A} {v : Value} (h : ldA c.H x = some r) (hr : Rel c.g c.σ x v) : ∃ u, k1v .ld1 v c.h = some u ∧ Rel c.g c.σ r u := by
  cases hr <;> simp only [ldA] at h <;> try (cases h; done)
  case fp w l b o vs hd hr =>
    rw [nthA_get] at h
    have hl : 0 < l.length := (List.getElem?_eq_some_iff.1 h).1
    have hd' := rd_ext (hs.ext w) (rd_in hd (p := 0) (n := 1) (by omega))
    have hvl := rd_len hd
    have hv : vs[0]? = some (vs[0]'(by omega)) := by simp
    rw [one_take hv] at hd'
    exact ⟨_, by simp only [k1v]; rw [show rd c.h b o 1 = some _ from hd'], hr 0 r _ h hv⟩
  case lp i ver o b s h1 =>
    cases hb : Lft.blkAt c.H i ver with
    | none => rw [hb] at h; cases h
    | some l =>
      rw [hb] at h
      simp only [Option.bind_some, nthA_get] at h
      obtain ⟨b', s', vs, z, t, g1, g2, g3, g4, g5⟩ := hs.blkAt hb h1
      rw [h1] at g1; cases g1
      obtain ⟨u, hu, hur⟩ := g5.get h
      have hlt : o < vs.length := (List.getElem?_eq_some_iff.1 hu).1
      have := rd_front g3 (o := o) (n := 1) (by omega)
      rw [one_take hu] at this
      exact ⟨u, by simp only [k1v]; rw [this], hur⟩

theorem ldaA_sound {n : Nat} {x r : A} {v : Value} (h : ldaA n c.H x = some r) (hr : Rel c.g c.σ x v) : ∃ u, k1v (.lda n) v c.h = some u ∧ Rel c.g c.σ r u := by
  cases hr <;> simp only [ldaA] at h <;> try (cases h; done)
  case fp w l b o vs hd hr =>
    split at h
    · rename_i hle
      cases h
      have hd' := rd_ext (hs.ext w) (rd_in hd (p := 0) (n := n) (by omega))
      have hvl := rd_len hd
      refine ⟨_, by simp only [k1v]; rw [show rd c.h b o n = some _ from hd'], .agg _ _ (by simp [hvl]) fun i a x h1 h2 => ?_⟩
      simp only [List.drop_zero] at h2
      rw [List.getElem?_take] at h1 h2
      split at h1
      · rename_i hi; rw [if_pos hi] at h2; exact hr i a x h1 h2
      · cases h1
    · cases h
  case lp i ver o b s h1 =>
    cases hb : Lft.blkAt c.H i ver with
    | none => rw [hb] at h; cases h
    | some l =>
      rw [hb] at h
      simp only [Option.bind_some] at h
      split at h
      · rename_i hle
        cases h
        obtain ⟨b', s', vs, z, t, g1, g2, g3, g4, g5⟩ := hs.blkAt hb h1
        rw [h1] at g1; cases g1
        have := rd_front g3 (o := o) (n := n) (by have := g5.1; omega)
        have g6 := (g5.drop o).take n
        exact ⟨_, by simp only [k1v]; rw [this], .agg _ _ g6.1 g6.2⟩
      · cases h

theorem a1_sound {k : K1} {x r : A} {v : Value} (h : a1 k c.H x = some r) (hr : Rel c.g c.σ x v) : ∃ u, k1v k v c.h = some u ∧ Rel c.g c.σ r u := by
  cases k <;> simp only [a1] at h
  case len => exact lenA_sound h hr
  case nilc => exact nilcA_sound h hr
  case fld => exact fldA_sound h hr
  case ld1 => exact ldA_sound hs h hr
  case lda => exact ldaA_sound hs h hr
  case un op =>
    cases hr <;> simp only [s1A] at h <;> try (cases h; done)
    cases hx : k1v (.un op) v E0 with
    | none => rw [hx] at h; cases h
    | some u => rw [hx] at h; cases h; exact ⟨u, k1v_un.trans hx, .v u⟩
  case conv k =>
    cases hr <;> simp only [s1A] at h <;> try (cases h; done)
    cases hx : k1v (.conv k) v E0 with
    | none => rw [hx] at h; cases h
    | some u => rw [hx] at h; cases h; exact ⟨u, k1v_conv.trans hx, .v u⟩
  case prt off =>
    cases hr <;> simp only [prtA] at h <;> try (cases h; done)
    rename_i l vs hl hr
    rw [nthA_get] at h
    obtain ⟨u, hu, hur⟩ := RL.get ⟨hl, hr⟩ h
    exact ⟨u, by simp [k1v, hu], hur⟩
  case prta off n =>
    cases hr <;> simp only [prtaA] at h <;> try (cases h; done)
    rename_i l vs hl hr
    cases h
    have g6 : RL c.g c.σ ((l.drop off).take n) ((vs.drop off).take n) := (RL.drop ⟨hl, hr⟩ off).take n
    exact ⟨.agg ((vs.drop off).take n).toArray, by simp [k1v, List.take_drop], .agg _ _ g6.1 g6.2⟩
  case ext i =>
    cases hr <;> simp only [extA] at h <;> try (cases h; done)
    rename_i l vs hl hr
    rw [nthA_get] at h
    obtain ⟨u, hu, hur⟩ := RL.get ⟨hl, hr⟩ h
    exact ⟨u, by simp [k1v, hu], hur⟩
end

theorem nonempty_slice {g : Bool → Heap} {σ : Nam} {w : Bool} {l : List A} {v : Value} (hr : Rel g σ (.fs w l) v) (hl : l.length ≠ 0) : ∃ a c, v = .slice (some a) l.length c := by
  cases hr with
  | fs0 w a c => exact absurd rfl hl
  | fs w l b o c k f h1 h2 h3 => exact ⟨_, _, rfl⟩

theorem s2_sound {g : Bool → Heap} {σ : Nam} {k : K2} {x y r : A} {v u : Value} (h : s2A k x y = some r) (hx : Rel g σ x v) (hy : Rel g σ y u) : ∃ z, k2v k v u = some z ∧ Rel g σ r z := by
  cases hx <;> simp only [s2A] at h <;> try (cases h; done)
  cases hy <;> simp only [s2A] at h <;> try (cases h; done)
  cases hz : k2v k v u with
  | none => rw [hz] at h; cases h
  | some z => rw [hz] at h; cases h; exact ⟨z, rfl, .v z⟩

theorem eqp_sound {g : Bool → Heap} {σ : Nam} {neg : Bool} {x y r : A} {v u : Value} (h : eqpA neg x y = some r) (hx : Rel g σ x v) (hy : Rel g σ y u) : ∃ z, k2v (.eqp neg) v u = some z ∧ Rel g σ r z := by
  unfold eqpA at h
  split at h
  · cases hx; cases hy
    cases hz : k2v (.eqp neg) v u with
    | none => rw [hz] at h; cases h
    | some z => rw [hz] at h; cases h; exact ⟨z, rfl, .v z⟩
  · cases hx; cases hy; cases h; exact ⟨_, rfl, .v _⟩
  · cases hx; cases hy; cases h; exact ⟨_, rfl, .v _⟩
  · cases hx; cases hy; cases h; exact ⟨_, rfl, by simp; exact .v _⟩
  · cases hx; cases hy; cases h; exact ⟨_, rfl, by simp; exact .v _⟩
  · cases h

theorem eqs_sound {g : Bool → Heap} {σ : Nam} {neg : Bool} {x y r : A} {v u : Value} (h : eqsA neg x y = some r) (hx : Rel g σ x v) (hy : Rel g σ y u) : ∃ z, k2v (.eqs neg) v u = some z ∧ Rel g σ r z := by
  unfold eqsA at h
  split at h
  · cases hx; cases hy
    cases hz : k2v (.eqs neg) v u with
    | none => rw [hz] at h; cases h
    | some z => rw [hz] at h; cases h; exact ⟨z, rfl, .v z⟩
  · cases hx; cases hy; cases h; exact ⟨_, rfl, .v _⟩
  · split at h
    · cases h
    · rename_i hl
      obtain ⟨a, c, rfl⟩ := nonempty_slice hx hl
      cases hy; cases h; exact ⟨_, rfl, .v _⟩
  · cases h

theorem eqf_sound {g : Bool → Heap} {σ : Nam} {neg : Bool} {x y r : A} {v u : Value} (h : eqfA neg x y = some r) (hx : Rel g σ x v) (hy : Rel g σ y u) : ∃ z, k2v (.eqf neg) v u = some z ∧ Rel g σ r z := by
  unfold eqfA at h
  split at h
  · cases hx; cases hy
    cases hz : k2v (.eqf neg) v u with
    | none => rw [hz] at h; cases h
    | some z => rw [hz] at h; cases h; exact ⟨z, rfl, .v z⟩
  · cases hx; cases hy; cases h; exact ⟨_, rfl, .v _⟩
  · cases h
theorem eqiL_sound {g : Bool → Heap} {σ : Nam} : ∀ (cs ds : List A) (vs us : List Value) (b : Bool), eqiL cs ds = some b → RL g σ cs vs → RL g σ ds us → eqInts vs us = some b
  | [], ds, vs, us, b, h, h1, h2 => by
    rw [h1.nil_inv]
    cases ds with
    | nil => rw [h2.nil_inv]; cases h; rfl
    | cons d r => simp [eqiL] at h
  | c :: r, [], vs, us, b, h, h1, h2 => by simp [eqiL] at h
  | c :: r, d :: s, vs, us, b, h, h1, h2 => by
    obtain ⟨x, xs, rfl, e1, e2⟩ := h1.uncons
    obtain ⟨y, ys, rfl, e3, e4⟩ := h2.uncons
    unfold eqiL at h
    split at h
    · rename_i h0 _; cases h0
    · rename_i k a r' k' b' s' hc hd
      cases hc; cases hd; cases e1; cases e3
      split at h
      · rename_i hk
        obtain ⟨t, ht, rfl⟩ := Option.map_eq_some_iff.1 h
        simp only [eqInts, hk, if_true, eqiL_sound r s xs ys t ht e2 e4, Option.map_some]
        congr 2
      · cases h
    · cases h
theorem eqi_sound {g : Bool → Heap} {σ : Nam} {n : Nat} {neg : Bool} {x y r : A} {v u : Value} (h : eqiA n neg x y = some r) (hx : Rel g σ x v) (hy : Rel g σ y u) : ∃ z, k2v (.eqi n neg) v u = some z ∧ Rel g σ r z := by
  unfold eqiA at h
  split at h
  · split at h
    · rename_i hn
      obtain ⟨b, hb, rfl⟩ := Option.map_eq_some_iff.1 h
      cases hx with
      | agg l vs h1 h2 => cases hy with
        | agg m us h3 h4 =>
          have := eqiL_sound _ _ _ _ b hb ⟨h1, h2⟩ ⟨h3, h4⟩
          exact ⟨.bool (b != neg), by simp only [k2v]; rw [if_pos (by simpa [← h1] using hn)]; simp [this], .v _⟩
    · cases h
  · cases h

theorem idx_sound {g : Bool → Heap} {σ : Nam} {n : Nat} {x y r : A} {v u : Value} (h : idxA n x y = some r) (hx : Rel g σ x v) (hy : Rel g σ y u) : ∃ z, k2v (.idx n) v u = some z ∧ Rel g σ r z := by
  unfold idxA at h
  split at h
  · rename_i w l k i
    split at h
    · rename_i hi
      cases hy
      cases hx with
      | fs0 w a c => simp at hi; omega
      | fs w l b o c kk f h1 h2 h3 =>
        rw [nthA_get] at h
        cases ha : l[i.toNat]? with
        | none => rw [ha] at h; cases h
        | some a =>
          obtain ⟨cs, g1, g2, g3⟩ := h2 _ a ha
          rw [ha] at h
          simp only [Option.bind_some, g1] at h
          split at h
          · rename_i hn
            cases h
            have hkn : kk = n := by omega
            subst hkn
            refine ⟨.pointer (some ⟨b, o + i.toNat * kk, none⟩), by simp only [k2v]; rw [if_pos ⟨hi.1, by omega⟩], .fp w cs b _ (f i.toNat) (by rw [g2]; exact g3) fun j q x h4 h5 => h3 _ a cs j q x ha g1 h4 h5⟩
          · cases h
    · cases h
  · rename_i i ver k o m kk j
    split at h
    · rename_i hj
      cases hy
      cases h
      cases hx with
      | sl i ver k o n' b s o' c h1 h2 h3 =>
        have hc : 0 < c := by omega
        obtain ⟨rfl, h4⟩ := h3 hc
        exact ⟨.pointer (some ⟨b, o' + j.toNat * n, none⟩), by simp only [k2v]; rw [if_pos ⟨hj.1, by omega⟩], .lp i ver _ b s h1⟩
    · cases h
  · rename_i i ver k m kk j
    split at h
    · rename_i hj
      cases hy
      cases h
      cases hx with
      | vs0 i ver k h1 => simp at hj; omega
      | vs i ver k n' b s o' c h1 h2 h3 =>
        have hc : 0 < c := by omega
        obtain ⟨rfl, h4⟩ := h3 hc
        exact ⟨.pointer (some ⟨b, j.toNat * n, none⟩), by simp only [k2v]; rw [if_pos ⟨hj.1, by omega⟩]; simp, .lp i ver _ b s h1⟩
    · cases h
  · cases h

theorem idxa_sound {g : Bool → Heap} {σ : Nam} {len n : Nat} {x y r : A} {v u : Value} (h : idxaA len n x y = some r) (hx : Rel g σ x v) (hy : Rel g σ y u) : ∃ z, k2v (.idxa len n) v u = some z ∧ Rel g σ r z := by
  unfold idxaA at h
  split at h
  · rename_i w l kk j
    split at h
    · rename_i hj
      cases hy; cases h
      cases hx with
      | fp w l b o vs hd hr =>
        refine ⟨.pointer (some ⟨b, o + j.toNat * n, none⟩), by simp only [k2v]; rw [if_pos ⟨hj.1, hj.2.1⟩], .fp w _ b _ (vs.drop (j.toNat * n)) ?_ ?_⟩
        · have hl := rd_in hd (p := j.toNat * n) (n := l.length - j.toNat * n) (by omega)
          rw [List.length_drop, hl]
          congr 1
          apply List.take_of_length_le
          have := (rd_len hd); simp; omega
        · intro i a x h1 h2
          rw [List.getElem?_drop] at h1 h2
          exact hr _ a x h1 h2
    · cases h
  · rename_i i ver o kk j
    split at h
    · rename_i hj
      cases hy; cases h
      cases hx with
      | lp i ver o b s h1 => exact ⟨.pointer (some ⟨b, o + j.toNat * n, none⟩), by simp only [k2v]; rw [if_pos hj], .lp i ver _ b s h1⟩
    · cases h
  · cases h

theorem ixv_sound {g : Bool → Heap} {σ : Nam} {len n : Nat} {ag : Bool} {x y r : A} {v u : Value} (h : ixvA len n ag x y = some r) (hx : Rel g σ x v) (hy : Rel g σ y u) : ∃ z, k2v (.ixv len n ag) v u = some z ∧ Rel g σ r z := by
  unfold ixvA at h
  split at h
  · rename_i cs kk i
    split at h
    · rename_i hi
      cases hy
      cases hx with
      | agg l vs hl hr =>
        cases ag with
        | true =>
          simp only [if_true] at h
          cases h
          have g6 : RL g σ ((cs.drop (i.toNat * n)).take n) ((vs.drop (i.toNat * n)).take n) := (RL.drop ⟨hl, hr⟩ _).take n
          exact ⟨.agg ((vs.drop (i.toNat * n)).take n).toArray, by simp only [k2v]; rw [if_pos hi]; simp [List.take_drop, Nat.add_comm], .agg _ _ g6.1 g6.2⟩
        | false =>
          simp only [Bool.false_eq_true, if_false, nthA_get] at h
          obtain ⟨u, hu, hur⟩ := RL.get ⟨hl, hr⟩ h
          exact ⟨u, by simp only [k2v]; rw [if_pos hi]; simpa using hu, hur⟩
    · cases h
  · cases h

theorem a2_sound {g : Bool → Heap} {σ : Nam} {k : K2} {x y r : A} {v u : Value} (h : a2 k x y = some r) (hx : Rel g σ x v) (hy : Rel g σ y u) : ∃ z, k2v k v u = some z ∧ Rel g σ r z := by
  cases k <;> simp only [a2] at h
  case eqp => exact eqp_sound h hx hy
  case eqs => exact eqs_sound h hx hy
  case eqf => exact eqf_sound h hx hy
  case eqi => exact eqi_sound h hx hy
  case idx => exact idx_sound h hx hy
  case idxa => exact idxa_sound h hx hy
  case ixv => exact ixv_sound h hx hy
  all_goals exact s2_sound h hx hy
end Go.Lft
