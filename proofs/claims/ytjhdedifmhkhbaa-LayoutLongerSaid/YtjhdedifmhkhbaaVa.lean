/- Values and memory without addresses: what is frozen is a list, what a function owns is a numbered block. Plain definitions; no statement is claimed here. -/
import Derived.Test.YtjhdedifmhkhbaaLn
namespace Go.Lft
open Go
set_option linter.unusedVariables false

inductive A where
  | any
  | v (x : Value)
  | agg (l : List A)
  | tup (l : List A)
  | fn (f : Nat) (caps : List A)
  | fs (w : Bool) (l : List A)
  | fp (w : Bool) (l : List A)
  | sl (i ver k o n : Nat)
  | lp (i ver o : Nat)
  | vs (i ver k n : Nat)

instance : Inhabited A := ⟨.any⟩

def A.one : A → Bool
  | .any => false
  | .v x => Lft.one x
  | .agg _ => false
  | .tup _ => false
  | .fn _ _ => true
  | .fs _ _ => true
  | .fp _ _ => true
  | .sl _ _ _ _ _ => true
  | .lp _ _ _ => true
  | .vs _ _ _ _ => true

def A.cells : A → Option (List A)
  | .agg l => if l.all A.one then some l else none
  | a => if a.one then some [a] else none

structure Blk where
  ver : Nat
  cells : List A

/-- The names of blocks: the block and its size; or that there is none yet. -/
abbrev Nam := Nat → Nat → Option (Option (Nat × Nat))

inductive Rel (g : Bool → Heap) (σ : Nam) : A → Value → Prop
  | any (x : Value) : Rel g σ .any x
  | v (x : Value) : Rel g σ (.v x) x
  | agg (l : List A) (vs : List Value) (hl : l.length = vs.length) (hr : ∀ (i : Nat) (a : A) (x : Value), l[i]? = some a → vs[i]? = some x → Rel g σ a x) : Rel g σ (.agg l) (.agg vs.toArray)
  | tup (l : List A) (vs : List Value) (hl : l.length = vs.length) (hr : ∀ (i : Nat) (a : A) (x : Value), l[i]? = some a → vs[i]? = some x → Rel g σ a x) : Rel g σ (.tup l) (.tuple vs.toArray)
  | fn (f : Nat) (l : List A) (vs : List Value) (hl : l.length = vs.length) (hr : ∀ (i : Nat) (a : A) (x : Value), l[i]? = some a → vs[i]? = some x → Rel g σ a x) : Rel g σ (.fn f l) (.func (.func f) #[] vs.toArray)
  | fs0 (w : Bool) (a : Option Addr) (c : Nat) : Rel g σ (.fs w []) (.slice a 0 c)
  | fs (w : Bool) (l : List A) (b o c k : Nat) (f : Nat → List Value) (hc : l.length ≤ c)
      (hl : ∀ (i : Nat) (a : A), l[i]? = some a → ∃ cs, a.cells = some cs ∧ cs.length = k ∧ rd (g w) b (o + i * k) k = some (f i))
      (hr : ∀ (i : Nat) (a : A) (cs : List A) (j : Nat) (q : A) (x : Value), l[i]? = some a → a.cells = some cs → cs[j]? = some q → (f i)[j]? = some x → Rel g σ q x) :
      Rel g σ (.fs w l) (.slice (some ⟨b, o, none⟩) l.length c)
  | fp (w : Bool) (l : List A) (b o : Nat) (vs : List Value) (hd : rd (g w) b o l.length = some vs) (hr : ∀ (i : Nat) (a : A) (x : Value), l[i]? = some a → vs[i]? = some x → Rel g σ a x) : Rel g σ (.fp w l) (.pointer (some ⟨b, o, none⟩))
  | sl (i ver k o n b s o' c : Nat) (hs : σ i ver = some (some (b, s))) (hn : n ≤ c) (ho : 0 < c → o' = o ∧ o + c * k ≤ s) : Rel g σ (.sl i ver k o n) (.slice (some ⟨b, o', none⟩) n c)
  | lp (i ver o b s : Nat) (hs : σ i ver = some (some (b, s))) : Rel g σ (.lp i ver o) (.pointer (some ⟨b, o, none⟩))
  | vs0 (i ver k : Nat) (hs : σ i ver = some none) : Rel g σ (.vs i ver k 0) (.slice none 0 0)
  | vs (i ver k n b s o' c : Nat) (hs : σ i ver = some (some (b, s))) (hn : n ≤ c) (ho : 0 < c → o' = 0 ∧ c * k ≤ s) : Rel g σ (.vs i ver k n) (.slice (some ⟨b, o', none⟩) n c)

/-- Value by value. -/
def RL (g : Bool → Heap) (σ : Nam) (l : List A) (vs : List Value) : Prop := l.length = vs.length ∧ ∀ (i : Nat) (a : A) (x : Value), l[i]? = some a → vs[i]? = some x → Rel g σ a x

theorem RL.nil {g : Bool → Heap} {σ : Nam} : RL g σ [] [] := ⟨rfl, fun i a x h => by simp at h⟩
theorem RL.cons {g : Bool → Heap} {σ : Nam} {a : A} {l : List A} {x : Value} {vs : List Value} (h : Rel g σ a x) (hl : RL g σ l vs) : RL g σ (a :: l) (x :: vs) :=
  ⟨by simp [hl.1], fun i b y h1 h2 => by
    cases i with
    | zero => simp at h1 h2; subst h1; subst h2; exact h
    | succ i => simp at h1 h2; exact hl.2 i b y h1 h2⟩
theorem RL.uncons {g : Bool → Heap} {σ : Nam} {a : A} {l : List A} {vs : List Value} (h : RL g σ (a :: l) vs) : ∃ x xs, vs = x :: xs ∧ Rel g σ a x ∧ RL g σ l xs := by
  cases vs with
  | nil => have := h.1; simp at this
  | cons x xs => exact ⟨x, xs, rfl, h.2 0 a x (by simp) (by simp), by simpa using h.1, fun i b y h1 h2 => h.2 (i + 1) b y (by simpa using h1) (by simpa using h2)⟩
theorem RL.nil_inv {g : Bool → Heap} {σ : Nam} {vs : List Value} (h : RL g σ [] vs) : vs = [] := by
  have := h.1; cases vs <;> simp at this ⊢
theorem RL.get {g : Bool → Heap} {σ : Nam} {l : List A} {vs : List Value} (h : RL g σ l vs) {i : Nat} {a : A} (ha : l[i]? = some a) : ∃ x, vs[i]? = some x ∧ Rel g σ a x := by
  have hi : i < l.length := (List.getElem?_eq_some_iff.1 ha).1
  exact ⟨vs[i]'(by have := h.1; omega), by simp [h.1 ▸ hi], h.2 i a _ ha (by simp [h.1 ▸ hi])⟩
theorem RL.app {g : Bool → Heap} {σ : Nam} {l m : List A} {vs xs : List Value} (h : RL g σ l vs) (h' : RL g σ m xs) : RL g σ (l ++ m) (vs ++ xs) :=
  ⟨by simp [h.1, h'.1], fun i a x h1 h2 => by
    by_cases hi : i < l.length
    · rw [List.getElem?_append_left hi] at h1
      rw [List.getElem?_append_left (by rw [← h.1]; exact hi)] at h2
      exact h.2 i a x h1 h2
    · rw [List.getElem?_append_right (by omega)] at h1
      rw [List.getElem?_append_right (by rw [← h.1]; omega), ← h.1] at h2
      exact h'.2 _ a x h1 h2⟩
theorem RL.take {g : Bool → Heap} {σ : Nam} {l : List A} {vs : List Value} (h : RL g σ l vs) (n : Nat) : RL g σ (l.take n) (vs.take n) :=
  ⟨by simp [h.1], fun i a x h1 h2 => by
    rw [List.getElem?_take] at h1 h2
    split at h1
    · rename_i hi; rw [if_pos hi] at h2; exact h.2 i a x h1 h2
    · cases h1⟩
theorem RL.drop {g : Bool → Heap} {σ : Nam} {l : List A} {vs : List Value} (h : RL g σ l vs) (n : Nat) : RL g σ (l.drop n) (vs.drop n) :=
  ⟨by simp [h.1], fun i a x h1 h2 => by
    rw [List.getElem?_drop] at h1 h2; exact h.2 _ a x h1 h2⟩
theorem RL.set {g : Bool → Heap} {σ : Nam} {l : List A} {vs : List Value} (h : RL g σ l vs) (n : Nat) {a : A} {x : Value} (ha : Rel g σ a x) : RL g σ (l.set n a) (vs.set n x) :=
  ⟨by simp [h.1], fun i b y h1 h2 => by
    rw [List.getElem?_set] at h1 h2
    split at h1
    · rename_i hi; rw [if_pos hi] at h2
      split at h1
      · rename_i hl; rw [if_pos (by have := h.1; omega)] at h2
        cases h1; cases h2; exact ha
      · cases h1
    · rename_i hi; rw [if_neg hi] at h2; exact h.2 i b y h1 h2⟩
theorem RL.rep {g : Bool → Heap} {σ : Nam} {a : A} {x : Value} (ha : Rel g σ a x) (n : Nat) : RL g σ (List.replicate n a) (List.replicate n x) :=
  ⟨by simp, fun i b y h1 h2 => by
    rw [List.getElem?_replicate] at h1 h2
    split at h1
    · rename_i hi; rw [if_pos hi] at h2; cases h1; cases h2; exact ha
    · cases h1⟩

theorem Rel.mono {g g' : Bool → Heap} {σ σ' : Nam} (hg : ∀ w, Ext (g w) (g' w)) (hs : ∀ i ver p, σ i ver = some p → σ' i ver = some p) {a : A} {x : Value} (h : Rel g σ a x) : Rel g' σ' a x := by
  induction h with
  | any x => exact .any x
  | v x => exact .v x
  | agg l vs hl hr ih => exact .agg l vs hl ih
  | tup l vs hl hr ih => exact .tup l vs hl ih
  | fn f l vs hl hr ih => exact .fn f l vs hl ih
  | fs0 w a c => exact .fs0 w a c
  | fs w l b o c k f hc hl hr ih =>
    exact .fs w l b o c k f hc (fun i a ha => by obtain ⟨cs, h1, h2, h3⟩ := hl i a ha; exact ⟨cs, h1, h2, rd_ext (hg w) h3⟩) ih
  | fp w l b o vs hd hr ih => exact .fp w l b o vs (rd_ext (hg w) hd) ih
  | sl i ver k o n b s o' c hs' hn ho => exact .sl i ver k o n b s o' c (hs _ _ _ hs') hn ho
  | lp i ver o b s hs' => exact .lp i ver o b s (hs _ _ _ hs')
  | vs0 i ver k hs' => exact .vs0 i ver k (hs _ _ _ hs')
  | vs i ver k n b s o' c hs' hn ho => exact .vs i ver k n b s o' c (hs _ _ _ hs') hn ho
theorem RL.mono {g g' : Bool → Heap} {σ σ' : Nam} (hg : ∀ w, Ext (g w) (g' w)) (hs : ∀ i ver p, σ i ver = some p → σ' i ver = some p) {l : List A} {vs : List Value} (h : RL g σ l vs) : RL g' σ' l vs :=
  ⟨h.1, fun i a x h1 h2 => (h.2 i a x h1 h2).mono hg hs⟩

theorem Rel.one {g : Bool → Heap} {σ : Nam} {a : A} {x : Value} (h : Rel g σ a x) (ha : a.one = true) : Lft.one x = true := by
  cases h <;> first | rfl | exact ha | cases ha
theorem RL.one {g : Bool → Heap} {σ : Nam} {l : List A} {vs : List Value} (h : RL g σ l vs) (ha : l.all A.one = true) : vs.all Lft.one = true := by
  rw [List.all_eq_true] at ha ⊢
  intro x hx
  obtain ⟨i, hi, rfl⟩ := List.mem_iff_getElem.1 hx
  have hi' : i < l.length := by rw [h.1]; exact hi
  exact (h.2 i l[i] vs[i] (by simp [hi']) (by simp [hi])).one (ha _ (List.getElem_mem hi'))
/-- The cells of a value. -/
theorem Rel.cells {g : Bool → Heap} {σ : Nam} {a : A} {x : Value} {cs : List A} (h : Rel g σ a x) (hc : a.cells = some cs) : RL g σ cs x.cells.toList ∧ cs.all A.one = true := by
  have single : ∀ {a : A} {x : Value}, Rel g σ a x → a.one = true → x.cells = #[x] → cs = [a] → RL g σ cs x.cells.toList ∧ cs.all A.one = true := by
    intro a x h1 h2 h3 h4
    rw [h3, h4]
    exact ⟨RL.cons h1 RL.nil, by simp [h2]⟩
  cases h with
  | any x => simp [A.cells, A.one] at hc
  | v x =>
    simp only [A.cells] at hc
    by_cases h1 : (A.v x).one = true
    · rw [if_pos h1] at hc; cases hc
      refine single (.v x) h1 ?_ rfl
      cases x <;> first | rfl | cases h1
    · rw [if_neg h1] at hc; cases hc
  | agg l vs hl hr =>
    simp only [A.cells] at hc
    split at hc
    · rename_i h1; cases hc; exact ⟨⟨hl, hr⟩, h1⟩
    · cases hc
  | tup l vs hl hr => simp [A.cells, A.one] at hc
  | fn f l vs hl hr => simp [A.cells, A.one] at hc; exact single (.fn f l vs hl hr) rfl rfl hc.symm
  | fs0 w a c => simp [A.cells, A.one] at hc; exact single (.fs0 w a c) rfl rfl hc.symm
  | fs w l b o c k f h1 h2 h3 => simp [A.cells, A.one] at hc; exact single (.fs w l b o c k f h1 h2 h3) rfl rfl hc.symm
  | fp w l b o vs hd hr => simp [A.cells, A.one] at hc; exact single (.fp w l b o vs hd hr) rfl rfl hc.symm
  | sl i ver k o n b s o' c h1 h2 h3 => simp [A.cells, A.one] at hc; exact single (.sl i ver k o n b s o' c h1 h2 h3) rfl rfl hc.symm
  | lp i ver o b s h1 => simp [A.cells, A.one] at hc; exact single (.lp i ver o b s h1) rfl rfl hc.symm
  | vs0 i ver k h1 => simp [A.cells, A.one] at hc; exact single (.vs0 i ver k h1) rfl rfl hc.symm
  | vs i ver k n b s o' c h1 h2 h3 => simp [A.cells, A.one] at hc; exact single (.vs i ver k n b s o' c h1 h2 h3) rfl rfl hc.symm

/-! ### States -/
structure Cfg where
  g : Bool → Heap
  σ : Nam
  H : List Blk
  h : Heap

structure St (c : Cfg) : Prop where
  ext : ∀ w, Ext (c.g w) c.h
  blk : ∀ i B, c.H[i]? = some B → (c.σ i B.ver = some none ∧ B.cells = []) ∨ ∃ b s vs z t, c.σ i B.ver = some (some (b, s)) ∧ (∀ w, c.g w b = none) ∧ c.h b = some (.cells (vs ++ z).toArray t (0, 0)) ∧ (vs ++ z).length = s ∧ RL c.g c.σ B.cells vs
  inj : ∀ i j B C b s t, c.H[i]? = some B → c.H[j]? = some C → c.σ i B.ver = some (some (b, s)) → c.σ j C.ver = some (some (b, t)) → i = j
  nam : ∀ i ver p, c.σ i ver = some p → ∃ B, c.H[i]? = some B ∧ ver ≤ B.ver

/-- d comes after c; the blocks from n0 on are the function's own. -/
structure Lat (n0 : Nat) (c d : Cfg) : Prop where
  g0 : d.g false = c.g false
  g1 : Ext (c.g true) (d.g true)
  new : ∀ b, d.g true b ≠ none → c.g true b ≠ none ∨ c.h b = none ∨ ∃ i B s, n0 ≤ i ∧ c.H[i]? = some B ∧ c.σ i B.ver = some (some (b, s))
  dom : ∀ b, c.h b ≠ none → d.h b ≠ none
  frm : ∀ b o, c.h b = some o → (∀ i B s, c.H[i]? = some B → c.σ i B.ver ≠ some (some (b, s))) → d.h b = some o
  own : ∀ i B b s, d.H[i]? = some B → d.σ i B.ver = some (some (b, s)) → c.h b = none ∨ ∃ j C t, c.H[j]? = some C ∧ c.σ j C.ver = some (some (b, t)) ∧ (i = j ∨ (n0 ≤ i ∧ n0 ≤ j))
  nam : ∀ i ver p, i < n0 → c.σ i ver = some p → d.σ i ver = some p
  len : n0 ≤ c.H.length → n0 ≤ d.H.length

theorem Lat.refl (n0 : Nat) (c : Cfg) : Lat n0 c c :=
  ⟨rfl, Ext.refl _, fun b h => .inl h, fun b h => h, fun b o h _ => h, fun i B b s h1 h2 => .inr ⟨i, B, s, h1, h2, .inl rfl⟩, fun i ver p _ h => h, fun h => h⟩

theorem Lat.trans {n0 : Nat} {a b c : Cfg} (h : Lat n0 a b) (k : Lat n0 b c) : Lat n0 a c := by
  refine ⟨k.g0.trans h.g0, h.g1.trans k.g1, fun x hx => ?_, fun x hx => k.dom x (h.dom x hx), fun x o hx hn => ?_, fun i B x s h1 h2 => ?_, fun i ver p hi hp => k.nam i ver p hi (h.nam i ver p hi hp), fun hl => k.len (h.len hl)⟩
  · rcases k.new x hx with h1 | h1 | ⟨i, B, s, h1, h2, h3⟩
    · exact h.new x h1
    · by_cases ha : a.h x = none
      · exact .inr (.inl ha)
      · exact absurd h1 (h.dom x ha)
    · rcases h.own i B x s h2 h3 with h4 | ⟨j, C, t, h4, h5, h6⟩
      · exact .inr (.inl h4)
      · exact .inr (.inr ⟨j, C, t, by omega, h4, h5⟩)
  · refine k.frm x o (h.frm x o hx hn) fun i B s h1 h2 => ?_
    rcases h.own i B x s h1 h2 with h4 | ⟨j, C, t, h4, h5, h6⟩
    · rw [hx] at h4; cases h4
    · exact hn j C t h4 h5
  · rcases k.own i B x s h1 h2 with h4 | ⟨j, C, t, h4, h5, h6⟩
    · by_cases ha : a.h x = none
      · exact .inl ha
      · exact absurd h4 (h.dom x ha)
    · rcases h.own j C x t h4 h5 with h7 | ⟨l, D, u, h7, h8, h9⟩
      · exact .inl h7
      · exact .inr ⟨l, D, u, h7, h8, by omega⟩

/-- Seen from a function that has fewer blocks of others. -/
theorem Lat.lower {m n : Nat} {c d : Cfg} (hmn : m ≤ n) (hn : c.H.length = n) (h : Lat n c d) : Lat m c d := by
  refine ⟨h.g0, h.g1, fun b hb => ?_, h.dom, h.frm, fun i B b s h1 h2 => ?_, fun i ver p hi hp => h.nam i ver p (by omega) hp, fun _ => by have := h.len (by omega); omega⟩
  · rcases h.new b hb with h1 | h1 | ⟨i, B, s, h1, h2, h3⟩
    · exact .inl h1
    · exact .inr (.inl h1)
    · have := (List.getElem?_eq_some_iff.1 h2).1; omega
  · rcases h.own i B b s h1 h2 with h4 | ⟨j, C, t, h4, h5, h6⟩
    · exact .inl h4
    · refine .inr ⟨j, C, t, h4, h5, ?_⟩
      have := (List.getElem?_eq_some_iff.1 h4).1; omega

end Go.Lft
