/- Expressions over values without addresses, continued: parts of slices, structs, all expressions. Plain lemmas; no statement is claimed here. -/
import Derived.Test.YtjhdedifmhkhbaaVb
namespace Go.Lft
open Go
set_option linter.unusedVariables false
set_option linter.unusedSimpArgs false

theorem szB_get {n : Nat} {l : List A} (h : szB n l = true) {i : Nat} {a : A} (ha : l[i]? = some a) : ∃ cs, a.cells = some cs ∧ cs.length = n := by
  unfold szB at h
  rw [List.all_eq_true] at h
  have := h a (List.mem_of_getElem? ha)
  cases hc : a.cells with
  | none => simp [hc] at this
  | some cs => simp [hc] at this; exact ⟨cs, rfl, this⟩

theorem slc_sound {c : Cfg} (hs : St c) {arr : Option Nat} {n : Nat} {x lo hi r : A} {mx : Option A} {v l u : Value} {m : Option Value} (h : slcA c.H arr n x lo hi mx = some r)
    (hx : Rel c.g c.σ x v) (hl : Rel c.g c.σ lo l) (hu : Rel c.g c.σ hi u) (hm : (mx = none ∧ m = none) ∨ ∃ a b, mx = some a ∧ m = some b ∧ Rel c.g c.σ a b) :
    ∃ z, slcv arr n v l u m = some z ∧ Rel c.g c.σ r z := by
  unfold slcA at h
  split at h
  · rename_i arr w ls k1 a k2 b
    split at h
    · rename_i hc
      obtain ⟨hsz, h1, h2, h3⟩ := hc
      cases h; cases hl; cases hu
      obtain rfl : m = none := by rcases hm with ⟨_, h⟩ | ⟨_, _, h, _⟩ <;> first | exact h | cases h
      cases hx with
      | fs0 w ad cp =>
        simp at h3
        have ha : a = 0 := by omega
        have hb : b = 0 := by omega
        subst ha; subst hb
        exact ⟨_, by simp only [slcv]; rw [if_pos (by omega)], by simpa using .fs0 w _ _⟩
      | fs w ls bl o cp k f g1 g2 g3 =>
        refine ⟨.slice (if cp = a.toNat then some ⟨bl, o, none⟩ else some ⟨bl, o + a.toNat * n, none⟩) (b.toNat - a.toNat) (cp - a.toNat), ?_, ?_⟩
        · simp only [slcv]
          rw [if_pos (by omega)]
          split <;> simp [add_addr]
        · by_cases hab : a.toNat = b.toNat
          · have : ((ls.take b.toNat).drop a.toNat) = [] := by apply List.drop_eq_nil_of_le; simp; omega
            rw [this, show b.toNat - a.toNat = 0 by omega]
            exact .fs0 w _ _
          · have hlen : ((ls.take b.toNat).drop a.toNat).length = b.toNat - a.toNat := by simp; omega
            rw [if_neg (by omega), ← hlen]
            have hkn : k = n := by
              have ha : ls[a.toNat]? = some (ls[a.toNat]'(by omega)) := by simp
              obtain ⟨cs, e1, e2⟩ := szB_get hsz ha
              obtain ⟨cs', e3, e4, _⟩ := g2 _ _ ha
              rw [e1] at e3; cases e3; omega
            subst hkn
            have hget : ∀ i a', ((ls.take b.toNat).drop a.toNat)[i]? = some a' → ls[a.toNat + i]? = some a' := fun i a' hi => by
              rw [List.getElem?_drop, List.getElem?_take] at hi
              split at hi
              · exact hi
              · cases hi
            refine .fs w _ bl _ _ k (fun i => f (a.toNat + i)) (by omega) (fun i a' hi => ?_) (fun i a' cs j q x hi => g3 _ a' cs j q x (hget i a' hi))
            obtain ⟨cs, e1, e2, e3⟩ := g2 _ _ (hget i a' hi)
            exact ⟨cs, e1, e2, by rw [show o + a.toNat * k + i * k = o + (a.toNat + i) * k by rw [Nat.add_mul]; omega]; exact e3⟩
    · cases h
  · rename_i arr i ver k o mm k1 a k2 b
    split at h
    · rename_i hc
      obtain ⟨rfl, h1, h2, h3⟩ := hc
      cases h; cases hl; cases hu
      obtain rfl : m = none := by rcases hm with ⟨_, h⟩ | ⟨_, _, h, _⟩ <;> first | exact h | cases h
      cases hx with
      | sl i ver k o n' bl s o' cp g1 g2 g3 =>
        refine ⟨.slice (some ⟨bl, if cp = a.toNat then o' else o' + a.toNat * k, none⟩) (b.toNat - a.toNat) (cp - a.toNat), ?_, .sl i ver k _ _ bl s _ _ g1 (by omega) fun hc => ?_⟩
        · simp only [slcv]
          rw [if_pos (by omega)]
          split <;> simp [add_addr]
        · obtain ⟨rfl, g4⟩ := g3 (by omega)
          rw [if_neg (by omega)]
          refine ⟨rfl, ?_⟩
          have : a.toNat * k + (cp - a.toNat) * k = cp * k := by rw [← Nat.add_mul]; congr 1; omega
          omega
    · cases h
  · rename_i arr i ver k o mm k1 a k2 b k3 cc
    split at h
    · rename_i hc
      obtain ⟨rfl, h1, h2, h3, h4⟩ := hc
      cases h; cases hl; cases hu
      rcases hm with ⟨hm, _⟩ | ⟨_, _, hm, rfl, hq⟩
      · cases hm
      cases hm; cases hq
      cases hx with
      | sl i ver k o n' bl s o' cp g1 g2 g3 =>
        refine ⟨.slice (some ⟨bl, if cc.toNat = a.toNat then o' else o' + a.toNat * k, none⟩) (b.toNat - a.toNat) (cc.toNat - a.toNat), ?_, .sl i ver k _ _ bl s _ _ g1 (by omega) fun hc => ?_⟩
        · simp only [slcv]
          rw [if_pos (by omega)]
          split <;> simp [add_addr]
        · obtain ⟨rfl, g4⟩ := g3 (by omega)
          rw [if_neg (by omega)]
          refine ⟨rfl, ?_⟩
          have : a.toNat * k + (cp - a.toNat) * k = cp * k := by rw [← Nat.add_mul]; congr 1; omega
          have : (cc.toNat - a.toNat) * k ≤ (cp - a.toNat) * k := Nat.mul_le_mul_right k (by omega)
          omega
    · cases h
  · rename_i arr x l u
    cases hx; cases hl; cases hu
    obtain rfl : m = none := by rcases hm with ⟨_, h⟩ | ⟨_, _, h, _⟩ <;> first | exact h | cases h
    cases hz : slcv none n v l u none with
    | none => rw [hz] at h; cases h
    | some z => rw [hz] at h; cases h; exact ⟨z, rfl, .v z⟩
  · rename_i arr len i ver o k1 a k2 b
    cases hb : blkAt c.H i ver with
    | none => rw [hb] at h; cases h
    | some ls =>
      rw [hb] at h
      simp only [Option.bind_some] at h
      split at h
      · rename_i hc
        obtain ⟨h1, h2, h3, h4⟩ := hc
        cases h; cases hl; cases hu
        obtain rfl : m = none := by rcases hm with ⟨_, h⟩ | ⟨_, _, h, _⟩ <;> first | exact h | cases h
        cases hx with
        | lp i ver o bl s g1 =>
          obtain ⟨b', s', vs, z, t, e1, e2, e3, e4, e5⟩ := hs.blkAt hb g1
          rw [g1] at e1; cases e1
          refine ⟨.slice (some ⟨bl, if len = a.toNat then o else o + a.toNat * n, none⟩) (b.toNat - a.toNat) (len - a.toNat), ?_, .sl i ver n _ _ bl s _ _ g1 (by omega) fun hc => ?_⟩
          · simp only [slcv]
            rw [if_pos ⟨h1, h2, h3⟩]
            split <;> simp [add_addr]
          · rw [if_neg (by omega)]
            refine ⟨rfl, ?_⟩
            have : a.toNat * n + (len - a.toNat) * n = len * n := by rw [← Nat.add_mul]; congr 1; omega
            have := e5.1
            simp at e4
            omega
      · cases h
  · rename_i arr len w ls k1 a k2 b
    split at h
    · rename_i hc
      obtain ⟨rfl, h1, h2, h3, h4, h5⟩ := hc
      cases h; cases hl; cases hu
      obtain rfl : m = none := by rcases hm with ⟨_, h⟩ | ⟨_, _, h, _⟩ <;> first | exact h | cases h
      cases hx with
      | fp w ls bl o vs hd hr =>
        refine ⟨.slice (some ⟨bl, if len = a.toNat then o else o + a.toNat * 1, none⟩) (b.toNat - a.toNat) (len - a.toNat), ?_, ?_⟩
        · simp only [slcv]
          rw [if_pos ⟨h1, h2, h3⟩]
          split <;> simp [add_addr]
        · by_cases hab : a.toNat = b.toNat
          · have : ((ls.take b.toNat).drop a.toNat) = [] := by apply List.drop_eq_nil_of_le; simp; omega
            rw [this, show b.toNat - a.toNat = 0 by omega]
            exact .fs0 w _ _
          · have hlen : ((ls.take b.toNat).drop a.toNat).length = b.toNat - a.toNat := by simp; omega
            rw [if_neg (by omega), ← hlen]
            have hvl := rd_len hd
            have hget : ∀ i a', ((ls.take b.toNat).drop a.toNat)[i]? = some a' → ls[a.toNat + i]? = some a' := fun i a' hi => by
              rw [List.getElem?_drop, List.getElem?_take] at hi
              split at hi
              · exact hi
              · cases hi
            refine .fs w _ bl _ _ 1 (fun i => [vs.getD (a.toNat + i) undef]) (by omega) (fun i a' hi => ?_) (fun i a' cs j q x hi hcs hj hx => ?_)
            · have hone : a'.one = true := by
                rw [List.all_eq_true] at h5
                exact h5 a' (List.mem_of_getElem? hi)
              have hlt : a.toNat + i < vs.length := by
                have := (List.getElem?_eq_some_iff.1 (hget i a' hi)).1; omega
              refine ⟨[a'], by cases a' <;> first | (cases hone; done) | (simp only [A.cells]; rw [if_pos hone]), rfl, ?_⟩
              have := rd_in hd (p := a.toNat + i) (n := 1) (by omega)
              rw [one_take (x := vs[a.toNat + i]) (by simp [hlt])] at this
              rw [show o + a.toNat * 1 + i * 1 = o + (a.toNat + i) by omega, this]
              simp [hlt]
            · have hone : a'.one = true := by
                rw [List.all_eq_true] at h5
                exact h5 a' (List.mem_of_getElem? hi)
              have hca : a'.cells = some [a'] := by cases a' <;> first | (cases hone; done) | (simp only [A.cells]; rw [if_pos hone])
              rw [hca] at hcs; cases hcs
              cases j with
              | succ j => simp at hj
              | zero =>
                simp at hj; subst hj
                have hlt : a.toNat + i < vs.length := by
                  have := (List.getElem?_eq_some_iff.1 (hget i a' hi)).1; omega
                simp at hx
                have hgx : vs[a.toNat + i]? = some x := by
                  rw [← hx]; simp [hlt]
                exact hr _ a' x (hget i a' hi) hgx
    · cases h
  · cases h

/-! ### Structs -/
def RP (g : Bool → Heap) (σ : Nam) (qs : List (Nat × A)) (ps : List (Nat × Value)) : Prop := qs.map (·.1) = ps.map (·.1) ∧ RL g σ (qs.map (·.2)) (ps.map (·.2))

theorem fill_sound {g : Bool → Heap} {σ : Nam} : ∀ (qs : List (Nat × A)) (ps : List (Nat × Value)) (c : List A) (vs : List Value) (c' : List A), RP g σ qs ps → RL g σ c vs → fillA c qs = some c' → ∃ ws : List Value, fillv vs.toArray ps = some ws.toArray ∧ RL g σ c' ws
  | [], ps, c, vs, c', hp, hc, h => by
    have : ps = [] := by have := hp.1; cases ps <;> simp at this ⊢
    subst this; cases h
    exact ⟨vs, rfl, hc⟩
  | (off, a) :: r, ps, c, vs, c', hp, hc, h => by
    cases ps with
    | nil => have := hp.1; simp at this
    | cons p ps =>
      obtain ⟨off', x⟩ := p
      obtain ⟨h1, h2⟩ := hp
      simp only [List.map_cons, List.cons.injEq] at h1 h2
      obtain ⟨rfl, h1⟩ := h1
      obtain ⟨y, ys, e1, hax, hrl⟩ := h2.uncons
      injection e1 with e1 e2; subst e1; subst e2
      simp only [fillA] at h
      cases hca : a.cells with
      | none => rw [hca] at h; cases h
      | some cs =>
        rw [hca] at h
        simp only [Option.bind_some] at h
        split at h
        · rename_i hle
          obtain ⟨g1, g2⟩ := hax.cells hca
          have hl1 : x.cells.size = cs.length := by have := g1.1; simp at this; omega
          have hsz : off + x.cells.toList.length ≤ vs.toArray.size := by have := hc.1; simp; omega
          have hspl : splice vs.toArray off x.cells.toList = (vs.take off ++ x.cells.toList ++ vs.drop (off + x.cells.toList.length)).toArray := by
            apply Array.ext'; rw [splice_lst hsz]
          obtain ⟨ws, k1, k2⟩ := fill_sound r ps _ (vs.take off ++ x.cells.toList ++ vs.drop (off + x.cells.toList.length)) c' ⟨h1, hrl⟩ (((hc.take off).app g1).app (by rw [show x.cells.toList.length = cs.length from g1.1.symm]; exact hc.drop _)) h
          refine ⟨ws, ?_, k2⟩
          simp only [fillv]
          rw [if_pos (by have := hc.1; simp; omega), hspl]
          exact k1
        · cases h

theorem RL.getD {g : Bool → Heap} {σ : Nam} {e : List A} {ev : List Value} (he : RL g σ e ev) (i : Nat) : Rel g σ (e.getD i .any) (ev.getD i undef) := by
  by_cases hi : i < e.length
  · have h1 : i < ev.length := by have := he.1; omega
    have := he.2 i e[i] ev[i] (by simp [hi]) (by simp [h1])
    simpa [List.getD_eq_getElem?_getD, hi, h1] using this
  · have : e.getD i .any = .any := by simp [List.getD_eq_getElem?_getD, List.getElem?_eq_none (Nat.le_of_not_lt hi)]
    rw [this]; exact .any _

theorem X.av_all {c : Cfg} (hs : St c) {e : List A} {ev : List Value} (he : RL c.g c.σ e ev) (x : X) :
    (∀ a, x.av e c.H = some a → ∃ v, x.ev ev c.h = some v ∧ Rel c.g c.σ a v) ∧ (∀ l, x.avs e c.H = some l → ∃ vs, x.evs ev c.h = some vs ∧ RL c.g c.σ l vs) ∧
    (∀ qs, x.avp e c.H = some qs → ∃ ps, x.evp ev c.h = some ps ∧ RP c.g c.σ qs ps) := by
  induction x with
  | var i => exact ⟨fun a h => by cases h; exact ⟨_, rfl, he.getD i⟩, fun l h => by simp [X.avs] at h, fun l h => by simp [X.avp] at h⟩
  | lit v => exact ⟨fun a h => by cases h; exact ⟨_, rfl, liftV_rel v⟩, fun l h => by simp [X.avs] at h, fun l h => by simp [X.avp] at h⟩
  | u k a ih =>
    refine ⟨fun r h => ?_, fun l h => by simp [X.avs] at h, fun l h => by simp [X.avp] at h⟩
    simp only [X.av, Option.bind_eq_some_iff] at h
    obtain ⟨x, h1, h2⟩ := h
    obtain ⟨v, h3, h4⟩ := ih.1 x h1
    obtain ⟨u, h5, h6⟩ := a1_sound hs h2 h4
    exact ⟨u, by simp [X.ev, h3, h5], h6⟩
  | b k a d iha ihd =>
    refine ⟨fun r h => ?_, fun l h => by simp [X.avs] at h, fun l h => by simp [X.avp] at h⟩
    simp only [X.av, Option.bind_eq_some_iff] at h
    obtain ⟨x, h1, y, h2, h3⟩ := h
    obtain ⟨v, h4, h5⟩ := iha.1 x h1
    obtain ⟨u, h6, h7⟩ := ihd.1 y h2
    obtain ⟨z, h8, h9⟩ := a2_sound h3 h5 h7
    exact ⟨z, by simp [X.ev, h4, h6, h8], h9⟩
  | ite q a d ihq iha ihd =>
    refine ⟨fun r h => ?_, fun l h => by simp [X.avs] at h, fun l h => by simp [X.avp] at h⟩
    simp only [X.av, itA, Option.bind_eq_some_iff] at h
    obtain ⟨x, h1, h2⟩ := h
    obtain ⟨v, h3, h4⟩ := ihq.1 x h1
    split at h2
    · cases h4
      obtain ⟨u, h5, h6⟩ := iha.1 r h2
      exact ⟨u, by simp [X.ev, h3, h5], h6⟩
    · cases h4
      obtain ⟨u, h5, h6⟩ := ihd.1 r h2
      exact ⟨u, by simp [X.ev, h3, h5], h6⟩
    · cases h2
  | slc arr n a lo hi mx iha ihl ihh ihm =>
    refine ⟨fun r h => ?_, fun l h => by simp [X.avs] at h, fun l h => by simp [X.avp] at h⟩
    simp only [X.av, Option.bind_eq_some_iff] at h
    obtain ⟨x, h1, l, h2, u, h3, h4⟩ := h
    obtain ⟨v1, g1, g2⟩ := iha.1 x h1
    obtain ⟨v2, g3, g4⟩ := ihl.1 l h2
    obtain ⟨v3, g5, g6⟩ := ihh.1 u h3
    by_cases hmx : mx = .nl
    · subst hmx
      simp only at h4
      obtain ⟨z, k1, k2⟩ := slc_sound hs h4 g2 g4 g6 (.inl ⟨rfl, rfl⟩)
      exact ⟨z, by simp [X.ev, g1, g3, g5, k1], k2⟩
    · have hev : (X.slc arr n a lo hi mx).ev ev c.h = (a.ev ev c.h).bind fun x => (lo.ev ev c.h).bind fun l => (hi.ev ev c.h).bind fun u => (mx.ev ev c.h).bind fun m => slcv arr n x l u (some m) := by
        cases mx <;> first | rfl | exact absurd rfl hmx
      have hav : ∃ m, mx.av e c.H = some m ∧ slcA c.H arr n x l u (some m) = some r := by
        cases mx <;> first | exact absurd rfl hmx | simpa only [Option.bind_eq_some_iff] using h4
      obtain ⟨m, h5, h6⟩ := hav
      obtain ⟨v4, g7, g8⟩ := ihm.1 m h5
      obtain ⟨z, k1, k2⟩ := slc_sound hs h6 g2 g4 g6 (.inr ⟨_, _, rfl, rfl, g8⟩)
      exact ⟨z, by rw [hev]; simp [g1, g3, g5, g7, k1], k2⟩
  | fn f q ih =>
    refine ⟨fun r h => ?_, fun l h => by simp [X.avs] at h, fun l h => by simp [X.avp] at h⟩
    simp only [X.av, Option.bind_eq_some_iff] at h
    obtain ⟨l, h1, h2⟩ := h
    cases h2
    obtain ⟨vs, h3, h4⟩ := ih.2.1 l h1
    exact ⟨_, by simp only [X.ev, h3]; rfl, .fn f l vs h4.1 h4.2⟩
  | bld z q ih =>
    refine ⟨fun r h => ?_, fun l h => by simp [X.avs] at h, fun l h => by simp [X.avp] at h⟩
    simp only [X.av, Option.bind_eq_some_iff] at h
    obtain ⟨qs, h1, cs, h2, h3⟩ := h
    cases h3
    obtain ⟨ps, h4, h5⟩ := ih.2.2 qs h1
    obtain ⟨ws, h6, h7⟩ := fill_sound qs ps _ z cs h5 ⟨by simp, fun i a x h1 h2 => by
      rw [List.getElem?_map, h2] at h1; cases h1; exact .v x⟩ h2
    exact ⟨_, by simp only [X.ev, h4, Option.bind_some, h6]; rfl, .agg cs ws h7.1 h7.2⟩
  | nl => exact ⟨fun r h => by simp [X.av] at h, fun l h => by simp [X.avs] at h; subst h; exact ⟨[], rfl, RL.nil⟩, fun l h => by simp [X.avp] at h; subst h; exact ⟨[], rfl, rfl, RL.nil⟩⟩
  | cn a r iha ihr =>
    refine ⟨fun r h => by simp [X.av] at h, fun l h => ?_, fun l h => by simp [X.avp] at h⟩
    simp only [X.avs, Option.bind_eq_some_iff] at h
    obtain ⟨x, h1, xs, h2, h3⟩ := h
    cases h3
    obtain ⟨v, h4, h5⟩ := iha.1 x h1
    obtain ⟨vs, h6, h7⟩ := ihr.2.1 xs h2
    exact ⟨v :: vs, by simp [X.evs, h4, h6], RL.cons h5 h7⟩
  | pl off size a r iha ihr =>
    refine ⟨fun r h => by simp [X.av] at h, fun l h => by simp [X.avs] at h, fun l h => ?_⟩
    simp only [X.avp, Option.bind_eq_some_iff] at h
    obtain ⟨x, h1, cs, h2, h3⟩ := h
    split at h3
    · rename_i hsz
      simp only [Option.bind_eq_some_iff] at h3
      obtain ⟨xs, h4, h5⟩ := h3
      cases h5
      obtain ⟨v, h6, h7⟩ := iha.1 x h1
      obtain ⟨vs, h8, h9⟩ := ihr.2.2 xs h4
      have hc := (h7.cells h2).1.1
      refine ⟨(off, v) :: vs, by simp only [X.evp, h6, Option.bind_some]; rw [if_pos (by simp at hc; omega), h8]; rfl, ?_, ?_⟩
      · simp [h9.1]
      · exact RL.cons h7 h9.2
    · cases h3

theorem av_sound {c : Cfg} (hs : St c) {e : List A} {ev : List Value} (he : RL c.g c.σ e ev) {x : X} {a : A} (h : x.av e c.H = some a) : ∃ v, x.ev ev c.h = some v ∧ Rel c.g c.σ a v := (X.av_all hs he x).1 a h
theorem avs_sound {c : Cfg} (hs : St c) {e : List A} {ev : List Value} (he : RL c.g c.σ e ev) {x : X} {l : List A} (h : x.avs e c.H = some l) : ∃ vs, x.evs ev c.h = some vs ∧ RL c.g c.σ l vs := (X.av_all hs he x).2.1 l h
theorem avp_sound {c : Cfg} (hs : St c) {e : List A} {ev : List Value} (he : RL c.g c.σ e ev) {x : X} {qs : List (Nat × A)} (h : x.avp e c.H = some qs) : ∃ ps, x.evp ev c.h = some ps ∧ RP c.g c.σ qs ps := (X.av_all hs he x).2.2 qs h
end Go.Lft
