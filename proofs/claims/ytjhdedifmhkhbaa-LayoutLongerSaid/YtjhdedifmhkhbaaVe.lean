/- Statements over values without addresses, and that they mean what the small language's mean; contracts of calls; loops; forgetting and freezing; lending. Plain lemmas; no statement is claimed here. -/
import Derived.Test.YtjhdedifmhkhbaaVd
namespace Go.Lft
open Go
set_option linter.unusedVariables false
set_option linter.unusedSimpArgs false

def putA (e : List A) (d : Option Nat) (a : A) : List A :=
  match d with
  | some i => e.set i a
  | none => e

abbrev QA := Ex → List A → List Blk → Prop

def Lift (n0 : Nat) (c : Cfg) (Q : QA) : Ex → List Value → Heap → Prop :=
  fun x ev' h' => ∃ (e' : List A) (d : Cfg), d.h = h' ∧ Q x e' d.H ∧ Lat n0 c d ∧ St d ∧ RL d.g d.σ e' ev'
theorem Lift.up {n0 : Nat} {c d : Cfg} {Q : QA} (hl : Lat n0 c d) {x : Ex} {ev : List Value} {h : Heap} : Lift n0 d Q x ev h → Lift n0 c Q x ev h :=
  fun ⟨e, d', h1, h2, h3, h4, h5⟩ => ⟨e, d', h1, h2, hl.trans h3, h4, h5⟩

def AWP (P : Program) (n0 : Nat) (s : S) (Q : QA) (e : List A) (H : List Blk) : Prop :=
  ∀ (c : Cfg) (ev : List Value), c.H = H → n0 ≤ H.length → St c → RL c.g c.σ e ev → s.wp P (Lift n0 c Q) ev c.h

/-- A contract: from memory H the call comes back with a value and a memory that R allows. -/
def VR (P : Program) (kp : Bool) (f : Nat) (args : List A) (H : List Blk) (R : A → List Blk → Prop) : Prop :=
  ∀ (c : Cfg) (vs : List Value), c.H = H → St c → RL c.g c.σ args vs →
    Runs P f vs c.h fun v h' => (kp = true → Ext c.h h') ∧ ∃ (r : A) (d : Cfg), d.h = h' ∧ R r d.H ∧ Lat H.length c d ∧ St d ∧ Rel d.g d.σ r v

theorem VR.mono {P : Program} {kp : Bool} {f : Nat} {args : List A} {H : List Blk} {R R' : A → List Blk → Prop} (h : VR P kp f args H R) (hr : ∀ r H', R r H' → R' r H') : VR P kp f args H R' :=
  fun c vs h1 h2 h3 => (h c vs h1 h2 h3).mono fun v h' ⟨h4, r, d, h5, h6, h7⟩ => ⟨h4, r, d, h5, hr _ _ h6, h7⟩

def S.aw (P : Program) (n0 : Nat) : S → QA → List A → List Blk → Prop
  | .nxt, Q, e, H => Q .nxt e H
  | .set i x k, Q, e, H => bw (x.av e H) fun a => k.aw P n0 Q (e.set i a) H
  | .chk x k, Q, e, H => bw (x.av e H) fun _ => k.aw P n0 Q e H
  | .eff kp d f k, Q, e, H => f.aw kp e H fun a H' => k.aw P n0 Q (putA e d a) H'
  | .call kp d f as k, Q, e, H => bw (as.avs e H) fun l => VR P kp f l H fun a H' => AWP P n0 k Q (putA e d a) H'
  | .callv kp d f as k, Q, e, H => bw (f.av e H) fun fa => bw (as.avs e H) fun l => ∃ g caps, fa = .fn g caps ∧ bodied P g = true ∧ VR P kp g (l ++ caps) H fun a H' => AWP P n0 k Q (putA e d a) H'
  | .ite c a b, Q, e, H => ∃ t, c.av e H = some (.v (.bool t)) ∧ (match t with | true => a.aw P n0 Q e H | false => b.aw P n0 Q e H)
  | .both a b, Q, e, H => a.aw P n0 Q e H ∧ b.aw P n0 Q e H
  | .seq a b, Q, e, H => a.aw P n0 (fun x e H => match x with | .nxt => b.aw P n0 Q e H | x => Q x e H) e H
  | .blk id a, Q, e, H => a.aw P n0 (fun x e H => match x with | .exit i => if i = id then Q .nxt e H else Q (.exit i) e H | x => Q x e H) e H
  | .loop a, Q, e, H => AWP P n0 (.loop a) Q e H
  | .exit id, Q, e, H => Q (.exit id) e H
  | .ret, Q, e, H => Q .ret e H
  | .stop, _, _, _ => False

theorem RL.put {g : Bool → Heap} {σ : Nam} {e : List A} {ev : List Value} (he : RL g σ e ev) (d : Option Nat) {a : A} {v : Value} (ha : Rel g σ a v) : RL g σ (putA e d a) (put ev d v) := by
  cases d with
  | none => exact he
  | some i => exact he.set i ha

theorem Lat.names {c d : Cfg} (hs : St c) (hl : Lat c.H.length c d) : (∀ w, Ext (c.g w) (d.g w)) ∧ ∀ i ver p, c.σ i ver = some p → d.σ i ver = some p :=
  ⟨fun w => by cases w with
    | false => rw [hl.g0]; exact Ext.refl _
    | true => exact hl.g1, fun i ver p hp => hl.nam i ver p (by obtain ⟨B, h1, _⟩ := hs.nam i ver p hp; exact (List.getElem?_eq_some_iff.1 h1).1) hp⟩

theorem aw_sound {P : Program} {n0 : Nat} : ∀ {s : S} {Q : QA} {e : List A} {H : List Blk}, s.aw P n0 Q e H → AWP P n0 s Q e H := by
  intro s
  induction s with
  | nxt => intro Q e H h c ev hH hn hs he; subst hH; exact ⟨e, c, rfl, h, Lat.refl _ _, hs, he⟩
  | set i x k ih =>
    intro Q e H h c ev hH hn hs he; subst hH
    obtain ⟨a, h1, h2⟩ := h
    obtain ⟨v, h3, h4⟩ := av_sound hs he h1
    exact ⟨v, h3, ih h2 c _ rfl hn hs (he.set i h4)⟩
  | chk x k ih =>
    intro Q e H h c ev hH hn hs he; subst hH
    obtain ⟨a, h1, h2⟩ := h
    obtain ⟨v, h3, h4⟩ := av_sound hs he h1
    exact ⟨v, h3, ih h2 c _ rfl hn hs he⟩
  | eff kp d f k ih =>
    intro Q e H h c ev hH hn hs he; subst hH
    refine E.ok_mono ?_ (E.aw_sound n0 hs he h)
    rintro v h' ⟨hk, r, c', rfl, h2, h3, h4, h5, h6⟩
    exact ⟨hk, S.wp_mono k (fun x e' h'' hq => hq.up h3) (ih h2 c' _ rfl (h3.len hn) h4 (h6.put d h5))⟩
  | call kp d f as k ih =>
    intro Q e H h c ev hH hn hs he; subst hH
    obtain ⟨l, h1, h2⟩ := h
    obtain ⟨vs, h3, h4⟩ := avs_sound hs he h1
    refine ⟨vs, h3, (h2 c vs rfl hs h4).mono ?_⟩
    rintro v h' ⟨hk, r, c', rfl, h5, h6, h7, h8⟩
    obtain ⟨n1, n2⟩ := Lat.names hs h6
    have h9 := h6.lower hn rfl
    exact ⟨hk, S.wp_mono k (fun x e' h'' hq => hq.up h9) (h5 c' _ rfl (h9.len hn) h7 ((he.mono n1 n2).put d h8))⟩
  | callv kp d f as k ih =>
    intro Q e H h c ev hH hn hs he; subst hH
    obtain ⟨fa, h0, l, h1, g, caps, rfl, hb, h2⟩ := h
    obtain ⟨fv, e1, e2⟩ := av_sound hs he h0
    obtain ⟨vs, h3, h4⟩ := avs_sound hs he h1
    cases e2 with
    | fn g caps cvs k1 k2 =>
      refine ⟨g, cvs.toArray, vs, e1, h3, hb, (h2 c (vs ++ cvs) rfl hs (h4.app ⟨k1, k2⟩)).mono ?_⟩
      rintro v h' ⟨hk, r, c', rfl, h5, h6, h7, h8⟩
      obtain ⟨n1, n2⟩ := Lat.names hs h6
      have h9 := h6.lower hn rfl
      exact ⟨hk, S.wp_mono k (fun x e' h'' hq => hq.up h9) (h5 c' _ rfl (h9.len hn) h7 ((he.mono n1 n2).put d h8))⟩
  | ite q a b iha ihb =>
    intro Q e H h c ev hH hn hs he; subst hH
    obtain ⟨t, h1, h2⟩ := h
    obtain ⟨v, h3, h4⟩ := av_sound hs he h1
    cases h4
    refine ⟨t, h3, fun ht => ?_, fun ht => ?_⟩ <;> subst ht
    · exact iha h2 c ev rfl hn hs he
    · exact ihb h2 c ev rfl hn hs he
  | both a b iha ihb =>
    intro Q e H h c ev hH hn hs he; subst hH
    exact ⟨iha h.1 c ev rfl hn hs he, ihb h.2 c ev rfl hn hs he⟩
  | seq a b iha ihb =>
    intro Q e H h c ev hH hn hs he; subst hH
    refine S.wp_mono a (fun x e' h' hq => ?_) (iha h c ev rfl hn hs he)
    obtain ⟨e2, d, rfl, h2, h3, h4, h5⟩ := hq
    cases x with
    | nxt => exact S.wp_mono b (fun x e' h'' hq => hq.up h3) (ihb h2 d _ rfl (h3.len hn) h4 h5)
    | exit i => exact ⟨e2, d, rfl, h2, h3, h4, h5⟩
    | ret => exact ⟨e2, d, rfl, h2, h3, h4, h5⟩
  | blk id a iha =>
    intro Q e H h c ev hH hn hs he; subst hH
    refine S.wp_mono a (fun x e' h' hq => ?_) (iha h c ev rfl hn hs he)
    obtain ⟨e2, d, rfl, h2, h3, h4, h5⟩ := hq
    cases x with
    | nxt => exact ⟨e2, d, rfl, h2, h3, h4, h5⟩
    | exit i =>
      dsimp only at h2 ⊢
      split
      · rename_i hi; rw [if_pos hi] at h2; exact ⟨e2, d, rfl, h2, h3, h4, h5⟩
      · rename_i hi; rw [if_neg hi] at h2; exact ⟨e2, d, rfl, h2, h3, h4, h5⟩
    | ret => exact ⟨e2, d, rfl, h2, h3, h4, h5⟩
  | loop a ih => intro Q e H h; exact h
  | exit id => intro Q e H h c ev hH hn hs he; subst hH; exact ⟨e, c, rfl, h, Lat.refl _ _, hs, he⟩
  | ret => intro Q e H h c ev hH hn hs he; subst hH; exact ⟨e, c, rfl, h, Lat.refl _ _, hs, he⟩
  | stop => intro Q e H h; exact h.elim

/-! ### Forgetting and freezing -/
def Cut (n0 : Nat) (e : List A) (H : List Blk) (e' : List A) (H' : List Blk) : Prop :=
  ∀ (c : Cfg) (ev : List Value), c.H = H → n0 ≤ H.length → St c → RL c.g c.σ e ev → ∃ d : Cfg, d.H = H' ∧ d.h = c.h ∧ Lat n0 c d ∧ St d ∧ RL d.g d.σ e' ev

theorem AWP.cut {P : Program} {n0 : Nat} {s : S} {Q : QA} {e e' : List A} {H H' : List Blk} (hc : Cut n0 e H e' H') (h : AWP P n0 s Q e' H') : AWP P n0 s Q e H := by
  intro c ev hH hn hs he
  obtain ⟨d, h1, h2, h3, h4, h5⟩ := hc c ev hH hn hs he
  subst hH
  rw [← h2]
  exact S.wp_mono s (fun x e' h'' hq => hq.up h3) (h d ev h1 (h1 ▸ h3.len hn) h4 h5)

mutual
/-- All blocks that are named are below n. -/
def A.bd (n : Nat) : A → Bool
  | .any => true
  | .v _ => true
  | .agg l => A.bdL n l
  | .tup l => A.bdL n l
  | .fn _ l => A.bdL n l
  | .fs _ l => A.bdL n l
  | .fp _ l => A.bdL n l
  | .sl i _ _ _ _ => decide (i < n)
  | .lp i _ _ => decide (i < n)
  | .vs i _ _ _ => decide (i < n)
def A.bdL (n : Nat) : List A → Bool
  | [] => true
  | a :: l => a.bd n && A.bdL n l
end
theorem bdL_iff {n : Nat} : ∀ {l : List A}, A.bdL n l = true ↔ ∀ a ∈ l, a.bd n = true
  | [] => by simp [A.bdL]
  | a :: l => by simp [A.bdL, bdL_iff (l := l)]
theorem bd_cells {n : Nat} {a : A} {cs : List A} (h : a.bd n = true) (hc : a.cells = some cs) : A.bdL n cs = true := by
  cases a <;> simp only [A.cells] at hc <;> (split at hc <;> first | (cases hc; done) | (cases hc; first | exact h | (simp only [A.bdL, Bool.and_true]; exact h)))

theorem bdL_of {n : Nat} {l : List A} (h : ∀ (i : Nat) (a : A), l[i]? = some a → a.bd n = true) : A.bdL n l = true :=
  bdL_iff.2 fun a ha => by
    obtain ⟨i, hi, rfl⟩ := List.mem_iff_getElem.1 ha
    exact h i _ (by simp [hi])
theorem get_len {l : List A} {vs : List Value} (hl : l.length = vs.length) {i : Nat} {a : A} (h : l[i]? = some a) : vs[i]? = some (vs.getD i undef) := by
  have := (List.getElem?_eq_some_iff.1 h).1
  simp [show i < vs.length by omega]
theorem bd_of_cells {n : Nat} {a : A} {cs : List A} (hc : a.cells = some cs) (h : A.bdL n cs = true) : a.bd n = true := by
  cases a <;> simp only [A.cells] at hc <;> (split at hc <;> first | (cases hc; done) | (cases hc; first | exact h | (simp only [A.bdL, Bool.and_true] at h; exact h)))

theorem Rel.bd {c : Cfg} (hs : St c) {a : A} {v : Value} (h : Rel c.g c.σ a v) : a.bd c.H.length = true := by
  induction h with
  | any x => rfl
  | v x => rfl
  | agg l vs hl hr ih => exact bdL_of fun i a ha => ih i a _ ha (get_len hl ha)
  | tup l vs hl hr ih => exact bdL_of fun i a ha => ih i a _ ha (get_len hl ha)
  | fn f l vs hl hr ih => exact bdL_of fun i a ha => ih i a _ ha (get_len hl ha)
  | fs0 w a c => rfl
  | fs w l b o cp k f hc hl hr ih =>
    refine bdL_of fun i a ha => ?_
    obtain ⟨cs, h1, h2, h3⟩ := hl i a ha
    exact bd_of_cells h1 (bdL_of fun j q hj => ih i a cs j q _ ha h1 hj (get_len (by rw [h2, rd_len h3]) hj))
  | fp w l b o vs hd hr ih => exact bdL_of fun i a ha => ih i a _ ha (get_len (rd_len hd).symm ha)
  | sl i ver k o n b s o' cp hs' hn ho => obtain ⟨B, h1, _⟩ := hs.nam _ _ _ hs'; have := (List.getElem?_eq_some_iff.1 h1).1; simpa [A.bd] using this
  | lp i ver o b s hs' => obtain ⟨B, h1, _⟩ := hs.nam _ _ _ hs'; have := (List.getElem?_eq_some_iff.1 h1).1; simpa [A.bd] using this
  | vs0 i ver k hs' => obtain ⟨B, h1, _⟩ := hs.nam _ _ _ hs'; have := (List.getElem?_eq_some_iff.1 h1).1; simpa [A.bd] using this
  | vs i ver k n b s o' cp hs' hn ho => obtain ⟨B, h1, _⟩ := hs.nam _ _ _ hs'; have := (List.getElem?_eq_some_iff.1 h1).1; simpa [A.bd] using this
theorem RL.bd {c : Cfg} (hs : St c) {l : List A} {vs : List Value} (h : RL c.g c.σ l vs) : A.bdL c.H.length l = true :=
  bdL_of fun i a ha => (h.2 i a _ ha (get_len h.1 ha)).bd hs

/-- A value that names only blocks below n means the same where these are named alike. -/
theorem Rel.keep {g g' : Bool → Heap} {σ σ' : Nam} {n : Nat} (hg : ∀ w, Ext (g w) (g' w)) (hs : ∀ i ver p, i < n → σ i ver = some p → σ' i ver = some p) {a : A} {v : Value} (h : Rel g σ a v) : a.bd n = true → Rel g' σ' a v := by
  induction h with
  | any x => exact fun _ => .any x
  | v x => exact fun _ => .v x
  | agg l vs hl hr ih => exact fun hb => .agg l vs hl fun i a x h1 h2 => ih i a x h1 h2 (bdL_iff.1 hb a (List.mem_of_getElem? h1))
  | tup l vs hl hr ih => exact fun hb => .tup l vs hl fun i a x h1 h2 => ih i a x h1 h2 (bdL_iff.1 hb a (List.mem_of_getElem? h1))
  | fn f l vs hl hr ih => exact fun hb => .fn f l vs hl fun i a x h1 h2 => ih i a x h1 h2 (bdL_iff.1 hb a (List.mem_of_getElem? h1))
  | fs0 w a c => exact fun _ => .fs0 w a c
  | fs w l b o c k f hc hl hr ih =>
    exact fun hb => .fs w l b o c k f hc (fun i a ha => by obtain ⟨cs, h1, h2, h3⟩ := hl i a ha; exact ⟨cs, h1, h2, rd_ext (hg w) h3⟩)
      fun i a cs j q x h1 h2 h3 h4 => ih i a cs j q x h1 h2 h3 h4 (bdL_iff.1 (bd_cells (bdL_iff.1 hb a (List.mem_of_getElem? h1)) h2) q (List.mem_of_getElem? h3))
  | fp w l b o vs hd hr ih => exact fun hb => .fp w l b o vs (rd_ext (hg w) hd) fun i a x h1 h2 => ih i a x h1 h2 (bdL_iff.1 hb a (List.mem_of_getElem? h1))
  | sl i ver k o n' b s o' c hs' hn ho => exact fun hb => .sl i ver k o n' b s o' c (hs _ _ _ (by simpa [A.bd] using hb) hs') hn ho
  | lp i ver o b s hs' => exact fun hb => .lp i ver o b s (hs _ _ _ (by simpa [A.bd] using hb) hs')
  | vs0 i ver k hs' => exact fun hb => .vs0 i ver k (hs _ _ _ (by simpa [A.bd] using hb) hs')
  | vs i ver k n' b s o' c hs' hn ho => exact fun hb => .vs i ver k n' b s o' c (hs _ _ _ (by simpa [A.bd] using hb) hs') hn ho

/-- What becomes of memory when the blocks from m on are frozen. -/
def ownB (m : Nat) (c : Cfg) (b : Nat) : Prop := ∃ i B s, m ≤ i ∧ c.H[i]? = some B ∧ c.σ i B.ver = some (some (b, s))
open Classical in
noncomputable def cutg (m : Nat) (c : Cfg) : Bool → Heap := fun w b => if w = true ∧ ownB m c b then c.h b else c.g w b
def cuts (m : Nat) (σ : Nam) : Nam := fun i ver => if i < m then σ i ver else none

theorem cutg_ext {m : Nat} {c : Cfg} (hs : St c) (w : Bool) : Ext (c.g w) (cutg m c w) := fun b o hb => by
  unfold cutg; split
  · exact hs.ext w b o hb
  · exact hb
theorem cuts_le {m : Nat} {σ : Nam} (i ver : Nat) (p : Option (Nat × Nat)) (hi : i < m) (h : σ i ver = some p) : cuts m σ i ver = some p := by simp [cuts, hi, h]

/-- a may be seen as a'. -/
def Fz (m : Nat) (H : List Blk) (a a' : A) : Prop := ∀ (c : Cfg) (v : Value), c.H = H → St c → Rel c.g c.σ a v → Rel (cutg m c) (cuts m c.σ) a' v
def FzL (m : Nat) (H : List Blk) : List A → List A → Prop
  | [], [] => True
  | a :: l, b :: r => Fz m H a b ∧ FzL m H l r
  | _, _ => False
theorem FzL.rel {m : Nat} {H : List Blk} : ∀ {l r : List A}, FzL m H l r → ∀ {c : Cfg} {vs : List Value}, c.H = H → St c → RL c.g c.σ l vs → RL (cutg m c) (cuts m c.σ) r vs
  | [], [], _, c, vs, hH, hs, h => by rw [h.nil_inv]; exact RL.nil
  | a :: l, b :: r, hz, c, vs, hH, hs, h => by
    obtain ⟨x, xs, rfl, h1, h2⟩ := h.uncons
    exact RL.cons (hz.1 c x hH hs h1) (FzL.rel hz.2 hH hs h2)
  | [], _ :: _, hz, _, _, _, _, _ => hz.elim
  | _ :: _, [], hz, _, _, _, _, _ => hz.elim
theorem FzL.len {m : Nat} {H : List Blk} : ∀ {l r : List A}, FzL m H l r → l.length = r.length
  | [], [], _ => rfl
  | a :: l, b :: r, hz => by simp [FzL.len hz.2]
  | [], _ :: _, hz => hz.elim
  | _ :: _, [], hz => hz.elim

theorem Fz.any {m : Nat} {H : List Blk} {a : A} : Fz m H a .any := fun _ v _ _ _ => .any v
theorem Fz.refl {m : Nat} {H : List Blk} {a : A} (h : a.bd m = true) : Fz m H a a := fun c v hH hs hr => hr.keep (cutg_ext hs) cuts_le h
theorem FzL.refl {m : Nat} {H : List Blk} : ∀ {l : List A}, A.bdL m l = true → FzL m H l l
  | [], _ => trivial
  | a :: l, h => by simp [A.bdL] at h; exact ⟨Fz.refl h.1, FzL.refl h.2⟩
theorem Fz.agg {m : Nat} {H : List Blk} {l r : List A} (h : FzL m H l r) : Fz m H (.agg l) (.agg r) := fun c v hH hs hr => by
  cases hr with
  | agg l vs hl hr => have := FzL.rel h hH hs ⟨hl, hr⟩; exact .agg r vs this.1 this.2
theorem Fz.tup {m : Nat} {H : List Blk} {l r : List A} (h : FzL m H l r) : Fz m H (.tup l) (.tup r) := fun c v hH hs hr => by
  cases hr with
  | tup l vs hl hr => have := FzL.rel h hH hs ⟨hl, hr⟩; exact .tup r vs this.1 this.2
theorem Fz.fn {m : Nat} {H : List Blk} {f : Nat} {l r : List A} (h : FzL m H l r) : Fz m H (.fn f l) (.fn f r) := fun c v hH hs hr => by
  cases hr with
  | fn f l vs hl hr => have := FzL.rel h hH hs ⟨hl, hr⟩; exact .fn f r vs this.1 this.2

theorem flatA_get {k : Nat} : ∀ {els cs : List A}, flatA k els = some cs → cs.length = els.length * k ∧ ∀ i a, els[i]? = some a → a.cells = some ((cs.drop (i * k)).take k)
  | [], cs, h => by cases h; simp
  | a :: r, cs, h => by
    simp only [flatA, Option.bind_eq_some_iff] at h
    obtain ⟨ca, h1, h2⟩ := h
    split at h2
    · rename_i hk
      simp only [Option.bind_eq_some_iff] at h2
      obtain ⟨l, h3, h4⟩ := h2
      cases h4
      obtain ⟨g1, g2⟩ := flatA_get h3
      refine ⟨by simp only [List.length_append, List.length_cons]; rw [g1, hk, Nat.add_mul]; omega, fun i b hb => ?_⟩
      cases i with
      | zero => simp at hb; subst hb; rw [h1]; simp [← hk]
      | succ i =>
        simp at hb
        rw [g2 i b hb, show (i + 1) * k = ca.length + i * k by rw [Nat.add_mul, hk]; omega, List.drop_append, List.drop_eq_nil_of_le (as := ca) (by omega), Nat.add_sub_cancel_left]
        simp
    · cases h2

theorem rel_sl_fs {g : Bool → Heap} {σ : Nam} {w : Bool} {b t k n o o' c : Nat} {vs z : List Value} {l els : List A} (hh : g w b = some (.cells (vs ++ z).toArray t (0, 0))) (hl : RL g σ l vs)
    (hf : flatA k els = some ((l.drop o).take (n * k))) (hn : els.length = n) (ho : o + n * k ≤ l.length) (hc : n ≤ c) (hoc : 0 < c → o' = o) : Rel g σ (.fs w els) (.slice (some ⟨b, o', none⟩) n c) := by
  by_cases h0 : n = 0
  · subst h0
    have : els = [] := List.length_eq_zero_iff.1 hn
    subst this; exact .fs0 w _ _
  · have := hoc (by omega)
    subst this
    subst hn
    obtain ⟨_, hget⟩ := flatA_get hf
    have hvl := hl.1
    have hle : ∀ i, i < els.length → o' + i * k + k ≤ l.length := fun i hi => by
      have : (i + 1) * k ≤ els.length * k := Nat.mul_le_mul_right k hi
      rw [Nat.add_mul] at this; omega
    have hsub : ∀ i, i < els.length → ((((l.drop o').take (els.length * k)).drop (i * k)).take k) = (l.drop (o' + i * k)).take k := fun i hi => by
      have := hle i hi
      have h2 : i * k + k ≤ els.length * k := by
        have : (i + 1) * k ≤ els.length * k := Nat.mul_le_mul_right k hi
        rw [Nat.add_mul] at this; omega
      apply List.ext_getElem?
      intro j
      simp only [List.getElem?_take, List.getElem?_drop]
      by_cases hj : j < k
      · rw [if_pos hj, if_pos hj, if_pos (by omega)]; congr 1; omega
      · rw [if_neg hj, if_neg hj]
    refine .fs w els b o' c k (fun i => (vs.drop (o' + i * k)).take k) hc (fun i a ha => ?_) (fun i a cs j q x ha hcs hj hx => ?_)
    · have hi : i < els.length := (List.getElem?_eq_some_iff.1 ha).1
      refine ⟨_, hget i a ha, ?_, rd_front hh (by have := hle i hi; omega)⟩
      rw [hsub i hi]; have := hle i hi; simp; omega
    · have hi : i < els.length := (List.getElem?_eq_some_iff.1 ha).1
      rw [hget i a ha, hsub i hi] at hcs
      cases hcs
      exact ((hl.drop (o' + i * k)).take k).2 j q x hj hx

theorem rel_lp_fp {g : Bool → Heap} {σ : Nam} {w : Bool} {b t o : Nat} {vs z : List Value} {l : List A} (hh : g w b = some (.cells (vs ++ z).toArray t (0, 0))) (hl : RL g σ l vs) (ho : o ≤ l.length) : Rel g σ (.fp w (l.drop o)) (.pointer (some ⟨b, o, none⟩)) := by
  have hd := hl.drop o
  refine .fp w _ b o (vs.drop o) ?_ hd.2
  rw [rd_front hh (by have := hl.1; simp; omega)]
  congr 1
  apply List.take_of_length_le
  rw [hd.1]; exact Nat.le_refl _

theorem Fz.sl {m : Nat} {H : List Blk} {i ver k o n : Nat} {l r els : List A} (hi : m ≤ i) (hb : Lft.blkAt H i ver = some l) (hl : FzL m H l r) (hf : flatA k els = some ((r.drop o).take (n * k))) (hn : els.length = n) (ho : o + n * k ≤ r.length) :
    Fz m H (.sl i ver k o n) (.fs true els) := fun c v hH hs hr => by
  cases hr with
  | sl i ver k o n b s o' cp e1 e2 e3 =>
    subst hH
    obtain ⟨B, q1, q2, q3⟩ := blkAt_iff.1 hb
    subst q2; subst q3
    obtain ⟨b', s', vs, z, t, f1, f2, f3, f4, f5⟩ := (hs.blk i B q1).resolve_left (fun hx => by rw [e1] at hx; cases hx.1)
    rw [e1] at f1; cases f1
    have hh : cutg m c true b = some (.cells (vs ++ z).toArray t (0, 0)) := by
      unfold cutg; rw [if_pos ⟨rfl, i, B, s, hi, q1, e1⟩]; exact f3
    exact rel_sl_fs hh (FzL.rel hl rfl hs f5) hf hn ho e2 fun hc => (e3 hc).1
theorem Fz.vs {m : Nat} {H : List Blk} {i ver k n : Nat} {l r els : List A} (hi : m ≤ i) (hb : Lft.blkAt H i ver = some l) (hl : FzL m H l r) (hf : flatA k els = some (r.take (n * k))) (hn : els.length = n) (ho : n * k ≤ r.length) :
    Fz m H (.vs i ver k n) (.fs true els) := fun c v hH hs hr => by
  cases hr with
  | vs0 i ver k e1 =>
    have : els = [] := List.length_eq_zero_iff.1 hn
    subst this; exact .fs0 true _ _
  | vs i ver k n b s o' cp e1 e2 e3 =>
    subst hH
    obtain ⟨B, q1, q2, q3⟩ := blkAt_iff.1 hb
    subst q2; subst q3
    obtain ⟨b', s', vs, z, t, f1, f2, f3, f4, f5⟩ := (hs.blk i B q1).resolve_left (fun hx => by rw [e1] at hx; cases hx.1)
    rw [e1] at f1; cases f1
    have hh : cutg m c true b = some (.cells (vs ++ z).toArray t (0, 0)) := by
      unfold cutg; rw [if_pos ⟨rfl, i, B, s, hi, q1, e1⟩]; exact f3
    exact rel_sl_fs (o := 0) hh (FzL.rel hl rfl hs f5) (by simpa using hf) hn (by simpa using ho) e2 fun hc => (e3 hc).1
theorem Fz.lp {m : Nat} {H : List Blk} {i ver o : Nat} {l r : List A} (hi : m ≤ i) (hb : Lft.blkAt H i ver = some l) (hl : FzL m H l r) (ho : o ≤ r.length) : Fz m H (.lp i ver o) (.fp true (r.drop o)) := fun c v hH hs hr => by
  cases hr with
  | lp i ver o b s e1 =>
    subst hH
    obtain ⟨B, q1, q2, q3⟩ := blkAt_iff.1 hb
    subst q2; subst q3
    obtain ⟨b', s', vs, z, t, f1, f2, f3, f4, f5⟩ := (hs.blk i B q1).resolve_left (fun hx => by rw [e1] at hx; cases hx.1)
    rw [e1] at f1; cases f1
    have hh : cutg m c true b = some (.cells (vs ++ z).toArray t (0, 0)) := by
      unfold cutg; rw [if_pos ⟨rfl, i, B, s, hi, q1, e1⟩]; exact f3
    exact rel_lp_fp hh (FzL.rel hl rfl hs f5) ho

theorem Cut.of {n0 m : Nat} {e e' : List A} {H H' : List Blk} (hm : n0 ≤ m) (hl : H'.length = m)
    (hb : ∀ (i : Nat) (B' : Blk), H'[i]? = some B' → ∃ B, H[i]? = some B ∧ B.ver = B'.ver ∧ FzL m H B.cells B'.cells) (he : FzL m H e e') : Cut n0 e H e' H' := by
  intro c ev hH hn hs hr
  have hlt : ∀ i B, H'[i]? = some B → i < m := fun i B h => by rw [← hl]; exact (List.getElem?_eq_some_iff.1 h).1
  have hcs : ∀ i ver p, cuts m c.σ i ver = some p → i < m ∧ c.σ i ver = some p := fun i ver p hp => by
    unfold cuts at hp; split at hp
    · exact ⟨by assumption, hp⟩
    · cases hp
  refine ⟨⟨cutg m c, cuts m c.σ, H', c.h⟩, rfl, rfl, ?_, ?_, FzL.rel he hH hs hr⟩
  · refine ⟨?_, cutg_ext hs true, fun b hb' => ?_, fun b h => h, fun b o h _ => h, fun i B' b s h1 h2 => ?_, fun i ver p hi hp => cuts_le i ver p (by omega) hp, fun _ => by simp only; omega⟩
    · funext b; simp [cutg]
    · simp only [cutg] at hb'
      split at hb'
      · rename_i hx
        obtain ⟨_, i, B, s, k1, k2, k3⟩ := hx
        exact .inr (.inr ⟨i, B, s, by omega, k2, k3⟩)
      · exact .inl hb'
    · obtain ⟨h3, h4⟩ := hcs _ _ _ h2
      obtain ⟨B, h5, h6, _⟩ := hb i B' h1
      exact .inr ⟨i, B, s, by rw [hH]; exact h5, by rw [h6]; exact h4, .inl rfl⟩
  · refine ⟨fun w b o h => ?_, fun i B' h1 => ?_, fun i j B' C' b s t h1 h2 h3 h4 => ?_, fun i ver p hp => ?_⟩
    · simp only [cutg] at h
      split at h
      · exact h
      · exact hs.ext w b o h
    · obtain ⟨B, h2, h3, h4⟩ := hb i B' h1
      rcases hs.blk i B (by rw [hH]; exact h2) with ⟨k1, k2⟩ | ⟨b, s, vs, z, t, k1, k2, k3, k4, k5⟩
      · refine .inl ⟨cuts_le i _ _ (hlt i B' h1) (by rw [← h3]; exact k1), ?_⟩
        rw [k2] at h4
        cases hc : B'.cells with
        | nil => rfl
        | cons a r => rw [hc] at h4; exact h4.elim
      refine .inr ⟨b, s, vs, z, t, cuts_le i _ _ (hlt i B' h1) (by rw [← h3]; exact k1), fun w => ?_, k3, k4, FzL.rel h4 hH hs k5⟩
      simp only [cutg]
      rw [if_neg]
      · exact k2 w
      · rintro ⟨_, j, C, s', q1, q2, q3⟩
        have := hs.inj i j B C b s s' (by rw [hH]; exact h2) q2 k1 q3
        have := hlt i B' h1
        omega
    · obtain ⟨h5, h6⟩ := hcs _ _ _ h3
      obtain ⟨h7, h8⟩ := hcs _ _ _ h4
      obtain ⟨B, g1, g2, _⟩ := hb i B' h1
      obtain ⟨C, g3, g4, _⟩ := hb j C' h2
      exact hs.inj i j B C b s t (by rw [hH]; exact g1) (by rw [hH]; exact g3) (by rw [g2]; exact h6) (by rw [g4]; exact h8)
    · obtain ⟨h1, h2⟩ := hcs _ _ _ hp
      obtain ⟨B, h3, h4⟩ := hs.nam i ver p h2
      have hi : i < H'.length := by rw [hl]; exact h1
      obtain ⟨B2, h5, h6, _⟩ := hb i H'[i] (by simp [hi])
      rw [hH, h5] at h3; cases h3
      exact ⟨H'[i], by simp [hi], by rw [← h6]; exact h4⟩

theorem Cut.trans {n0 : Nat} {e e' e'' : List A} {H H' H'' : List Blk} (h : Cut n0 e H e' H') (k : Cut n0 e' H' e'' H'') : Cut n0 e H e'' H'' := by
  intro c ev hH hn hs he
  obtain ⟨d, h1, h2, h3, h4, h5⟩ := h c ev hH hn hs he
  obtain ⟨d', k1, k2, k3, k4, k5⟩ := k d ev h1 (by rw [← h1]; exact h3.len (by rw [hH]; exact hn)) h4 h5
  exact ⟨d', k1, k2.trans h2, h3.trans k3, k4, k5⟩
/-- A nil slice in a variable comes to name a block that is not there yet. -/
theorem Cut.virt {n0 : Nat} {e : List A} {H : List Blk} (j k : Nat) (hj : e[j]? = some (.v (.slice none 0 0))) : Cut n0 e H (e.set j (.vs H.length 0 k 0)) (H ++ [⟨0, []⟩]) := by
  intro c ev hH hn hs he
  subst hH
  obtain ⟨d1, d2, d3⟩ := hs.virt n0
  refine ⟨⟨c.g, nmd c.σ c.H.length 0 none, c.H ++ [⟨0, []⟩], c.h⟩, rfl, rfl, d2, d1, ?_⟩
  obtain ⟨x, hx, hxr⟩ := he.get hj
  cases hxr
  have h2 := (he.mono (fun _ => Ext.refl _) d3).set j (a := .vs c.H.length 0 k 0) (x := .slice none 0 0) (.vs0 _ _ _ (nam_same _ _ _ _))
  have h3 : ev.set j (.slice none 0 0) = ev := by
    apply List.ext_getElem?
    intro i
    rw [List.getElem?_set]
    split
    · rename_i hi; subst hi
      rw [if_pos (List.getElem?_eq_some_iff.1 hx).1, hx]
    · rfl
  rw [h3] at h2; exact h2
/-- The same in a cell of memory. -/
theorem Cut.virtB {n0 : Nat} {e : List A} {H : List Blk} (i ver j k : Nat) {l : List A} (hb : blkAt H i ver = some l) (hj : l[j]? = some (.v (.slice none 0 0))) : Cut n0 e H e ((H ++ [(⟨0, []⟩ : Blk)]).set i (⟨ver, l.set j (.vs H.length 0 k 0)⟩ : Blk)) := by
  intro c ev hH hn hs he
  subst hH
  obtain ⟨d1, d2, d3⟩ := hs.virt n0
  obtain ⟨B, q1, q2, q3⟩ := blkAt_iff.1 hb
  subst q2; subst q3
  have hlt : i < c.H.length := (List.getElem?_eq_some_iff.1 q1).1
  rcases hs.blk i B q1 with ⟨_, k0⟩ | ⟨b, s, vs, z, t, f1, f2, f3, f4, f5⟩
  · rw [k0] at hj; simp at hj
  · obtain ⟨x, hx, hxr⟩ := f5.get hj
    cases hxr
    have h2 := (f5.mono (fun _ => Ext.refl _) d3).set j (a := .vs c.H.length 0 k 0) (x := .slice none 0 0) (.vs0 _ _ _ (nam_same _ _ _ _))
    have h3 : vs.set j (.slice none 0 0) = vs := by
      apply List.ext_getElem?
      intro i
      rw [List.getElem?_set]
      split
      · rename_i hi; subst hi
        rw [if_pos (List.getElem?_eq_some_iff.1 hx).1, hx]
      · rfl
    rw [h3] at h2
    have d1' : St ⟨c.g, nmd c.σ c.H.length 0 none, c.H ++ [⟨0, []⟩], c.h⟩ := d1
    have q1' : (c.H ++ [(⟨0, []⟩ : Blk)])[i]? = some B := by rw [List.getElem?_append_left hlt]; exact q1
    obtain ⟨e1, e2, e3⟩ := St.turn d1' n0 q1' (v' := B.ver) (b' := b) (s' := s) (t := t) (vs := vs) (z := z) (Or.inl (And.intro (d3 _ _ _ f1) (Nat.le_refl _))) f4 h2
    have h4 : upd c.h b (.cells (vs ++ z).toArray t) = c.h := upd_self f3
    refine ⟨_, rfl, ?_, d2.trans e2, e1, (he.mono (fun _ => Ext.refl _) d3).mono (fun _ => Ext.refl _) e3⟩
    simp only; exact h4

/-! ### Loops -/
def lgA {α : Type} (n0 : Nat) (I : α → Prop) (env : α → List A) (mem : α → List Blk) (m : α → Nat) (n : Nat) (Q : QA) : QA := fun x e H => match x with | .nxt => ∃ a, I a ∧ m a < n ∧ Cut n0 e H (env a) (mem a) | x => Q x e H

theorem AWP.loop {P : Program} {n0 : Nat} {s : S} {Q : QA} {e : List A} {H : List Blk} {α : Type} (I : α → Prop) (env : α → List A) (mem : α → List Blk) (m : α → Nat) (a0 : α) (h0 : I a0) (hc : Cut n0 e H (env a0) (mem a0))
    (round : ∀ a, I a → AWP P n0 s (lgA n0 I env mem m (m a) Q) (env a) (mem a)) : AWP P n0 (.loop s) Q e H := by
  have key : ∀ (n : Nat) (a : α) (c : Cfg) (ev : List Value), m a < n → I a → c.H = mem a → n0 ≤ c.H.length → St c → RL c.g c.σ (env a) ev → loopN (fun Q e h => s.wp P Q e h) (Lift n0 c Q) n ev c.h := by
    intro n
    induction n with
    | zero => intro a c ev hn; omega
    | succ n ih =>
      intro a c ev hn hI hH hl hs he
      refine S.wp_mono s (fun x e' h' hq => ?_) (round a hI c ev hH (hH ▸ hl) hs he)
      obtain ⟨e2, d, rfl, h2, h3, h4, h5⟩ := hq
      cases x with
      | nxt =>
        obtain ⟨a', k1, k2, k3⟩ := h2
        obtain ⟨d', q1, q2, q3, q4, q5⟩ := k3 d _ rfl (h3.len hl) h4 h5
        have h6 := h3.trans q3
        rw [← q2]
        exact loopN_mono (F := fun Q e h => s.wp P Q e h) (fun _ _ hQ _ _ hw => S.wp_mono s hQ hw) (fun x e h hq => hq.up h6) n _ _ (ih a' d' _ (by omega) k1 q1 (h6.len hl) q4 q5)
      | exit i => exact ⟨e2, d, rfl, h2, h3, h4, h5⟩
      | ret => exact ⟨e2, d, rfl, h2, h3, h4, h5⟩
  intro c ev hH hn hs he
  obtain ⟨d, h1, h2, h3, h4, h5⟩ := hc c ev hH hn hs he
  refine ⟨m a0 + 1, ?_⟩
  rw [← h2]
  subst hH
  exact loopN_mono (F := fun Q e h => s.wp P Q e h) (fun _ _ hQ _ _ hw => S.wp_mono s hQ hw) (fun x e h hq => hq.up h3) _ _ _ (key _ a0 d ev (by omega) h0 h1 (h3.len hn) h4 h5)

/-! ### Functions -/
def envA (V : List Nat) (args : List A) : List A := V.map fun t => args.getD t .any
def resA (e : List A) (H : List Blk) : List X → Option (List A)
  | [] => some []
  | x :: r => (x.av e H).bind fun v => (resA e H r).bind fun l => some (v :: l)
def retA : List A → A
  | [a] => a
  | l => .tup l

def postA (n0 : Nat) (F : Fun) (R : A → List Blk → Prop) : QA := fun x e H =>
  match x with
  | .exit _ => False
  | _ => bw (resA e H F.res) fun l => ∃ r H', Cut n0 [retA l] H [r] H' ∧ R r H'

theorem resA_sound {c : Cfg} (hs : St c) {e : List A} {ev : List Value} (he : RL c.g c.σ e ev) : ∀ (xs : List X) (l : List A), resA e c.H xs = some l → ∃ vs, resV ev c.h xs = some vs ∧ RL c.g c.σ l vs
  | [], l, h => by cases h; exact ⟨[], rfl, RL.nil⟩
  | x :: r, l, h => by
    simp only [resA, Option.bind_eq_some_iff] at h
    obtain ⟨a, h1, m, h2, h3⟩ := h
    cases h3
    obtain ⟨v, h4, h5⟩ := av_sound hs he h1
    obtain ⟨vs, h6, h7⟩ := resA_sound hs he r m h2
    exact ⟨v :: vs, by simp [resV, h4, h6], RL.cons h5 h7⟩
theorem retA_sound {g : Bool → Heap} {σ : Nam} {l : List A} {vs : List Value} (h : RL g σ l vs) : Rel g σ (retA l) (retVal vs) := by
  cases l with
  | nil => rw [h.nil_inv]; exact .tup [] [] rfl fun i a x h => by simp at h
  | cons a r =>
    cases r with
    | nil => obtain ⟨x, xs, rfl, h1, h2⟩ := h.uncons; rw [h2.nil_inv]; exact h1
    | cons b r =>
      obtain ⟨x, xs, rfl, h1, h2⟩ := h.uncons
      obtain ⟨y, ys, rfl, h3, h4⟩ := h2.uncons
      exact .tup _ _ h.1 h.2

theorem VR.of {P : Program} {kp : Bool} {f nt : Nat} {F : Fun} {V : List Nat} (hrun : ∀ {vs : List Value} (_ : vs.length ≤ nt) {h : Heap} {R : Value → Heap → Prop} (_ : F.body.wp P (F.post R) (env0 V vs) h), Runs P f vs h R)
    {args : List A} {H : List Blk} {R : A → List Blk → Prop} (hlen : args.length ≤ nt) (hk : kp = false ∨ H = [])
    (hw : (∀ B ∈ H, A.bdL H.length B.cells = true) → A.bdL H.length args = true → AWP P H.length F.body (postA H.length F R) (envA V args) H) : VR P kp f args H R := by
  intro c vs hH hs ha
  subst hH
  have hbd : ∀ B ∈ c.H, A.bdL c.H.length B.cells = true := fun B hB => by
    obtain ⟨i, hi, rfl⟩ := List.mem_iff_getElem.1 hB
    rcases hs.blk i c.H[i] (by simp [hi]) with ⟨_, k5⟩ | ⟨b, s, vs, z, t, _, _, _, _, k5⟩
    · rw [k5]; rfl
    · exact k5.bd hs
  have henv : RL c.g c.σ (envA V args) (env0 V vs) := ⟨by simp [envA, env0], fun i a x h1 h2 => by
    simp only [envA, env0, List.getElem?_map, Option.map_eq_some_iff] at h1 h2
    obtain ⟨t, e1, rfl⟩ := h1
    obtain ⟨t', e2, rfl⟩ := h2
    rw [e1] at e2; cases e2
    exact ha.getD t⟩
  refine hrun (by rw [← ha.1]; exact hlen) (S.wp_mono F.body ?_ (hw hbd (ha.bd hs) c _ rfl (Nat.le_refl _) hs henv))
  rintro x ev h' ⟨e', d, rfl, h2, h3, h4, h5⟩
  have key : (bw (resA e' d.H F.res) fun l => ∃ r H', Cut c.H.length [retA l] d.H [r] H' ∧ R r H') →
      ∃ l, resV ev d.h F.res = some l ∧ ((kp = true → Ext c.h d.h) ∧ ∃ (r : A) (d' : Cfg), d'.h = d.h ∧ R r d'.H ∧ Lat c.H.length c d' ∧ St d' ∧ Rel d'.g d'.σ r (retVal l)) := by
    rintro ⟨l, k1, r, H', k2, k3⟩
    obtain ⟨ls, k4, k5⟩ := resA_sound h4 h5 _ _ k1
    obtain ⟨d', q1, q2, q3, q4, q5⟩ := k2 d _ rfl (h3.len (Nat.le_refl _)) h4 (RL.cons (retA_sound k5) RL.nil)
    refine ⟨ls, k4, fun hkp => ?_, r, d', q2, q1 ▸ k3, h3.trans q3, q4, ?_⟩
    · rcases hk with hk | hk
      · rw [hk] at hkp; cases hkp
      · exact fun b o hb => h3.frm b o hb fun i B s h1 => by rw [hk] at h1; simp at h1
    · obtain ⟨x, xs, e1, e2, _⟩ := q5.uncons
      injection e1 with e1 _; rw [e1]; exact e2
  cases x with
  | nxt => obtain ⟨l, k1, k2⟩ := key h2; exact ⟨l, k1, k2⟩
  | ret => obtain ⟨l, k1, k2⟩ := key h2; exact ⟨l, k1, k2⟩
  | exit i => exact h2.elim

/-- A contract of a law. -/
theorem VR.law {P : Program} {kp : Bool} {f : Nat} {args : List A} {vs : List Value} {h : Heap} (hv : VR P kp f args [] fun r _ => r = .v (.bool true)) (hr : RL (fun _ => h) (fun _ _ => none) args vs) :
    Runs P f vs h fun r h' => r = .bool true ∧ Ext h h' := by
  have hs : St ⟨fun _ => h, fun _ _ => none, [], h⟩ := ⟨fun _ => Ext.refl _, fun i B h => by simp at h, fun i j B C b s t h => by simp at h, fun i ver p h => by cases h⟩
  refine (hv ⟨fun _ => h, fun _ _ => none, [], h⟩ vs rfl hs hr).mono ?_
  rintro v h' ⟨_, r, d, rfl, rfl, h3, h4, h5⟩
  cases h5
  exact ⟨rfl, fun b o hb => h3.frm b o hb fun i B s h1 => by simp at h1⟩
end Go.Lft
