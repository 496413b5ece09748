/- Walking the small text: one equation for each kind of statement and expression. Plain lemmas; no statement is claimed here. -/
import Derived.Test.YtjhdedifmhkhbaaLk
import Derived.Laws.Bits64
namespace Go.Lft
open Go
set_option linter.unusedVariables false

/-! ### Words at which the walk stops looking ahead -/
def ob {α β : Type} (x : Option α) (f : α → Option β) : Option β := x.bind f
def bw {α : Type} (x : Option α) (k : α → Prop) : Prop := ∃ v, x = some v ∧ k v
def iw (x : Option Value) (K : Bool → Prop) : Prop := ∃ t, x = some (.bool t) ∧ K t
def ib (t : Bool) (K : Bool → Prop) : Prop := K t
def sq (P : Program) (b : S) (Q : Ex → List Value → Heap → Prop) : Ex → List Value → Heap → Prop := fun x e h => match x with | .nxt => b.wp P Q e h | x => Q x e h
def bk (id : Nat) (Q : Ex → List Value → Heap → Prop) : Ex → List Value → Heap → Prop := fun x e h => match x with | .exit i => if i = id then Q .nxt e h else Q (.exit i) e h | x => Q x e h
/-- The round of a loop: what the loop's exits mean. -/
def lp (I : List Value → Heap → Prop) (m : List Value → Heap → Nat) (n : Nat) (Q : Ex → List Value → Heap → Prop) : Ex → List Value → Heap → Prop := fun x e h => match x with | .nxt => I e h ∧ m e h < n | x => Q x e h

/-- The same, with a ghost: what has been done so far. -/
def lg {α : Type} (I : α → List Value → Heap → Prop) (m : α → Nat) (n : Nat) (Q : Ex → List Value → Heap → Prop) : Ex → List Value → Heap → Prop := fun x e h => match x with | .nxt => ∃ a, I a e h ∧ m a < n | x => Q x e h

/-! What is to be done next, by name: so the walk does not look at it before it is reached. -/
section
variable (P : Program) (Q : Ex → List Value → Heap → Prop) (e : List Value) (h : Heap) (d : Option Nat) (k : S)
def kset (i : Nat) : Value → Prop := fun v => k.wp P Q (e.set i v) h
def kchk {α : Type} : α → Prop := fun _ => k.wp P Q e h
def kret : Value → Heap → Prop := fun v h' => k.wp P Q (put e d v) h'
def kretk : Value → Heap → Prop := fun v h' => Ext h h' ∧ k.wp P Q (put e d v) h'
def kcall (f : Nat) (R : Value → Heap → Prop) : List Value → Prop := fun vs => Runs P f vs h R
def kbox (t : Nat) : Value → Prop := fun v => ∀ b, h b = none → k.wp P Q (put e d (.pointer (some ⟨b, 0, none⟩))) (upd h b (.cells v.cells t))
def klit (t len : Nat) : Array Value → Prop := fun cs => ∀ b, h b = none → k.wp P Q (put e d (.slice (some ⟨b, 0, none⟩) len len)) (upd h b (.cells cs t))
def kfill (c : Array Value) (K : Array Value → Prop) : List (Nat × Value) → Prop := fun vs => bw (fillv c vs) K
def kheap : Heap → Prop := fun h' => k.wp P Q (put e d undef) h'
def kmk (t size : Nat) (z : List Value) : Int → Int → Prop := fun li ci => ∀ b, h b = none → k.wp P Q (put e d (.slice (some ⟨b, 0, none⟩) li.toNat ci.toNat)) (upd h b (.cells (madeCells z.toArray (ci.toNat * size)) t))
def kif (a b : S) : Bool → Prop := fun t => match t with | true => a.wp P Q e h | false => b.wp P Q e h
def kpost (R : Value → Heap → Prop) : List Value → Prop := fun l => R (retVal l) h
end
theorem ob_congr {α β : Type} {x y : Option α} {f : α → Option β} (h : x = y) : ob x f = ob y f := by rw [h]
theorem bw_congr {α : Type} {x y : Option α} {k : α → Prop} (h : x = y) : bw x k = bw y k := by rw [h]
theorem iw_congr {x y : Option Value} {K : Bool → Prop} (h : x = y) : iw x K = iw y K := by rw [h]
theorem ib_congr {x y : Bool} {K : Bool → Prop} (h : x = y) : ib x K = ib y K := by rw [h]

theorem wp_congr {P : Program} {s : S} {Q : Ex → List Value → Heap → Prop} {e e' : List Value} {h h' : Heap} (h1 : e = e') (h2 : h = h') : S.wp P s Q e h = S.wp P s Q e' h' := by rw [h1, h2]
theorem sq_congr {P : Program} {s : S} {Q : Ex → List Value → Heap → Prop} {x x' : Ex} {e e' : List Value} {h h' : Heap} (h0 : x = x') (h1 : e = e') (h2 : h = h') : sq P s Q x e h = sq P s Q x' e' h' := by rw [h0, h1, h2]
theorem bk_congr {i : Nat} {Q : Ex → List Value → Heap → Prop} {x x' : Ex} {e e' : List Value} {h h' : Heap} (h0 : x = x') (h1 : e = e') (h2 : h = h') : bk i Q x e h = bk i Q x' e' h' := by rw [h0, h1, h2]
theorem lg_congr {α : Type} {I : α → List Value → Heap → Prop} {m : α → Nat} {n : Nat} {Q : Ex → List Value → Heap → Prop} {x x' : Ex} {e e' : List Value} {h h' : Heap} (h0 : x = x') (h1 : e = e') (h2 : h = h') : lg I m n Q x e h = lg I m n Q x' e' h' := by rw [h0, h1, h2]
theorem runs_congr {P : Program} {f : Nat} {as as' : List Value} {h h' : Heap} {R : Value → Heap → Prop} (h1 : as = as') (h2 : h = h') : Runs P f as h R = Runs P f as' h' R := by rw [h1, h2]
@[simp] theorem ob_some {α β : Type} (x : α) (f : α → Option β) : ob (some x) f = f x := rfl
@[simp] theorem ob_none {α β : Type} (f : α → Option β) : ob none f = none := rfl
@[simp] theorem bw_some {α : Type} (x : α) (k : α → Prop) : bw (some x) k = k x := by
  unfold bw; simp
@[simp] theorem iw_bool (t : Bool) (K : Bool → Prop) : iw (some (.bool t)) K = ib t K := by
  unfold iw ib; simp
@[simp] theorem ib_true (K : Bool → Prop) : ib true K = K true := rfl
@[simp] theorem ib_false (K : Bool → Prop) : ib false K = K false := rfl
theorem ib_pos {p : Prop} [Decidable p] {K : Bool → Prop} (h : p) : ib (decide p) K = K true := by simp [ib, h]
theorem ib_neg {p : Prop} [Decidable p] {K : Bool → Prop} (h : ¬ p) : ib (decide p) K = K false := by simp [ib, h]
theorem dec_t [Decidable True] : decide True = true := by simp
theorem dec_f [Decidable False] : decide False = false := by simp
theorem tand (p : Bool) : (true && p) = p := by simp
theorem andt (p : Bool) : (p && true) = p := by simp
theorem fand (p : Bool) : (false && p) = false := by simp
theorem andf (p : Bool) : (p && false) = false := by simp
theorem tor (p : Bool) : (true || p) = true := by simp
theorem ort (p : Bool) : (p || true) = true := by simp
theorem for_ (p : Bool) : (false || p) = p := by simp
theorem orf (p : Bool) : (p || false) = p := by simp
theorem not_t : (!true) = false := rfl
theorem not_f : (!false) = true := rfl
theorem bnf (b : Bool) : (b != false) = b := by simp
theorem bnt (b : Bool) : (b != true) = !b := by simp
theorem tb (b : Bool) : (true == b) = b := by simp
theorem fb (b : Bool) : (false == b) = !b := by simp
theorem bt (b : Bool) : (b == true) = b := by simp
theorem bf (b : Bool) : (b == false) = !b := by simp
theorem or_dec {p q : Prop} [Decidable p] [Decidable q] : (decide p || decide q) = decide (p ∨ q) := by simp
theorem and_dec {p q : Prop} [Decidable p] [Decidable q] : (decide p && decide q) = decide (p ∧ q) := by simp
theorem not_dec {p : Prop} [Decidable p] : (!decide p) = decide (¬ p) := by simp
theorem ib_intro {p : Prop} [Decidable p] {K : Bool → Prop} (h1 : p → K true) (h2 : ¬ p → K false) : ib (decide p) K := by
  unfold ib; by_cases h : p
  · simp only [h, decide_true]; exact h1 h
  · simp only [h, decide_false]; exact h2 h
theorem ib_split {t : Bool} {K : Bool → Prop} (h1 : t = true → K true) (h2 : t = false → K false) : ib t K := by
  cases t
  · exact h2 rfl
  · exact h1 rfl

@[simp] theorem sq_nxt (P : Program) (b : S) (Q : Ex → List Value → Heap → Prop) (e : List Value) (h : Heap) : sq P b Q .nxt e h = b.wp P Q e h := rfl
@[simp] theorem sq_exit (P : Program) (b : S) (Q : Ex → List Value → Heap → Prop) (i : Nat) (e : List Value) (h : Heap) : sq P b Q (.exit i) e h = Q (.exit i) e h := rfl
@[simp] theorem sq_ret (P : Program) (b : S) (Q : Ex → List Value → Heap → Prop) (e : List Value) (h : Heap) : sq P b Q .ret e h = Q .ret e h := rfl
@[simp] theorem bk_nxt (id : Nat) (Q : Ex → List Value → Heap → Prop) (e : List Value) (h : Heap) : bk id Q .nxt e h = Q .nxt e h := rfl
@[simp] theorem bk_ret (id : Nat) (Q : Ex → List Value → Heap → Prop) (e : List Value) (h : Heap) : bk id Q .ret e h = Q .ret e h := rfl
theorem bk_exit (id : Nat) (Q : Ex → List Value → Heap → Prop) (i : Nat) (e : List Value) (h : Heap) : bk id Q (.exit i) e h = if i = id then Q .nxt e h else Q (.exit i) e h := rfl
@[simp] theorem bk_same (id : Nat) (Q : Ex → List Value → Heap → Prop) (e : List Value) (h : Heap) : bk id Q (.exit id) e h = Q .nxt e h := by simp [bk_exit]
theorem bk_other {id i : Nat} (hne : (i == id) = false) (Q : Ex → List Value → Heap → Prop) (e : List Value) (h : Heap) : bk id Q (.exit i) e h = Q (.exit i) e h := by
  rw [bk_exit, if_neg (by simpa using hne)]
@[simp] theorem lp_nxt (I : List Value → Heap → Prop) (m : List Value → Heap → Nat) (n : Nat) (Q : Ex → List Value → Heap → Prop) (e : List Value) (h : Heap) : lp I m n Q .nxt e h = (I e h ∧ m e h < n) := rfl
@[simp] theorem lp_exit (I : List Value → Heap → Prop) (m : List Value → Heap → Nat) (n : Nat) (Q : Ex → List Value → Heap → Prop) (i : Nat) (e : List Value) (h : Heap) : lp I m n Q (.exit i) e h = Q (.exit i) e h := rfl
@[simp] theorem lp_ret (I : List Value → Heap → Prop) (m : List Value → Heap → Nat) (n : Nat) (Q : Ex → List Value → Heap → Prop) (e : List Value) (h : Heap) : lp I m n Q .ret e h = Q .ret e h := rfl

theorem lg_nxt {α : Type} (I : α → List Value → Heap → Prop) (m : α → Nat) (n : Nat) (Q : Ex → List Value → Heap → Prop) (e : List Value) (h : Heap) : lg I m n Q .nxt e h = ∃ a, I a e h ∧ m a < n := rfl
theorem lg_exit {α : Type} (I : α → List Value → Heap → Prop) (m : α → Nat) (n : Nat) (Q : Ex → List Value → Heap → Prop) (i : Nat) (e : List Value) (h : Heap) : lg I m n Q (.exit i) e h = Q (.exit i) e h := rfl
theorem lg_ret {α : Type} (I : α → List Value → Heap → Prop) (m : α → Nat) (n : Nat) (Q : Ex → List Value → Heap → Prop) (e : List Value) (h : Heap) : lg I m n Q .ret e h = Q .ret e h := rfl

section
variable {P : Program} {Q : Ex → List Value → Heap → Prop} {e : List Value} {h : Heap}

theorem w_nxt : (S.nxt).wp P Q e h = Q .nxt e h := rfl
theorem w_exit (i : Nat) : (S.exit i).wp P Q e h = Q (.exit i) e h := rfl
theorem w_ret : (S.ret).wp P Q e h = Q .ret e h := rfl
theorem w_set0 (i : Nat) (x : X) (k : S) : (S.set i x k).wp P Q e h = bw (x.ev e h) fun v => k.wp P Q (e.set i v) h := rfl
theorem w_chk0 (x : X) (k : S) : (S.chk x k).wp P Q e h = bw (x.ev e h) fun _ => k.wp P Q e h := rfl
theorem w_both (a b : S) : (S.both a b).wp P Q e h = (a.wp P Q e h ∧ b.wp P Q e h) := rfl
theorem w_seq (a b : S) : (S.seq a b).wp P Q e h = a.wp P (sq P b Q) e h := rfl
theorem w_blk (id : Nat) (a : S) : (S.blk id a).wp P Q e h = a.wp P (bk id Q) e h := rfl
theorem w_call0 (d : Option Nat) (f : Nat) (as : X) (k : S) : (S.call false d f as k).wp P Q e h = bw (as.evs e h) fun vs => Runs P f vs h fun v h' => k.wp P Q (put e d v) h' := by
  simp [S.wp, bw]
theorem w_callk0 (d : Option Nat) (f : Nat) (as : X) (k : S) : (S.call true d f as k).wp P Q e h = bw (as.evs e h) fun vs => Runs P f vs h fun v h' => Ext h h' ∧ k.wp P Q (put e d v) h' := by
  simp [S.wp, bw]
theorem w_alloc (d : Option Nat) (t : Nat) (z : List Value) (k : S) : (S.eff false d (.alloc t z) k).wp P Q e h = ∀ b, h b = none → k.wp P Q (put e d (.pointer (some ⟨b, 0, none⟩))) (upd h b (.cells z.toArray t)) := by
  simp [S.wp, E.ok]
theorem w_box0 (d : Option Nat) (t : Nat) (x : X) (k : S) : (S.eff false d (.box t x) k).wp P Q e h = bw (x.ev e h) fun v => ∀ b, h b = none → k.wp P Q (put e d (.pointer (some ⟨b, 0, none⟩))) (upd h b (.cells v.cells t)) := by
  simp [S.wp, E.ok, bw]
theorem w_lit0 (d : Option Nat) (t size len : Nat) (z : List Value) (ps : X) (k : S) : (S.eff false d (.lit t size len z ps) k).wp P Q e h = bw (ps.evp e h) fun vs => bw (fillv (madeCells z.toArray (len * size)) vs) fun cs => ∀ b, h b = none → k.wp P Q (put e d (.slice (some ⟨b, 0, none⟩) len len)) (upd h b (.cells cs t)) := by
  simp [S.wp, E.ok, bw]
theorem w_st (d : Option Nat) (n : Nat) (p v : X) (k : S) : (S.eff false d (.st n p v) k).wp P Q e h = bw (p.ev e h) fun pv => bw (v.ev e h) fun vv => ∃ b o h', pv = .pointer (some ⟨b, o, none⟩) ∧ vv.cells.size = n ∧ wr h b o vv.cells.toList = some h' ∧ k.wp P Q (put e d undef) h' := by
  simp only [S.wp, E.ok, bw, eq_iff_iff]
  constructor
  · rintro ⟨b, o, x, h', h1, h2, h3, h4, _, h5⟩; exact ⟨_, h1, _, h2, b, o, h', rfl, h3, h4, h5⟩
  · rintro ⟨pv, h1, vv, h2, b, o, h', rfl, h3, h4, h5⟩; exact ⟨b, o, vv, h', h1, h2, h3, h4, by simp, h5⟩
/-- A store of one cell. -/
def st1 (h : Heap) (p : Value) (v : Value) : Option Heap :=
  match p with
  | .pointer (some ⟨b, o, none⟩) => if v.cells.size = 1 then wr h b o v.cells.toList else none
  | _ => none
theorem w_st10 (d : Option Nat) (p v : X) (k : S) : (S.eff false d (.st 1 p v) k).wp P Q e h = bw (p.ev e h) fun pv => bw (v.ev e h) fun vv => bw (st1 h pv vv) fun h' => k.wp P Q (put e d undef) h' := by
  rw [w_st]
  unfold bw
  apply propext
  constructor
  · rintro ⟨pv, h1, vv, h2, b, o, h', rfl, h3, h4, h5⟩; exact ⟨_, h1, _, h2, h', by simp [st1, h3, h4], h5⟩
  · rintro ⟨pv, h1, vv, h2, h', h3, h4⟩
    unfold st1 at h3
    split at h3
    · rename_i b o
      split at h3
      · rename_i hs; exact ⟨_, h1, _, h2, b, o, h', rfl, hs, h3, h4⟩
      · cases h3
    · cases h3

/-- A store of more than one cell. -/
def stn (n : Nat) (h : Heap) (p : Value) (v : Value) : Option Heap :=
  match p with
  | .pointer (some ⟨b, o, none⟩) => if v.cells.size = n then wr h b o v.cells.toList else none
  | _ => none
theorem w_stn0 (d : Option Nat) (n : Nat) (p v : X) (k : S) : (S.eff false d (.st (n + 2) p v) k).wp P Q e h = bw (p.ev e h) fun pv => bw (v.ev e h) fun vv => bw (stn (n + 2) h pv vv) fun h' => k.wp P Q (put e d undef) h' := by
  rw [w_st]
  unfold bw
  apply propext
  constructor
  · rintro ⟨pv, h1, vv, h2, b, o, h', rfl, h3, h4, h5⟩; exact ⟨_, h1, _, h2, h', by simp [stn, h3, h4], h5⟩
  · rintro ⟨pv, h1, vv, h2, h', h3, h4⟩
    unfold stn at h3
    split at h3
    · rename_i b o
      split at h3
      · rename_i hs; exact ⟨_, h1, _, h2, b, o, h', rfl, hs, h3, h4⟩
      · cases h3
    · cases h3

/-- 'make' with numbers that fit. -/
def mkw (lv cv : Value) (bytes : Nat) (K : Int → Int → Prop) : Prop :=
  ∃ (kl kc : IntKind) (li ci : Int), lv = .int kl li ∧ cv = .int kc ci ∧ 0 ≤ li ∧ li ≤ ci ∧ (bytes : Int) * ci ≤ 281474976710656 ∧ ci ≤ 9223372036854775807 ∧ K li ci
theorem mkw_int {kl kc : IntKind} {li ci : Int} {bytes : Nat} {K : Int → Int → Prop} (h1 : 0 ≤ li) (h2 : li ≤ ci) (h3 : (bytes : Int) * ci ≤ 281474976710656) (h4 : ci ≤ 9223372036854775807) : mkw (.int kl li) (.int kc ci) bytes K = K li ci := by
  apply propext
  constructor
  · rintro ⟨_, _, _, _, e1, e2, _, _, _, _, hk⟩; cases e1; cases e2; exact hk
  · exact fun hk => ⟨_, _, _, _, rfl, rfl, h1, h2, h3, h4, hk⟩
theorem w_mk0 (d : Option Nat) (t size bytes : Nat) (z : List Value) (l c : X) (k : S) : (S.eff false d (.mk t size bytes z l c) k).wp P Q e h = bw (l.ev e h) fun lv => bw (c.ev e h) fun cv => mkw lv cv bytes fun li ci => ∀ b, h b = none → k.wp P Q (put e d (.slice (some ⟨b, 0, none⟩) li.toNat ci.toNat)) (upd h b (.cells (madeCells z.toArray (ci.toNat * size)) t)) := by
  apply propext
  simp only [S.wp, E.ok, bw, mkw]
  constructor
  · rintro ⟨kl, kc, li, ci, h1, h2, h3, h4, h5, h6, h7⟩; exact ⟨_, h1, _, h2, kl, kc, li, ci, rfl, rfl, h3, h4, h5, h6, fun b hb => (h7 b hb).2⟩
  · rintro ⟨lv, h1, cv, h2, kl, kc, li, ci, rfl, rfl, h3, h4, h5, h6, h7⟩; exact ⟨kl, kc, li, ci, h1, h2, h3, h4, h5, h6, fun b hb => ⟨by simp, h7 b hb⟩⟩

theorem w_loop {a : S} (I : List Value → Heap → Prop) (m : List Value → Heap → Nat) (h0 : I e h) (round : ∀ e h, I e h → a.wp P (lp I m (m e h) Q) e h) : (S.loop a).wp P Q e h :=
  wp_loop I m h0 fun e h hI => S.wp_mono a (fun x e' h' hx => by cases x <;> exact hx) (round e h hI)

theorem w_for {a : S} {α : Type} (I : α → List Value → Heap → Prop) (m : α → Nat) (g : α) (h0 : I g e h) (round : ∀ g e h, I g e h → a.wp P (lg I m (m g) Q) e h) : (S.loop a).wp P Q e h := by
  have key : ∀ n g e h, m g < n → I g e h → loopN (fun Q e h => a.wp P Q e h) Q n e h := by
    intro n
    induction n with
    | zero => intro g e h hn; omega
    | succ n ih =>
      intro g e h hn hI
      refine S.wp_mono a (fun x e' h' hx => ?_) (round g e h hI)
      cases x with
      | nxt => obtain ⟨g', h1, h2⟩ := hx; exact ih g' e' h' (by omega) h1
      | exit i => exact hx
      | ret => exact hx
  exact ⟨m g + 1, key _ g e h (by omega) h0⟩

section
variable {P : Program} {Q : Ex → List Value → Heap → Prop} {e : List Value} {h : Heap} {d : Option Nat} {k : S}
theorem kset_eq (i : Nat) (v : Value) : kset P Q e h k i v = k.wp P Q (e.set i v) h := rfl
theorem kchk_eq {α : Type} (v : α) : kchk P Q e h k v = k.wp P Q e h := rfl
theorem kret_eq (v : Value) (h' : Heap) : kret P Q e d k v h' = k.wp P Q (put e d v) h' := rfl
theorem kretk_eq (v : Value) (h' : Heap) : kretk P Q e h d k v h' = (Ext h h' ∧ k.wp P Q (put e d v) h') := rfl
theorem kcall_eq (f : Nat) (R : Value → Heap → Prop) (vs : List Value) : kcall P h f R vs = Runs P f vs h R := rfl
theorem kbox_eq (t : Nat) (v : Value) : kbox P Q e h d k t v = ∀ b, h b = none → k.wp P Q (put e d (.pointer (some ⟨b, 0, none⟩))) (upd h b (.cells v.cells t)) := rfl
theorem klit_eq (t len : Nat) (cs : Array Value) : klit P Q e h d k t len cs = ∀ b, h b = none → k.wp P Q (put e d (.slice (some ⟨b, 0, none⟩) len len)) (upd h b (.cells cs t)) := rfl
theorem kfill_eq (c : Array Value) (K : Array Value → Prop) (vs : List (Nat × Value)) : kfill c K vs = bw (fillv c vs) K := rfl
theorem kheap_eq (h' : Heap) : kheap P Q e d k h' = k.wp P Q (put e d undef) h' := rfl
theorem kmk_eq (t size : Nat) (z : List Value) (li ci : Int) : kmk P Q e h d k t size z li ci = ∀ b, h b = none → k.wp P Q (put e d (.slice (some ⟨b, 0, none⟩) li.toNat ci.toNat)) (upd h b (.cells (madeCells z.toArray (ci.toNat * size)) t)) := rfl
theorem kif_true (a b : S) : kif P Q e h a b true = a.wp P Q e h := rfl
theorem kif_false (a b : S) : kif P Q e h a b false = b.wp P Q e h := rfl
theorem kpost_eq (R : Value → Heap → Prop) (l : List Value) : kpost h R l = R (retVal l) h := rfl
end

section
variable {P : Program} {Q : Ex → List Value → Heap → Prop} {e : List Value} {h : Heap}
theorem w_set (i : Nat) (x : X) (k : S) : (S.set i x k).wp P Q e h = bw (x.ev e h) (kset P Q e h k i) := rfl
theorem w_chk (x : X) (k : S) : (S.chk x k).wp P Q e h = bw (x.ev e h) (kchk P Q e h k) := rfl
theorem w_ite (c : X) (a b : S) : (S.ite c a b).wp P Q e h = iw (c.ev e h) (kif P Q e h a b) := by
  apply propext
  constructor
  · rintro ⟨t, h1, h2, h3⟩; refine ⟨t, h1, ?_⟩; cases t
    · exact h3 rfl
    · exact h2 rfl
  · rintro ⟨t, h1, h2⟩; refine ⟨t, h1, fun ht => ?_, fun ht => ?_⟩ <;> subst ht <;> exact h2
theorem w_call (d : Option Nat) (f : Nat) (as : X) (k : S) : (S.call false d f as k).wp P Q e h = bw (as.evs e h) (kcall P h f (kret P Q e d k)) := w_call0 d f as k
theorem w_callk (d : Option Nat) (f : Nat) (as : X) (k : S) : (S.call true d f as k).wp P Q e h = bw (as.evs e h) (kcall P h f (kretk P Q e h d k)) := w_callk0 d f as k
theorem w_box (d : Option Nat) (t : Nat) (x : X) (k : S) : (S.eff false d (.box t x) k).wp P Q e h = bw (x.ev e h) (kbox P Q e h d k t) := w_box0 d t x k
theorem w_lit (d : Option Nat) (t size len : Nat) (z : List Value) (ps : X) (k : S) : (S.eff false d (.lit t size len z ps) k).wp P Q e h = bw (ps.evp e h) (kfill (madeCells z.toArray (len * size)) (klit P Q e h d k t len)) := w_lit0 d t size len z ps k
theorem w_st1 (d : Option Nat) (p v : X) (k : S) : (S.eff false d (.st 1 p v) k).wp P Q e h = bw (ob (p.ev e h) fun pv => ob (v.ev e h) fun vv => st1 h pv vv) (kheap P Q e d k) := by
  rw [w_st10]; unfold bw ob kheap; cases p.ev e h <;> cases v.ev e h <;> simp
theorem w_stn (d : Option Nat) (n : Nat) (p v : X) (k : S) : (S.eff false d (.st (n + 2) p v) k).wp P Q e h = bw (ob (p.ev e h) fun pv => ob (v.ev e h) fun vv => stn (n + 2) h pv vv) (kheap P Q e d k) := by
  rw [w_stn0]; unfold bw ob kheap; cases p.ev e h <;> cases v.ev e h <;> simp
def kmk2 (lv : Value) (bytes : Nat) (K : Int → Int → Prop) : Value → Prop := fun cv => mkw lv cv bytes K
def kmk1 (c : Option Value) (bytes : Nat) (K : Int → Int → Prop) : Value → Prop := fun lv => bw c (kmk2 lv bytes K)
theorem kmk2_eq (lv : Value) (bytes : Nat) (K : Int → Int → Prop) (cv : Value) : kmk2 lv bytes K cv = mkw lv cv bytes K := rfl
theorem kmk1_eq (c : Option Value) (bytes : Nat) (K : Int → Int → Prop) (lv : Value) : kmk1 c bytes K lv = bw c (kmk2 lv bytes K) := rfl
theorem w_mk (d : Option Nat) (t size bytes : Nat) (z : List Value) (l c : X) (k : S) : (S.eff false d (.mk t size bytes z l c) k).wp P Q e h = bw (l.ev e h) (kmk1 (c.ev e h) bytes (kmk P Q e h d k t size z)) := w_mk0 d t size bytes z l c k
theorem post_ret (F : Fun) (R : Value → Heap → Prop) : F.post R .ret e h = bw (resV e h F.res) (kpost h R) := rfl
theorem post_nxt (F : Fun) (R : Value → Heap → Prop) : F.post R .nxt e h = bw (resV e h F.res) (kpost h R) := rfl
end

/-! ### Expressions -/

def lenv : Value → Option Value
  | .slice _ n _ => some (.int .i64 n)
  | _ => none
def nth : List Value → Nat → Option Value
  | [], _ => none
  | a :: _, 0 => some a
  | _ :: l, n + 1 => nth l n
theorem nth_get : ∀ (l : List Value) (i : Nat), nth l i = l[i]?
  | [], _ => by simp [nth]
  | a :: l, 0 => by simp [nth]
  | a :: l, n + 1 => by simp [nth, nth_get l n]
theorem nth_zero (a : Value) (l : List Value) : nth (a :: l) 0 = some a := rfl
theorem nth_succ (a : Value) (l : List Value) (n : Nat) : nth (a :: l) (n + 1) = nth l n := rfl
def idxv (n : Nat) (x i : Value) : Option Value := k2v (.idx n) x i
def ld1v (h : Heap) (p : Value) : Option Value := k1v .ld1 p h
def ldav (n : Nat) (h : Heap) (p : Value) : Option Value := k1v (.lda n) p h
def itx (x : Option Value) (A B : Option Value) : Option Value := x.bind fun v => match v with | .bool true => A | .bool false => B | _ => none
theorem itx_congr {x y : Option Value} {A B : Option Value} (h : x = y) : itx x A B = itx y A B := by rw [h]
@[simp] theorem itx_true (A B : Option Value) : itx (some (.bool true)) A B = A := rfl
@[simp] theorem itx_false (A B : Option Value) : itx (some (.bool false)) A B = B := rfl
theorem itx_pos {p : Prop} [Decidable p] {A B : Option Value} (h : p) : itx (some (.bool (decide p))) A B = A := by simp [h]
theorem itx_neg {p : Prop} [Decidable p] {A B : Option Value} (h : ¬ p) : itx (some (.bool (decide p))) A B = B := by simp [h]
/-- 'p or q', 'p and q' where both are known. -/
theorem itx_or (t u : Bool) : itx (some (.bool t)) (some (.bool true)) (some (.bool u)) = some (.bool (t || u)) := by cases t <;> rfl
theorem itx_and (t u : Bool) : itx (some (.bool t)) (some (.bool u)) (some (.bool false)) = some (.bool (t && u)) := by cases t <;> rfl

theorem x_var (i : Nat) : (X.var i).ev e h = some (e.getD i undef) := rfl
theorem x_lit (v : Value) : (X.lit v).ev e h = some v := rfl
theorem x_len (a : X) : (X.u .len a).ev e h = ob (a.ev e h) lenv := by
  simp only [X.ev, ob]; congr 1; funext x; cases x <;> rfl
theorem x_nilc (a : X) : (X.u .nilc a).ev e h = ob (a.ev e h) fun x => k1v .nilc x h := rfl
theorem x_fld (n : Nat) (a : X) : (X.u (.fld n) a).ev e h = ob (a.ev e h) fun x => k1v (.fld n) x h := rfl
theorem x_ld1 (a : X) : (X.u .ld1 a).ev e h = ob (a.ev e h) (ld1v h) := rfl
theorem x_lda (n : Nat) (a : X) : (X.u (.lda n) a).ev e h = ob (a.ev e h) (ldav n h) := rfl
theorem x_un (op : UnOp) (a : X) : (X.u (.un op) a).ev e h = ob (a.ev e h) fun x => k1v (.un op) x h := rfl
theorem x_prt (n : Nat) (a : X) : (X.u (.prt n) a).ev e h = ob (a.ev e h) fun x => k1v (.prt n) x h := rfl
theorem x_prta (n k : Nat) (a : X) : (X.u (.prta n k) a).ev e h = ob (a.ev e h) fun x => k1v (.prta n k) x h := rfl
theorem x_ext (n : Nat) (a : X) : (X.u (.ext n) a).ev e h = ob (a.ev e h) fun x => k1v (.ext n) x h := rfl
theorem x_conv (k : IntKind) (a : X) : (X.u (.conv k) a).ev e h = ob (a.ev e h) fun x => k1v (.conv k) x h := rfl
theorem x_bin (op : BinOp) (a c : X) : (X.b (.bin op) a c).ev e h = ob (a.ev e h) fun x => ob (c.ev e h) fun y => k2v (.bin op) x y := rfl
theorem x_eqb (g : Bool) (a c : X) : (X.b (.eqb g) a c).ev e h = ob (a.ev e h) fun x => ob (c.ev e h) fun y => k2v (.eqb g) x y := rfl
theorem x_eqp (g : Bool) (a c : X) : (X.b (.eqp g) a c).ev e h = ob (a.ev e h) fun x => ob (c.ev e h) fun y => k2v (.eqp g) x y := rfl
theorem x_eqs (g : Bool) (a c : X) : (X.b (.eqs g) a c).ev e h = ob (a.ev e h) fun x => ob (c.ev e h) fun y => k2v (.eqs g) x y := rfl
theorem x_idxa (l n : Nat) (a c : X) : (X.b (.idxa l n) a c).ev e h = ob (a.ev e h) fun x => ob (c.ev e h) fun y => k2v (.idxa l n) x y := rfl
theorem x_ixv (l n : Nat) (g : Bool) (a c : X) : (X.b (.ixv l n g) a c).ev e h = ob (a.ev e h) fun x => ob (c.ev e h) fun y => k2v (.ixv l n g) x y := rfl
theorem x_mx (a c : X) : (X.b .mx a c).ev e h = ob (a.ev e h) fun x => ob (c.ev e h) fun y => k2v .mx x y := rfl
theorem x_mn (a c : X) : (X.b .mn a c).ev e h = ob (a.ev e h) fun x => ob (c.ev e h) fun y => k2v .mn x y := rfl
theorem x_ixs (a c : X) : (X.b .ixs a c).ev e h = ob (a.ev e h) fun x => ob (c.ev e h) fun y => k2v .ixs x y := rfl
theorem x_idx (n : Nat) (a c : X) : (X.b (.idx n) a c).ev e h = ob (a.ev e h) fun x => ob (c.ev e h) fun y => idxv n x y := rfl
theorem x_ite (c a d : X) : (X.ite c a d).ev e h = itx (c.ev e h) (a.ev e h) (d.ev e h) := rfl
theorem x_fn (f : Nat) (c : X) : (X.fn f c).ev e h = ob (c.evs e h) fun vs => some (.func (.func f) #[] vs.toArray) := by
  simp only [X.ev, ob]; cases c.evs e h <;> rfl
theorem x_bld (z : List Value) (p : X) : (X.bld z p).ev e h = ob (p.evp e h) fun vs => ob (fillv z.toArray vs) fun cs => some (.agg cs) := by
  simp only [X.ev, ob]; cases p.evp e h with
  | none => rfl
  | some vs => simp only [Option.bind_some]; cases fillv z.toArray vs <;> rfl
theorem xs_nl : (X.nl).evs e h = some [] := rfl
theorem xs_cn (a r : X) : (X.cn a r).evs e h = ob (a.ev e h) fun x => ob (r.evs e h) fun xs => some (x :: xs) := by
  simp only [X.evs, ob]; cases a.ev e h with
  | none => rfl
  | some v => simp only [Option.bind_some]; cases r.evs e h <;> rfl
theorem xp_nl : (X.nl).evp e h = some [] := rfl
theorem xp_pl (off size : Nat) (a r : X) : (X.pl off size a r).evp e h = ob (a.ev e h) fun x => if x.cells.size = size then ob (r.evp e h) fun xs => some ((off, x) :: xs) else none := by
  simp only [X.evp, ob]; cases a.ev e h with
  | none => rfl
  | some v =>
    simp only [Option.bind_some]
    split
    · cases r.evp e h <;> rfl
    · rfl

/-! ### Operations on numbers -/
theorem b_add (k : IntKind) (a b : Int) : k2v (.bin .add) (.int k a) (.int k b) = some (.int k (k.wrap (a + b))) := by cases k <;> rfl
theorem b_sub (k : IntKind) (a b : Int) : k2v (.bin .sub) (.int k a) (.int k b) = some (.int k (k.wrap (a - b))) := by cases k <;> rfl
theorem b_mul (k : IntKind) (a b : Int) : k2v (.bin .mul) (.int k a) (.int k b) = some (.int k (k.wrap (a * b))) := by cases k <;> rfl
theorem b_lss (k : IntKind) (a b : Int) : k2v (.bin .lss) (.int k a) (.int k b) = some (.bool (decide (a < b))) := by cases k <;> rfl
theorem b_leq (k : IntKind) (a b : Int) : k2v (.bin .leq) (.int k a) (.int k b) = some (.bool (decide (a ≤ b))) := by cases k <;> rfl
theorem b_gtr (k : IntKind) (a b : Int) : k2v (.bin .gtr) (.int k a) (.int k b) = some (.bool (decide (b < a))) := by cases k <;> rfl
theorem b_geq (k : IntKind) (a b : Int) : k2v (.bin .geq) (.int k a) (.int k b) = some (.bool (decide (b ≤ a))) := by cases k <;> rfl
theorem b_eql (k : IntKind) (a b : Int) : k2v (.bin .eql) (.int k a) (.int k b) = some (.bool (decide (a = b))) := by
  have : k2v (.bin .eql) (.int k a) (.int k b) = some (.bool (a == b)) := by cases k <;> rfl
  rw [this]; congr 2
theorem b_neq (k : IntKind) (a b : Int) : k2v (.bin .neq) (.int k a) (.int k b) = some (.bool (decide (a ≠ b))) := by
  have : k2v (.bin .neq) (.int k a) (.int k b) = some (.bool (a != b)) := by cases k <;> rfl
  rw [this]; congr 2
  by_cases hab : a = b <;> simp [hab, bne]
theorem b_quo (k : IntKind) (a b : Int) (hb : b ≠ 0) : k2v (.bin .quo) (.int k a) (.int k b) = some (.int k (k.wrap (a.tdiv b))) := by
  cases k <;> simp [k2v, binOp, Op.intDiv, hb, pureV] <;> rfl
theorem b_rem (k : IntKind) (a b : Int) (hb : b ≠ 0) : k2v (.bin .rem) (.int k a) (.int k b) = some (.int k (a.tmod b)) := by
  cases k <;> simp [k2v, binOp, Op.intDiv, hb, pureV] <;> rfl
theorem u_not (b : Bool) : k1v (.un .not) (.bool b) h = some (.bool !b) := rfl
theorem u_neg (k : IntKind) (n : Int) : k1v (.un .neg) (.int k n) h = some (.int k (k.wrap (0 - n))) := by cases k <;> rfl

theorem wrap_in {n : Int} (h1 : -9223372036854775808 ≤ n) (h2 : n ≤ 9223372036854775807) : IntKind.wrap .i64 n = n := by
  rw [IntKind.wrap_i64]; omega
theorem wrap_u64 {n : Int} (h1 : 0 ≤ n) (h2 : n ≤ 18446744073709551615) : IntKind.wrap .u64 n = n := by
  simp [IntKind.wrap, IntKind.bits, IntKind.signed]; omega
theorem tdiv_pos {a b : Int} (h1 : 0 ≤ a) : a.tdiv b = a / b := Int.tdiv_eq_ediv_of_nonneg h1
theorem tmod_pos {a b : Int} (h1 : 0 ≤ a) : a.tmod b = a % b := Int.tmod_eq_emod_of_nonneg h1

theorem len_slice (a : Option Addr) (n c : Nat) : lenv (.slice a n c) = some (.int .i64 n) := rfl
theorem nilc_ptr (a : Addr) : k1v .nilc (.pointer (some a)) h = some (.pointer (some a)) := rfl
theorem nilc_fn (f : Nat) (p q : Array Value) : k1v .nilc (.func (.func f) p q) h = some (.func (.func f) p q) := rfl
theorem fld_ptr (n b o : Nat) : k1v (.fld n) (.pointer (some ⟨b, o, none⟩)) h = some (.pointer (some ⟨b, o + n, none⟩)) := rfl
theorem ext_tup (i : Nat) (vs : List Value) : k1v (.ext i) (.tuple vs.toArray) h = nth vs i := by
  rw [nth_get]; simp [k1v]
theorem prt_agg (i : Nat) (vs : List Value) : k1v (.prt i) (.agg vs.toArray) h = nth vs i := by
  rw [nth_get]; simp [k1v]
theorem prta_agg (i n : Nat) (vs : List Value) : k1v (.prta i n) (.agg vs.toArray) h = some (.agg ((vs.drop i).take n).toArray) := by
  simp [k1v, List.take_drop]
theorem isn : (none : Option Addr).isNone = true := rfl
theorem isno (a : Addr) : (some a).isNone = false := rfl
theorem eqp_nn (neg : Bool) (b : Option Addr) : k2v (.eqp neg) (.pointer none) (.pointer b) = some (.bool (b.isNone != neg)) := rfl
theorem eqp_sn (neg : Bool) (a : Addr) : k2v (.eqp neg) (.pointer (some a)) (.pointer none) = some (.bool neg) := rfl
theorem eqb_b (neg a b : Bool) : k2v (.eqb neg) (.bool a) (.bool b) = some (.bool ((a == b) != neg)) := rfl
theorem eqs_nn (neg : Bool) (l c m d : Nat) (b : Option Addr) : k2v (.eqs neg) (.slice none l c) (.slice b m d) = some (.bool (b.isNone != neg)) := rfl
theorem eqs_sn (neg : Bool) (a : Addr) (l c m d : Nat) : k2v (.eqs neg) (.slice (some a) l c) (.slice none m d) = some (.bool neg) := rfl
theorem idxa_in {len n b o : Nat} {k : IntKind} {i : Int} (h1 : 0 ≤ i) (h2 : i < len) : k2v (.idxa len n) (.pointer (some ⟨b, o, none⟩)) (.int k i) = some (.pointer (some ⟨b, o + i.toNat * n, none⟩)) := by
  simp [k2v, h1, h2]
theorem idx_in {n b o len cap : Nat} {k : IntKind} {i : Int} (h1 : 0 ≤ i) (h2 : i < len) : idxv n (.slice (some ⟨b, o, none⟩) len cap) (.int k i) = some (.pointer (some ⟨b, o + i.toNat * n, none⟩)) := by
  simp [idxv, k2v, h1, h2]
theorem ld1_of {b o : Nat} {v : Value} (hr : rd h b o 1 = some [v]) : ld1v h (.pointer (some ⟨b, o, none⟩)) = some v := by
  simp [ld1v, k1v, hr]
theorem lda_of {b o n : Nat} {vs : List Value} (hr : rd h b o n = some vs) : ldav n h (.pointer (some ⟨b, o, none⟩)) = some (.agg vs.toArray) := by
  simp [ldav, k1v, hr]

theorem mx_int (k : IntKind) (a b : Int) : k2v .mx (.int k a) (.int k b) = some (.int k (max a b)) := by
  simp only [k2v, if_true]; congr 2; split <;> omega
theorem mn_int (k : IntKind) (a b : Int) : k2v .mn (.int k a) (.int k b) = some (.int k (min a b)) := by
  simp only [k2v, if_true]; congr 2; split <;> omega
theorem conv_int (k k' : IntKind) (n : Int) : k1v (.conv k) (.int k' n) h = some (.int k (k.wrap n)) := rfl
theorem put_some (i : Nat) (v : Value) : put e (some i) v = e.set i v := rfl
theorem put_none (v : Value) : put e none v = e := rfl

theorem post_ret0 (F : Fun) (R : Value → Heap → Prop) : F.post R .ret e h = bw (resV e h F.res) fun l => R (retVal l) h := rfl
theorem post_nxt0 (F : Fun) (R : Value → Heap → Prop) : F.post R .nxt e h = bw (resV e h F.res) fun l => R (retVal l) h := rfl
theorem res_nil : resV e h [] = some [] := rfl
theorem res_cons (x : X) (r : List X) : resV e h (x :: r) = ob (x.ev e h) fun v => ob (resV e h r) fun l => some (v :: l) := by
  simp only [resV, ob]; cases x.ev e h with
  | none => rfl
  | some v => simp only [Option.bind_some]; cases resV e h r <;> rfl
theorem ret_one (v : Value) : retVal [v] = v := rfl
theorem ret_two (v u : Value) : retVal [v, u] = .tuple #[v, u] := rfl
theorem ret_nil : retVal [] = .tuple #[] := rfl
theorem ret_three (v u w : Value) : retVal [v, u, w] = .tuple #[v, u, w] := rfl

end

/-! ### Building values -/
theorem l_cons (v : Value) (l : List Value) : (v :: l).length = l.length + 1 := rfl
theorem l_nil : ([] : List Value).length = 0 := rfl
theorem r_succ (v : Value) (n : Nat) : List.replicate (n + 1) v = v :: List.replicate n v := rfl
theorem r_zero (v : Value) : List.replicate 0 v = [] := rfl
theorem t_zero (l : List Value) : l.take 0 = [] := rfl
theorem t_succ (v : Value) (l : List Value) (n : Nat) : (v :: l).take (n + 1) = v :: l.take n := rfl
theorem d_zero (l : List Value) : l.drop 0 = l := rfl
theorem d_succ (v : Value) (l : List Value) (n : Nat) : (v :: l).drop (n + 1) = l.drop n := rfl
theorem c_app (v : Value) (l m : List Value) : (v :: l) ++ m = v :: (l ++ m) := rfl
theorem n_app (m : List Value) : ([] : List Value) ++ m = m := rfl
theorem i_true {α : Type} [Decidable True] (a b : α) : (if True then a else b) = a := if_pos trivial
theorem i_false {α : Type} [Decidable False] (a b : α) : (if False then a else b) = b := if_neg id
theorem i_pos {α : Type} {p : Prop} [Decidable p] (a b : α) (h : p) : (if p then a else b) = a := if_pos h
theorem i_neg {α : Type} {p : Prop} [Decidable p] (a b : α) (h : ¬ p) : (if p then a else b) = b := if_neg h
theorem ce_int (k : IntKind) (n : Int) : (Value.int k n).cells = #[.int k n] := rfl
theorem ce_bool (b : Bool) : (Value.bool b).cells = #[.bool b] := rfl
theorem ce_ptr (a : Option Addr) : (Value.pointer a).cells = #[.pointer a] := rfl
theorem ce_slice (a : Option Addr) (n c : Nat) : (Value.slice a n c).cells = #[.slice a n c] := rfl
theorem ce_str (s : ByteArray) : (Value.string s).cells = #[.string s] := rfl
theorem ce_agg (cs : Array Value) : (Value.agg cs).cells = cs := rfl
theorem sz_one (v : Value) : (#[v] : Array Value).size = 1 := rfl
theorem sz_list (l : List Value) : l.toArray.size = l.length := rfl
theorem fill_nil (c : Array Value) : fillv c [] = some c := rfl
theorem fill_one {v : Value} (hv : v.cells = #[v]) (l : List Value) (off : Nat) (r : List (Nat × Value)) : fillv l.toArray ((off, v) :: r) = if off < l.length then fillv (l.set off v).toArray r else none := by
  simp only [fillv, hv, List.size_toArray, l_cons, l_nil]
  by_cases h : off < l.length
  · rw [if_pos (by omega), if_pos h]
    simp [splice]
  · rw [if_neg (by omega), if_neg h]
theorem fill_int (k : IntKind) (n : Int) (l : List Value) (off : Nat) (r : List (Nat × Value)) : fillv l.toArray ((off, .int k n) :: r) = if off < l.length then fillv (l.set off (.int k n)).toArray r else none := fill_one rfl l off r
theorem fill_bool (b : Bool) (l : List Value) (off : Nat) (r : List (Nat × Value)) : fillv l.toArray ((off, .bool b) :: r) = if off < l.length then fillv (l.set off (.bool b)).toArray r else none := fill_one rfl l off r
theorem fill_ptr (a : Option Addr) (l : List Value) (off : Nat) (r : List (Nat × Value)) : fillv l.toArray ((off, .pointer a) :: r) = if off < l.length then fillv (l.set off (.pointer a)).toArray r else none := fill_one rfl l off r
theorem fill_slice (a : Option Addr) (n c : Nat) (l : List Value) (off : Nat) (r : List (Nat × Value)) : fillv l.toArray ((off, .slice a n c) :: r) = if off < l.length then fillv (l.set off (.slice a n c)).toArray r else none := fill_one rfl l off r
theorem fill_str (s : ByteArray) (l : List Value) (off : Nat) (r : List (Nat × Value)) : fillv l.toArray ((off, .string s) :: r) = if off < l.length then fillv (l.set off (.string s)).toArray r else none := fill_one rfl l off r
theorem fill_agg (cs : List Value) (l : List Value) (off : Nat) (r : List (Nat × Value)) : fillv l.toArray ((off, .agg cs.toArray) :: r) = if off + cs.length ≤ l.length then fillv (l.take off ++ cs ++ l.drop (off + cs.length)).toArray r else none := by
  simp only [fillv, ce_agg, List.size_toArray]
  split
  · rename_i h
    congr 1
    apply Array.ext'
    apply List.ext_getElem?
    intro i
    rw [Array.getElem?_toList, splice_get _ _ _ _ (by simpa using h)]
    simp only [List.getElem?_toArray]
    have hl : (l.take off).length = off := by simp; omega
    by_cases h1 : off ≤ i
    · by_cases h2 : i < off + cs.length
      · rw [if_pos ⟨h1, h2⟩, List.append_assoc, List.getElem?_append_right (by omega), hl, List.getElem?_append_left (by omega)]
      · rw [if_neg (by omega), List.getElem?_append_right (by simp; omega)]
        simp
        congr 1
        omega
    · rw [if_neg (by omega), List.append_assoc, List.getElem?_append_left (by omega)]
      simp [List.getElem?_take]
      omega
  · rfl
theorem made_one (v : Value) (n : Nat) : madeCells [v].toArray n = (List.replicate n v).toArray := by
  apply Array.ext'
  apply List.ext_getElem?
  intro i
  by_cases hi : i < n
  · simp [madeCells, hi, Nat.mod_one]
  · simp [madeCells, hi]
theorem tl_arr (l : List Value) : l.toArray.toList = l := rfl

theorem nm1 (n : Nat) : n * 1 = n := Nat.mul_one n
theorem n1m (n : Nat) : 1 * n = n := Nat.one_mul n
theorem n0m (n : Nat) : 0 * n = 0 := Nat.zero_mul n
theorem n0a (n : Nat) : 0 + n = n := Nat.zero_add n
theorem na0 (n : Nat) : n + 0 = n := rfl
theorem ns0 (n : Nat) : n - 0 = n := rfl
theorem tnat (n : Nat) : (n : Int).toNat = n := rfl
theorem tnat0 : (0 : Int).toNat = 0 := rfl

/-! ### Parts of slices and arrays -/
section
variable {e : List Value} {h : Heap}
theorem x_slc (arr : Option Nat) (n : Nat) (a lo hi : X) : (X.slc arr n a lo hi .nl).ev e h = ob (a.ev e h) fun x => ob (lo.ev e h) fun l => ob (hi.ev e h) fun u => slcv arr n x l u none := rfl
theorem x_slcv (arr : Option Nat) (n : Nat) (a lo hi : X) (i : Nat) : (X.slc arr n a lo hi (.var i)).ev e h = ob (a.ev e h) fun x => ob (lo.ev e h) fun l => ob (hi.ev e h) fun u => slcv arr n x l u (some (e.getD i undef)) := rfl
theorem x_slcl (arr : Option Nat) (n : Nat) (a lo hi : X) (v : Value) : (X.slc arr n a lo hi (.lit v)).ev e h = ob (a.ev e h) fun x => ob (lo.ev e h) fun l => ob (hi.ev e h) fun u => slcv arr n x l u (some v) := rfl
theorem x_slcu (arr : Option Nat) (n : Nat) (a lo hi : X) (k : K1) (m : X) : (X.slc arr n a lo hi (.u k m)).ev e h = ob (a.ev e h) fun x => ob (lo.ev e h) fun l => ob (hi.ev e h) fun u => ob ((X.u k m).ev e h) fun m => slcv arr n x l u (some m) := rfl
theorem x_slcb (arr : Option Nat) (n : Nat) (a lo hi : X) (k : K2) (m m' : X) : (X.slc arr n a lo hi (.b k m m')).ev e h = ob (a.ev e h) fun x => ob (lo.ev e h) fun l => ob (hi.ev e h) fun u => ob ((X.b k m m').ev e h) fun m => slcv arr n x l u (some m) := rfl
theorem slc_arr {len n b o : Nat} {k k' : IntKind} {l u : Int} (h1 : 0 ≤ l) (h2 : l ≤ u) (h3 : u ≤ len) : slcv (some len) n (.pointer (some ⟨b, o, none⟩)) (.int k l) (.int k' u) none = some (.slice (some ⟨b, if len = l.toNat then o else o + l.toNat * n, none⟩) (u.toNat - l.toNat) (len - l.toNat)) := by
  simp only [slcv]
  rw [if_pos ⟨h1, h2, h3⟩]
  split <;> simp [add_addr]
theorem slc_sl {n len cap b o : Nat} {k k' : IntKind} {l u : Int} (h1 : 0 ≤ l) (h2 : l ≤ u) (h3 : u ≤ cap) : slcv none n (.slice (some ⟨b, o, none⟩) len cap) (.int k l) (.int k' u) none = some (.slice (some ⟨b, if cap = l.toNat then o else o + l.toNat * n, none⟩) (u.toNat - l.toNat) (cap - l.toNat)) := by
  simp only [slcv]
  rw [if_pos ⟨h1, h2, h3⟩]
  split <;> simp [add_addr]
end

/-! ### All of it in a word: 'simp (disch := omega) only [exW, exX, exV, ..]' -/
theorem exW :
    (∀ {P : Program} {Q : Ex → List Value → Heap → Prop} {e : List Value} {h : Heap}, (S.nxt).wp P Q e h = Q .nxt e h) ∧
    (∀ {P : Program} {Q : Ex → List Value → Heap → Prop} {e : List Value} {h : Heap} (i : Nat), (S.exit i).wp P Q e h = Q (.exit i) e h) ∧
    (∀ {P : Program} {Q : Ex → List Value → Heap → Prop} {e : List Value} {h : Heap}, (S.ret).wp P Q e h = Q .ret e h) ∧
    (∀ {P : Program} {Q : Ex → List Value → Heap → Prop} {e : List Value} {h : Heap} (i : Nat) (x : X) (k : S), (S.set i x k).wp P Q e h = bw (x.ev e h) (kset P Q e h k i)) ∧
    (∀ {P : Program} {Q : Ex → List Value → Heap → Prop} {e : List Value} {h : Heap} (x : X) (k : S), (S.chk x k).wp P Q e h = bw (x.ev e h) (kchk P Q e h k)) ∧
    (∀ {P : Program} {Q : Ex → List Value → Heap → Prop} {e : List Value} {h : Heap} (c : X) (a b : S), (S.ite c a b).wp P Q e h = iw (c.ev e h) (kif P Q e h a b)) ∧
    (∀ {P : Program} {Q : Ex → List Value → Heap → Prop} {e : List Value} {h : Heap} (a b : S), (S.both a b).wp P Q e h = (a.wp P Q e h ∧ b.wp P Q e h)) ∧
    (∀ {P : Program} {Q : Ex → List Value → Heap → Prop} {e : List Value} {h : Heap} (a b : S), (S.seq a b).wp P Q e h = a.wp P (sq P b Q) e h) ∧
    (∀ {P : Program} {Q : Ex → List Value → Heap → Prop} {e : List Value} {h : Heap} (id : Nat) (a : S), (S.blk id a).wp P Q e h = a.wp P (bk id Q) e h) ∧
    (∀ {P : Program} {Q : Ex → List Value → Heap → Prop} {e : List Value} {h : Heap} (d : Option Nat) (f : Nat) (as : X) (k : S), (S.call false d f as k).wp P Q e h = bw (as.evs e h) (kcall P h f (kret P Q e d k))) ∧
    (∀ {P : Program} {Q : Ex → List Value → Heap → Prop} {e : List Value} {h : Heap} (d : Option Nat) (f : Nat) (as : X) (k : S), (S.call true d f as k).wp P Q e h = bw (as.evs e h) (kcall P h f (kretk P Q e h d k))) ∧
    (∀ {P : Program} {Q : Ex → List Value → Heap → Prop} {e : List Value} {h : Heap} (d : Option Nat) (t : Nat) (z : List Value) (k : S), (S.eff false d (.alloc t z) k).wp P Q e h = ∀ b, h b = none → k.wp P Q (put e d (.pointer (some ⟨b, 0, none⟩))) (upd h b (.cells z.toArray t))) ∧
    (∀ {P : Program} {Q : Ex → List Value → Heap → Prop} {e : List Value} {h : Heap} (d : Option Nat) (t : Nat) (x : X) (k : S), (S.eff false d (.box t x) k).wp P Q e h = bw (x.ev e h) (kbox P Q e h d k t)) ∧
    (∀ {P : Program} {Q : Ex → List Value → Heap → Prop} {e : List Value} {h : Heap} (d : Option Nat) (t size len : Nat) (z : List Value) (ps : X) (k : S), (S.eff false d (.lit t size len z ps) k).wp P Q e h = bw (ps.evp e h) (kfill (madeCells z.toArray (len * size)) (klit P Q e h d k t len))) ∧
    (∀ {P : Program} {Q : Ex → List Value → Heap → Prop} {e : List Value} {h : Heap} (d : Option Nat) (t size bytes : Nat) (z : List Value) (l c : X) (k : S), (S.eff false d (.mk t size bytes z l c) k).wp P Q e h = bw (l.ev e h) (kmk1 (c.ev e h) bytes (kmk P Q e h d k t size z))) ∧
    (∀ {kl kc : IntKind} {li ci : Int} {bytes : Nat} {K : Int → Int → Prop} (h1 : 0 ≤ li) (h2 : li ≤ ci) (h3 : (bytes : Int) * ci ≤ 281474976710656) (h4 : ci ≤ 9223372036854775807), mkw (.int kl li) (.int kc ci) bytes K = K li ci) ∧
    (∀ {P : Program} {Q : Ex → List Value → Heap → Prop} {e : List Value} {h : Heap} (d : Option Nat) (p v : X) (k : S), (S.eff false d (.st 1 p v) k).wp P Q e h = bw (ob (p.ev e h) fun pv => ob (v.ev e h) fun vv => st1 h pv vv) (kheap P Q e d k)) ∧
    (∀ {P : Program} {Q : Ex → List Value → Heap → Prop} {e : List Value} {h : Heap} (d : Option Nat) (n : Nat) (p v : X) (k : S), (S.eff false d (.st (n + 2) p v) k).wp P Q e h = bw (ob (p.ev e h) fun pv => ob (v.ev e h) fun vv => stn (n + 2) h pv vv) (kheap P Q e d k)) ∧
    (∀ {P : Program} {Q : Ex → List Value → Heap → Prop} {e : List Value} {h : Heap} {k : S} (i : Nat) (v : Value), kset P Q e h k i v = k.wp P Q (e.set i v) h) ∧
    (∀ {P : Program} {Q : Ex → List Value → Heap → Prop} {e : List Value} {h : Heap} {k : S} {α : Type} (v : α), kchk P Q e h k v = k.wp P Q e h) ∧
    (∀ {P : Program} {Q : Ex → List Value → Heap → Prop} {e : List Value} {d : Option Nat} {k : S} (v : Value) (h' : Heap), kret P Q e d k v h' = k.wp P Q (put e d v) h') ∧
    (∀ {P : Program} {Q : Ex → List Value → Heap → Prop} {e : List Value} {h : Heap} {d : Option Nat} {k : S} (v : Value) (h' : Heap), kretk P Q e h d k v h' = (Ext h h' ∧ k.wp P Q (put e d v) h')) ∧
    (∀ {P : Program} {h : Heap} (f : Nat) (R : Value → Heap → Prop) (vs : List Value), kcall P h f R vs = Runs P f vs h R) ∧
    (∀ {P : Program} {Q : Ex → List Value → Heap → Prop} {e : List Value} {h : Heap} {d : Option Nat} {k : S} (t : Nat) (v : Value), kbox P Q e h d k t v = ∀ b, h b = none → k.wp P Q (put e d (.pointer (some ⟨b, 0, none⟩))) (upd h b (.cells v.cells t))) ∧
    (∀ {P : Program} {Q : Ex → List Value → Heap → Prop} {e : List Value} {h : Heap} {d : Option Nat} {k : S} (t len : Nat) (cs : Array Value), klit P Q e h d k t len cs = ∀ b, h b = none → k.wp P Q (put e d (.slice (some ⟨b, 0, none⟩) len len)) (upd h b (.cells cs t))) ∧
    (∀ (c : Array Value) (K : Array Value → Prop) (vs : List (Nat × Value)), kfill c K vs = bw (fillv c vs) K) ∧
    (∀ {P : Program} {Q : Ex → List Value → Heap → Prop} {e : List Value} {d : Option Nat} {k : S} (h' : Heap), kheap P Q e d k h' = k.wp P Q (put e d undef) h') ∧
    (∀ {P : Program} {Q : Ex → List Value → Heap → Prop} {e : List Value} {h : Heap} {d : Option Nat} {k : S} (t size : Nat) (z : List Value) (li ci : Int), kmk P Q e h d k t size z li ci = ∀ b, h b = none → k.wp P Q (put e d (.slice (some ⟨b, 0, none⟩) li.toNat ci.toNat)) (upd h b (.cells (madeCells z.toArray (ci.toNat * size)) t))) ∧
    (∀ (c : Option Value) (bytes : Nat) (K : Int → Int → Prop) (lv : Value), kmk1 c bytes K lv = bw c (kmk2 lv bytes K)) ∧
    (∀ (lv : Value) (bytes : Nat) (K : Int → Int → Prop) (cv : Value), kmk2 lv bytes K cv = mkw lv cv bytes K) ∧
    (∀ {P : Program} {Q : Ex → List Value → Heap → Prop} {e : List Value} {h : Heap} (a b : S), kif P Q e h a b true = a.wp P Q e h) ∧
    (∀ {P : Program} {Q : Ex → List Value → Heap → Prop} {e : List Value} {h : Heap} (a b : S), kif P Q e h a b false = b.wp P Q e h) ∧
    (∀ {h : Heap} (R : Value → Heap → Prop) (l : List Value), kpost h R l = R (retVal l) h) ∧
    (∀ {α β : Type} (x : α) (f : α → Option β), ob (some x) f = f x) ∧
    (∀ {α : Type} (x : α) (k : α → Prop), bw (some x) k = k x) ∧
    (∀ (t : Bool) (K : Bool → Prop), iw (some (.bool t)) K = ib t K) ∧
    (∀ (K : Bool → Prop), ib true K = K true) ∧
    (∀ (K : Bool → Prop), ib false K = K false) ∧
    (∀ {p : Prop} [Decidable p] {K : Bool → Prop} (h : p), ib (decide p) K = K true) ∧
    (∀ {p : Prop} [Decidable p] {K : Bool → Prop} (h : ¬ p), ib (decide p) K = K false) ∧
    (∀ (P : Program) (b : S) (Q : Ex → List Value → Heap → Prop) (e : List Value) (h : Heap), sq P b Q .nxt e h = b.wp P Q e h) ∧
    (∀ (P : Program) (b : S) (Q : Ex → List Value → Heap → Prop) (i : Nat) (e : List Value) (h : Heap), sq P b Q (.exit i) e h = Q (.exit i) e h) ∧
    (∀ (P : Program) (b : S) (Q : Ex → List Value → Heap → Prop) (e : List Value) (h : Heap), sq P b Q .ret e h = Q .ret e h) ∧
    (∀ (id : Nat) (Q : Ex → List Value → Heap → Prop) (e : List Value) (h : Heap), bk id Q .nxt e h = Q .nxt e h) ∧
    (∀ (id : Nat) (Q : Ex → List Value → Heap → Prop) (e : List Value) (h : Heap), bk id Q .ret e h = Q .ret e h) ∧
    (∀ (id : Nat) (Q : Ex → List Value → Heap → Prop) (e : List Value) (h : Heap), bk id Q (.exit id) e h = Q .nxt e h) ∧
    (∀ {id i : Nat} (hne : (i == id) = false) (Q : Ex → List Value → Heap → Prop) (e : List Value) (h : Heap), bk id Q (.exit i) e h = Q (.exit i) e h) ∧
    (∀ {α : Type} (I : α → List Value → Heap → Prop) (m : α → Nat) (n : Nat) (Q : Ex → List Value → Heap → Prop) (e : List Value) (h : Heap), lg I m n Q .nxt e h = ∃ a, I a e h ∧ m a < n) ∧
    (∀ {α : Type} (I : α → List Value → Heap → Prop) (m : α → Nat) (n : Nat) (Q : Ex → List Value → Heap → Prop) (i : Nat) (e : List Value) (h : Heap), lg I m n Q (.exit i) e h = Q (.exit i) e h) ∧
    (∀ {α : Type} (I : α → List Value → Heap → Prop) (m : α → Nat) (n : Nat) (Q : Ex → List Value → Heap → Prop) (e : List Value) (h : Heap), lg I m n Q .ret e h = Q .ret e h) ∧
    (∀ {e : List Value} {h : Heap} (F : Fun) (R : Value → Heap → Prop), F.post R .ret e h = bw (resV e h F.res) (kpost h R)) ∧
    (∀ {e : List Value} {h : Heap} (F : Fun) (R : Value → Heap → Prop), F.post R .nxt e h = bw (resV e h F.res) (kpost h R)) ∧
    (∀ {e : List Value} {h : Heap}, resV e h [] = some []) ∧
    (∀ {e : List Value} {h : Heap} (x : X) (r : List X), resV e h (x :: r) = ob (x.ev e h) fun v => ob (resV e h r) fun l => some (v :: l)) ∧
    (∀ (v : Value), retVal [v] = v) ∧
    (∀ (v u : Value), retVal [v, u] = .tuple #[v, u]) ∧
    (∀ (v u w : Value), retVal [v, u, w] = .tuple #[v, u, w]) ∧
    (retVal [] = .tuple #[]) ∧
    (∀ {e : List Value} (i : Nat) (v : Value), put e (some i) v = e.set i v) ∧
    (∀ {e : List Value} (v : Value), put e none v = e) :=
  ⟨@w_nxt, @w_exit, @w_ret, @w_set, @w_chk, @w_ite, @w_both, @w_seq, @w_blk, @w_call, @w_callk, @w_alloc, @w_box, @w_lit, @w_mk, @mkw_int, @w_st1, @w_stn, @kset_eq, @kchk_eq, @kret_eq, @kretk_eq, @kcall_eq, @kbox_eq, @klit_eq, @kfill_eq, @kheap_eq, @kmk_eq, @kmk1_eq, @kmk2_eq, @kif_true, @kif_false, @kpost_eq, @ob_some, @bw_some, @iw_bool, @ib_true, @ib_false, @ib_pos, @ib_neg, @sq_nxt, @sq_exit, @sq_ret, @bk_nxt, @bk_ret, @bk_same, @bk_other, @lg_nxt, @lg_exit, @lg_ret, @post_ret, @post_nxt, @res_nil, @res_cons, @ret_one, @ret_two, @ret_three, @ret_nil, @put_some, @put_none⟩
theorem exX :
    (∀ {e : List Value} {h : Heap} (i : Nat), (X.var i).ev e h = some (e.getD i undef)) ∧
    (∀ {e : List Value} {h : Heap} (v : Value), (X.lit v).ev e h = some v) ∧
    (∀ {e : List Value} {h : Heap} (a : X), (X.u .len a).ev e h = ob (a.ev e h) lenv) ∧
    (∀ {e : List Value} {h : Heap} (a : X), (X.u .nilc a).ev e h = ob (a.ev e h) fun x => k1v .nilc x h) ∧
    (∀ {e : List Value} {h : Heap} (n : Nat) (a : X), (X.u (.fld n) a).ev e h = ob (a.ev e h) fun x => k1v (.fld n) x h) ∧
    (∀ {e : List Value} {h : Heap} (a : X), (X.u .ld1 a).ev e h = ob (a.ev e h) (ld1v h)) ∧
    (∀ {e : List Value} {h : Heap} (n : Nat) (a : X), (X.u (.lda n) a).ev e h = ob (a.ev e h) (ldav n h)) ∧
    (∀ {e : List Value} {h : Heap} (op : UnOp) (a : X), (X.u (.un op) a).ev e h = ob (a.ev e h) fun x => k1v (.un op) x h) ∧
    (∀ {e : List Value} {h : Heap} (n : Nat) (a : X), (X.u (.prt n) a).ev e h = ob (a.ev e h) fun x => k1v (.prt n) x h) ∧
    (∀ {e : List Value} {h : Heap} (n k : Nat) (a : X), (X.u (.prta n k) a).ev e h = ob (a.ev e h) fun x => k1v (.prta n k) x h) ∧
    (∀ {e : List Value} {h : Heap} (n : Nat) (a : X), (X.u (.ext n) a).ev e h = ob (a.ev e h) fun x => k1v (.ext n) x h) ∧
    (∀ {e : List Value} {h : Heap} (k : IntKind) (a : X), (X.u (.conv k) a).ev e h = ob (a.ev e h) fun x => k1v (.conv k) x h) ∧
    (∀ {e : List Value} {h : Heap} (op : BinOp) (a c : X), (X.b (.bin op) a c).ev e h = ob (a.ev e h) fun x => ob (c.ev e h) fun y => k2v (.bin op) x y) ∧
    (∀ {e : List Value} {h : Heap} (g : Bool) (a c : X), (X.b (.eqb g) a c).ev e h = ob (a.ev e h) fun x => ob (c.ev e h) fun y => k2v (.eqb g) x y) ∧
    (∀ {e : List Value} {h : Heap} (g : Bool) (a c : X), (X.b (.eqp g) a c).ev e h = ob (a.ev e h) fun x => ob (c.ev e h) fun y => k2v (.eqp g) x y) ∧
    (∀ {e : List Value} {h : Heap} (g : Bool) (a c : X), (X.b (.eqs g) a c).ev e h = ob (a.ev e h) fun x => ob (c.ev e h) fun y => k2v (.eqs g) x y) ∧
    (∀ {e : List Value} {h : Heap} (n : Nat) (a c : X), (X.b (.idx n) a c).ev e h = ob (a.ev e h) fun x => ob (c.ev e h) fun y => idxv n x y) ∧
    (∀ {e : List Value} {h : Heap} (l n : Nat) (a c : X), (X.b (.idxa l n) a c).ev e h = ob (a.ev e h) fun x => ob (c.ev e h) fun y => k2v (.idxa l n) x y) ∧
    (∀ {e : List Value} {h : Heap} (l n : Nat) (g : Bool) (a c : X), (X.b (.ixv l n g) a c).ev e h = ob (a.ev e h) fun x => ob (c.ev e h) fun y => k2v (.ixv l n g) x y) ∧
    (∀ {e : List Value} {h : Heap} (a c : X), (X.b .mx a c).ev e h = ob (a.ev e h) fun x => ob (c.ev e h) fun y => k2v .mx x y) ∧
    (∀ {e : List Value} {h : Heap} (a c : X), (X.b .mn a c).ev e h = ob (a.ev e h) fun x => ob (c.ev e h) fun y => k2v .mn x y) ∧
    (∀ {e : List Value} {h : Heap} (a c : X), (X.b .ixs a c).ev e h = ob (a.ev e h) fun x => ob (c.ev e h) fun y => k2v .ixs x y) ∧
    (∀ {e : List Value} {h : Heap} (c a d : X), (X.ite c a d).ev e h = itx (c.ev e h) (a.ev e h) (d.ev e h)) ∧
    (∀ {e : List Value} {h : Heap} (f : Nat) (c : X), (X.fn f c).ev e h = ob (c.evs e h) fun vs => some (.func (.func f) #[] vs.toArray)) ∧
    (∀ {e : List Value} {h : Heap} (arr : Option Nat) (n : Nat) (a lo hi : X), (X.slc arr n a lo hi .nl).ev e h = ob (a.ev e h) fun x => ob (lo.ev e h) fun l => ob (hi.ev e h) fun u => slcv arr n x l u none) ∧
    (∀ {e : List Value} {h : Heap} (arr : Option Nat) (n : Nat) (a lo hi : X) (i : Nat), (X.slc arr n a lo hi (.var i)).ev e h = ob (a.ev e h) fun x => ob (lo.ev e h) fun l => ob (hi.ev e h) fun u => slcv arr n x l u (some (e.getD i undef))) ∧
    (∀ {e : List Value} {h : Heap} (arr : Option Nat) (n : Nat) (a lo hi : X) (v : Value), (X.slc arr n a lo hi (.lit v)).ev e h = ob (a.ev e h) fun x => ob (lo.ev e h) fun l => ob (hi.ev e h) fun u => slcv arr n x l u (some v)) ∧
    (∀ {e : List Value} {h : Heap} (arr : Option Nat) (n : Nat) (a lo hi : X) (k : K1) (m : X), (X.slc arr n a lo hi (.u k m)).ev e h = ob (a.ev e h) fun x => ob (lo.ev e h) fun l => ob (hi.ev e h) fun u => ob ((X.u k m).ev e h) fun m => slcv arr n x l u (some m)) ∧
    (∀ {e : List Value} {h : Heap} (arr : Option Nat) (n : Nat) (a lo hi : X) (k : K2) (m m' : X), (X.slc arr n a lo hi (.b k m m')).ev e h = ob (a.ev e h) fun x => ob (lo.ev e h) fun l => ob (hi.ev e h) fun u => ob ((X.b k m m').ev e h) fun m => slcv arr n x l u (some m)) ∧
    (∀ {e : List Value} {h : Heap} (z : List Value) (p : X), (X.bld z p).ev e h = ob (p.evp e h) fun vs => ob (fillv z.toArray vs) fun cs => some (.agg cs)) ∧
    (∀ {e : List Value} {h : Heap}, (X.nl).evs e h = some []) ∧
    (∀ {e : List Value} {h : Heap} (a r : X), (X.cn a r).evs e h = ob (a.ev e h) fun x => ob (r.evs e h) fun xs => some (x :: xs)) ∧
    (∀ {e : List Value} {h : Heap}, (X.nl).evp e h = some []) ∧
    (∀ {e : List Value} {h : Heap} (off size : Nat) (a r : X), (X.pl off size a r).evp e h = ob (a.ev e h) fun x => if x.cells.size = size then ob (r.evp e h) fun xs => some ((off, x) :: xs) else none) ∧
    (∀ (A B : Option Value), itx (some (.bool true)) A B = A) ∧
    (∀ (A B : Option Value), itx (some (.bool false)) A B = B) ∧
    (∀ (t u : Bool), itx (some (.bool t)) (some (.bool true)) (some (.bool u)) = some (.bool (t || u))) ∧
    (∀ (t u : Bool), itx (some (.bool t)) (some (.bool u)) (some (.bool false)) = some (.bool (t && u))) ∧
    (∀ {p : Prop} [Decidable p] {A B : Option Value} (h : p), itx (some (.bool (decide p))) A B = A) ∧
    (∀ {p : Prop} [Decidable p] {A B : Option Value} (h : ¬ p), itx (some (.bool (decide p))) A B = B) ∧
    (∀ [Decidable True], decide True = true) ∧
    (∀ [Decidable False], decide False = false) ∧
    (∀ (p : Bool), (true && p) = p) ∧
    (∀ (p : Bool), (p && true) = p) ∧
    (∀ (p : Bool), (false && p) = false) ∧
    (∀ (p : Bool), (p && false) = false) ∧
    (∀ (p : Bool), (true || p) = true) ∧
    (∀ (p : Bool), (p || true) = true) ∧
    (∀ (p : Bool), (false || p) = p) ∧
    (∀ (p : Bool), (p || false) = p) ∧
    ((!true) = false) ∧
    ((!false) = true) ∧
    (∀ (b : Bool), (b != false) = b) ∧
    (∀ (b : Bool), (b != true) = !b) ∧
    (∀ (b : Bool), (true == b) = b) ∧
    (∀ (b : Bool), (false == b) = !b) ∧
    (∀ (b : Bool), (b == true) = b) ∧
    (∀ (b : Bool), (b == false) = !b) ∧
    (∀ {p q : Prop} [Decidable p] [Decidable q], (decide p || decide q) = decide (p ∨ q)) ∧
    (∀ {p q : Prop} [Decidable p] [Decidable q], (decide p && decide q) = decide (p ∧ q)) ∧
    (∀ {p : Prop} [Decidable p], (!decide p) = decide (¬ p)) :=
  ⟨@x_var, @x_lit, @x_len, @x_nilc, @x_fld, @x_ld1, @x_lda, @x_un, @x_prt, @x_prta, @x_ext, @x_conv, @x_bin, @x_eqb, @x_eqp, @x_eqs, @x_idx, @x_idxa, @x_ixv, @x_mx, @x_mn, @x_ixs, @x_ite, @x_fn, @x_slc, @x_slcv, @x_slcl, @x_slcu, @x_slcb, @x_bld, @xs_nl, @xs_cn, @xp_nl, @xp_pl, @itx_true, @itx_false, @itx_or, @itx_and, @itx_pos, @itx_neg, @dec_t, @dec_f, @tand, @andt, @fand, @andf, @tor, @ort, @for_, @orf, @not_t, @not_f, @bnf, @bnt, @tb, @fb, @bt, @bf, @or_dec, @and_dec, @not_dec⟩
theorem exV :
    (∀ (k : IntKind) (a b : Int), k2v (.bin .add) (.int k a) (.int k b) = some (.int k (k.wrap (a + b)))) ∧
    (∀ (k : IntKind) (a b : Int), k2v (.bin .sub) (.int k a) (.int k b) = some (.int k (k.wrap (a - b)))) ∧
    (∀ (k : IntKind) (a b : Int), k2v (.bin .mul) (.int k a) (.int k b) = some (.int k (k.wrap (a * b)))) ∧
    (∀ (k : IntKind) (a b : Int), k2v (.bin .lss) (.int k a) (.int k b) = some (.bool (decide (a < b)))) ∧
    (∀ (k : IntKind) (a b : Int), k2v (.bin .leq) (.int k a) (.int k b) = some (.bool (decide (a ≤ b)))) ∧
    (∀ (k : IntKind) (a b : Int), k2v (.bin .gtr) (.int k a) (.int k b) = some (.bool (decide (b < a)))) ∧
    (∀ (k : IntKind) (a b : Int), k2v (.bin .geq) (.int k a) (.int k b) = some (.bool (decide (b ≤ a)))) ∧
    (∀ (k : IntKind) (a b : Int), k2v (.bin .eql) (.int k a) (.int k b) = some (.bool (decide (a = b)))) ∧
    (∀ (k : IntKind) (a b : Int), k2v (.bin .neq) (.int k a) (.int k b) = some (.bool (decide (a ≠ b)))) ∧
    (∀ (k : IntKind) (a b : Int) (hb : b ≠ 0), k2v (.bin .quo) (.int k a) (.int k b) = some (.int k (k.wrap (a.tdiv b)))) ∧
    (∀ (k : IntKind) (a b : Int) (hb : b ≠ 0), k2v (.bin .rem) (.int k a) (.int k b) = some (.int k (a.tmod b))) ∧
    (∀ {h : Heap} (b : Bool), k1v (.un .not) (.bool b) h = some (.bool !b)) ∧
    (∀ {h : Heap} (k : IntKind) (n : Int), k1v (.un .neg) (.int k n) h = some (.int k (k.wrap (0 - n)))) ∧
    (∀ {n : Int} (h1 : -9223372036854775808 ≤ n) (h2 : n ≤ 9223372036854775807), IntKind.wrap .i64 n = n) ∧
    (∀ {a b : Int} (h1 : 0 ≤ a), a.tdiv b = a / b) ∧
    (∀ {a b : Int} (h1 : 0 ≤ a), a.tmod b = a % b) ∧
    (∀ (a : Option Addr) (n c : Nat), lenv (.slice a n c) = some (.int .i64 n)) ∧
    (∀ {h : Heap} (a : Addr), k1v .nilc (.pointer (some a)) h = some (.pointer (some a))) ∧
    (∀ {h : Heap} (f : Nat) (p q : Array Value), k1v .nilc (.func (.func f) p q) h = some (.func (.func f) p q)) ∧
    (∀ {h : Heap} (n b o : Nat), k1v (.fld n) (.pointer (some ⟨b, o, none⟩)) h = some (.pointer (some ⟨b, o + n, none⟩))) ∧
    (∀ (neg : Bool) (b : Option Addr), k2v (.eqp neg) (.pointer none) (.pointer b) = some (.bool (b.isNone != neg))) ∧
    (∀ (neg : Bool) (a : Addr), k2v (.eqp neg) (.pointer (some a)) (.pointer none) = some (.bool neg)) ∧
    (∀ (neg a b : Bool), k2v (.eqb neg) (.bool a) (.bool b) = some (.bool ((a == b) != neg))) ∧
    (∀ (neg : Bool) (l c m d : Nat) (b : Option Addr), k2v (.eqs neg) (.slice none l c) (.slice b m d) = some (.bool (b.isNone != neg))) ∧
    (∀ (neg : Bool) (a : Addr) (l c m d : Nat), k2v (.eqs neg) (.slice (some a) l c) (.slice none m d) = some (.bool neg)) ∧
    ((none : Option Addr).isNone = true) ∧
    (∀ (a : Addr), (some a).isNone = false) ∧
    (∀ {len n b o : Nat} {k : IntKind} {i : Int} (h1 : 0 ≤ i) (h2 : i < len), k2v (.idxa len n) (.pointer (some ⟨b, o, none⟩)) (.int k i) = some (.pointer (some ⟨b, o + i.toNat * n, none⟩))) ∧
    (∀ {n b o len cap : Nat} {k : IntKind} {i : Int} (h1 : 0 ≤ i) (h2 : i < len), idxv n (.slice (some ⟨b, o, none⟩) len cap) (.int k i) = some (.pointer (some ⟨b, o + i.toNat * n, none⟩))) ∧
    (∀ (k : IntKind) (a b : Int), k2v .mx (.int k a) (.int k b) = some (.int k (max a b))) ∧
    (∀ (k : IntKind) (a b : Int), k2v .mn (.int k a) (.int k b) = some (.int k (min a b))) ∧
    (∀ {h : Heap} (k k' : IntKind) (n : Int), k1v (.conv k) (.int k' n) h = some (.int k (k.wrap n))) ∧
    (∀ {h : Heap} (i : Nat) (vs : List Value), k1v (.ext i) (.tuple vs.toArray) h = nth vs i) ∧
    (∀ {h : Heap} (i : Nat) (vs : List Value), k1v (.prt i) (.agg vs.toArray) h = nth vs i) ∧
    (∀ {h : Heap} (i n : Nat) (vs : List Value), k1v (.prta i n) (.agg vs.toArray) h = some (.agg ((vs.drop i).take n).toArray)) ∧
    (∀ (a : Value) (l : List Value), nth (a :: l) 0 = some a) ∧
    (∀ (a : Value) (l : List Value) (n : Nat), nth (a :: l) (n + 1) = nth l n) ∧
    (∀ (n : Nat), n * 1 = n) ∧
    (∀ (n : Nat), 1 * n = n) ∧
    (∀ (n : Nat), 0 * n = 0) ∧
    (∀ (n : Nat), 0 + n = n) ∧
    (∀ (n : Nat), n + 0 = n) ∧
    (∀ (n : Nat), n - 0 = n) ∧
    (∀ (n : Nat), (n : Int).toNat = n) ∧
    ((0 : Int).toNat = 0) ∧
    (∀ {len n b o : Nat} {k k' : IntKind} {l u : Int} (h1 : 0 ≤ l) (h2 : l ≤ u) (h3 : u ≤ len), slcv (some len) n (.pointer (some ⟨b, o, none⟩)) (.int k l) (.int k' u) none = some (.slice (some ⟨b, if len = l.toNat then o else o + l.toNat * n, none⟩) (u.toNat - l.toNat) (len - l.toNat))) ∧
    (∀ {n len cap b o : Nat} {k k' : IntKind} {l u : Int} (h1 : 0 ≤ l) (h2 : l ≤ u) (h3 : u ≤ cap), slcv none n (.slice (some ⟨b, o, none⟩) len cap) (.int k l) (.int k' u) none = some (.slice (some ⟨b, if cap = l.toNat then o else o + l.toNat * n, none⟩) (u.toNat - l.toNat) (cap - l.toNat))) ∧
    (∀ {α : Type} (a d : α) (l : List α), (a :: l).getD 0 d = a) ∧
    (∀ {α : Type} (a d : α) (l : List α) (n : Nat), (a :: l).getD (n + 1) d = l.getD n d) ∧
    (∀ {α : Type} (a b : α) (l : List α), (a :: l).set 0 b = b :: l) ∧
    (∀ {α : Type} (a b : α) (l : List α) (n : Nat), (a :: l).set (n + 1) b = a :: l.set n b) :=
  ⟨@b_add, @b_sub, @b_mul, @b_lss, @b_leq, @b_gtr, @b_geq, @b_eql, @b_neq, @b_quo, @b_rem, @u_not, @u_neg, @wrap_in, @tdiv_pos, @tmod_pos, @len_slice, @nilc_ptr, @nilc_fn, @fld_ptr, @eqp_nn, @eqp_sn, @eqb_b, @eqs_nn, @eqs_sn, @isn, @isno, @idxa_in, @idx_in, @mx_int, @mn_int, @conv_int, @ext_tup, @prt_agg, @prta_agg, @nth_zero, @nth_succ, @nm1, @n1m, @n0m, @n0a, @na0, @ns0, @tnat, @tnat0, @slc_arr, @slc_sl, fun _ _ _ => rfl, fun _ _ _ _ => rfl, fun _ _ _ => rfl, fun _ _ _ _ => rfl⟩
theorem exB :
    (∀ {α : Type} {p : Prop} [Decidable p] (a b : α) (h : p), (if p then a else b) = a) ∧
    (∀ {α : Type} {p : Prop} [Decidable p] (a b : α) (h : ¬ p), (if p then a else b) = b) ∧
    (∀ {α : Type} [Decidable True] (a b : α), (if True then a else b) = a) ∧
    (∀ {α : Type} [Decidable False] (a b : α), (if False then a else b) = b) ∧
    (∀ (k : IntKind) (n : Int), (Value.int k n).cells = #[.int k n]) ∧
    (∀ (b : Bool), (Value.bool b).cells = #[.bool b]) ∧
    (∀ (a : Option Addr), (Value.pointer a).cells = #[.pointer a]) ∧
    (∀ (a : Option Addr) (n c : Nat), (Value.slice a n c).cells = #[.slice a n c]) ∧
    (∀ (s : ByteArray), (Value.string s).cells = #[.string s]) ∧
    (∀ (cs : Array Value), (Value.agg cs).cells = cs) ∧
    (∀ (v : Value), (#[v] : Array Value).size = 1) ∧
    (∀ (l : List Value), l.toArray.size = l.length) ∧
    (∀ (c : Array Value), fillv c [] = some c) ∧
    (∀ (k : IntKind) (n : Int) (l : List Value) (off : Nat) (r : List (Nat × Value)), fillv l.toArray ((off, .int k n) :: r) = if off < l.length then fillv (l.set off (.int k n)).toArray r else none) ∧
    (∀ (b : Bool) (l : List Value) (off : Nat) (r : List (Nat × Value)), fillv l.toArray ((off, .bool b) :: r) = if off < l.length then fillv (l.set off (.bool b)).toArray r else none) ∧
    (∀ (a : Option Addr) (l : List Value) (off : Nat) (r : List (Nat × Value)), fillv l.toArray ((off, .pointer a) :: r) = if off < l.length then fillv (l.set off (.pointer a)).toArray r else none) ∧
    (∀ (a : Option Addr) (n c : Nat) (l : List Value) (off : Nat) (r : List (Nat × Value)), fillv l.toArray ((off, .slice a n c) :: r) = if off < l.length then fillv (l.set off (.slice a n c)).toArray r else none) ∧
    (∀ (s : ByteArray) (l : List Value) (off : Nat) (r : List (Nat × Value)), fillv l.toArray ((off, .string s) :: r) = if off < l.length then fillv (l.set off (.string s)).toArray r else none) ∧
    (∀ (cs : List Value) (l : List Value) (off : Nat) (r : List (Nat × Value)), fillv l.toArray ((off, .agg cs.toArray) :: r) = if off + cs.length ≤ l.length then fillv (l.take off ++ cs ++ l.drop (off + cs.length)).toArray r else none) ∧
    (∀ (v : Value) (n : Nat), madeCells [v].toArray n = (List.replicate n v).toArray) ∧
    (∀ (l : List Value), l.toArray.toList = l) ∧
    (∀ (v : Value) (l : List Value), (v :: l).length = l.length + 1) ∧
    (([] : List Value).length = 0) ∧
    (∀ (v : Value) (n : Nat), List.replicate (n + 1) v = v :: List.replicate n v) ∧
    (∀ (v : Value), List.replicate 0 v = []) ∧
    (∀ (l : List Value), l.take 0 = []) ∧
    (∀ (v : Value) (l : List Value) (n : Nat), (v :: l).take (n + 1) = v :: l.take n) ∧
    (∀ (l : List Value), l.drop 0 = l) ∧
    (∀ (v : Value) (l : List Value) (n : Nat), (v :: l).drop (n + 1) = l.drop n) ∧
    (∀ (v : Value) (l m : List Value), (v :: l) ++ m = v :: (l ++ m)) ∧
    (∀ (m : List Value), ([] : List Value) ++ m = m) :=
  ⟨@i_pos, @i_neg, @i_true, @i_false, @ce_int, @ce_bool, @ce_ptr, @ce_slice, @ce_str, @ce_agg, @sz_one, @sz_list, @fill_nil, @fill_int, @fill_bool, @fill_ptr, @fill_slice, @fill_str, @fill_agg, @made_one, @tl_arr, @l_cons, @l_nil, @r_succ, @r_zero, @t_zero, @t_succ, @d_zero, @d_succ, @c_app, @n_app⟩

end Go.Lft
