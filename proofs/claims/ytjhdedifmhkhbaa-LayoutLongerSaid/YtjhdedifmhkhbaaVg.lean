/- Walking over values without addresses: one equation for each kind of statement and expression. Plain lemmas; no statement is claimed here. -/
import Derived.Test.YtjhdedifmhkhbaaVf
namespace Go.Lft
open Go
set_option linter.unusedVariables false
set_option linter.unusedSimpArgs false

/-! ### What is to be done next, by name -/
def aset (P : Program) (n0 : Nat) (Q : QA) (e : List A) (H : List Blk) (k : S) (i : Nat) : A → Prop := fun a => k.aw P n0 Q (e.set i a) H
def achk (P : Program) (n0 : Nat) (Q : QA) (e : List A) (H : List Blk) (k : S) : Unit → Prop := fun _ => k.aw P n0 Q e H
def aput (P : Program) (n0 : Nat) (Q : QA) (e : List A) (d : Option Nat) (k : S) : A → List Blk → Prop := fun a H' => k.aw P n0 Q (putA e d a) H'
def aret (P : Program) (n0 : Nat) (Q : QA) (e : List A) (d : Option Nat) (k : S) : A → List Blk → Prop := fun a H' => AWP P n0 k Q (putA e d a) H'
def acall (P : Program) (kp : Bool) (f : Nat) (H : List Blk) (R : A → List Blk → Prop) : List A → Prop := fun l => VR P kp f l H R
def acallf (P : Program) (kp : Bool) (as : Option (List A)) (H : List Blk) (R : A → List Blk → Prop) : A → Prop := fun fa => bw as fun l => ∃ g caps, fa = .fn g caps ∧ bodied P g = true ∧ VR P kp g (l ++ caps) H R
def acallg (P : Program) (kp : Bool) (g : Nat) (caps : List A) (H : List Blk) (R : A → List Blk → Prop) : List A → Prop := fun l => bodied P g = true ∧ VR P kp g (l ++ caps) H R
def aif (P : Program) (n0 : Nat) (Q : QA) (e : List A) (H : List Blk) (a b : S) : Bool → Prop := fun t => match t with | true => a.aw P n0 Q e H | false => b.aw P n0 Q e H
def sqA (P : Program) (n0 : Nat) (b : S) (Q : QA) : QA := fun x e H => match x with | .nxt => b.aw P n0 Q e H | x => Q x e H
def bkA (id : Nat) (Q : QA) : QA := fun x e H => match x with | .exit i => if i = id then Q .nxt e H else Q (.exit i) e H | x => Q x e H
def abox (H : List Blk) (R : A → List Blk → Prop) : List A → Prop := fun cs => R (.lp H.length 0 0) (H ++ [⟨0, cs⟩])
def amk (size : Nat) (z : List Value) (H : List Blk) (R : A → List Blk → Prop) : Int → Int → Prop := fun li _ => z.length = size ∧ R (.sl H.length 0 size 0 li.toNat) (H ++ [⟨0, repA li.toNat (z.map .v)⟩])
def alit (size len : Nat) (z : List Value) (H : List Blk) (R : A → List Blk → Prop) : List A → Prop := fun cs => z.length = size ∧ R (.sl H.length 0 size 0 len) (H ++ [⟨0, cs⟩])
def aapp (kp : Bool) (H : List Blk) (size bytes : Nat) (R : A → List Blk → Prop) (sa : A) : Nat × List A → Prop := fun p => appA kp H size bytes p.1 p.2 R sa
def acpy (H : List Blk) (size : Nat) (R : A → List Blk → Prop) (da : A) : Nat × List A → Prop := fun p => cpyA H size p.1 p.2 R da
def aclr (H : List Blk) (z : List Value) (R : A → List Blk → Prop) : A → Prop := fun sa => clrA H z R sa
def aclrl (i ver o n : Nat) (z : List Value) (H : List Blk) (R : A → List Blk → Prop) : List A → Prop := fun l => o + n * z.length ≤ l.length ∧ R (.v undef) (H.set i ⟨ver, splA l o (repA n (z.map .v))⟩)
def ast (H : List Blk) (n : Nat) (R : A → List Blk → Prop) (pa : A) : List A → Prop := fun cs => cs.length = n ∧ stA H cs R pa
def astl (i ver o : Nat) (H : List Blk) (cs : List A) (R : A → List Blk → Prop) : List A → Prop := fun l => o + cs.length ≤ l.length ∧ R (.v undef) (H.set i ⟨ver, splA l o cs⟩)
def aappl (i ver n m size : Nat) (H : List Blk) (news : List A) (R : A → List Blk → Prop) : List A → Prop := fun cs => n * size ≤ cs.length ∧ R (.sl i (ver + 1) size 0 (n + m)) (H.set i ⟨ver + 1, cs.take (n * size) ++ news⟩)
def acpyl (i ver o n m size : Nat) (H : List Blk) (news : List A) (R : A → List Blk → Prop) : List A → Prop := fun l => o + n * size ≤ l.length ∧ R (.v (.int .i64 (min m n : Nat))) (H.set i ⟨ver, splA l o (news.take (min m n * size))⟩)
def apost (n0 : Nat) (H : List Blk) (R : A → List Blk → Prop) : List A → Prop := fun l => ∃ r H', Cut n0 [retA l] H [r] H' ∧ R r H'

def gd (p X : Prop) : Prop := p ∧ X
theorem gd_pos (p X : Prop) (h : p) : gd p X = X := by simp [gd, h]
theorem gd_true (X : Prop) : gd True X = X := by simp [gd]
theorem gd_congr {p q X : Prop} (h : p = q) : gd p X = gd q X := by rw [h]
def ifo {α : Type} (p : Prop) [Decidable p] (a : α) : Option α := if p then some a else none
theorem ifo_pos {α : Type} (p : Prop) [Decidable p] (a : α) (h : p) : ifo p a = some a := by simp [ifo, h]
theorem ifo_true {α : Type} [Decidable True] (a : α) : ifo True a = some a := by simp [ifo]
def cnd {α : Type} (b : Bool) (a : α) : Option α := if b = true then some a else none
theorem cnd_true {α : Type} (a : α) : cnd true a = some a := rfl
def ck (o : Option A) (K : Unit → Prop) : Prop := o ≠ none ∧ K ()
def iwA (x : Option A) (K : Bool → Prop) : Prop := ∃ t, x = some (.v (.bool t)) ∧ K t
theorem ck_congr {x y : Option A} {K : Unit → Prop} (h : x = y) : ck x K = ck y K := by rw [h]
theorem iwA_congr {x y : Option A} {K : Bool → Prop} (h : x = y) : iwA x K = iwA y K := by rw [h]
theorem itA_congr {x y a b : Option A} (h : x = y) : itA x a b = itA y a b := by rw [h]
theorem aw_congr {P : Program} {n0 : Nat} {s : S} {Q : QA} {e e' : List A} {H H' : List Blk} (h1 : e = e') (h2 : H = H') : S.aw P n0 s Q e H = S.aw P n0 s Q e' H' := by rw [h1, h2]
theorem awp_congr {P : Program} {n0 : Nat} {s : S} {Q : QA} {e e' : List A} {H H' : List Blk} (h1 : e = e') (h2 : H = H') : AWP P n0 s Q e H = AWP P n0 s Q e' H' := by rw [h1, h2]
theorem sqA_congr {P : Program} {n0 : Nat} {s : S} {Q : QA} {x x' : Ex} {e e' : List A} {H H' : List Blk} (h0 : x = x') (h1 : e = e') (h2 : H = H') : sqA P n0 s Q x e H = sqA P n0 s Q x' e' H' := by rw [h0, h1, h2]
theorem bkA_congr {i : Nat} {Q : QA} {x x' : Ex} {e e' : List A} {H H' : List Blk} (h0 : x = x') (h1 : e = e') (h2 : H = H') : bkA i Q x e H = bkA i Q x' e' H' := by rw [h0, h1, h2]
theorem vr_congr {P : Program} {kp : Bool} {f : Nat} {as as' : List A} {H H' : List Blk} {R : A → List Blk → Prop} (h1 : as = as') (h2 : H = H') : VR P kp f as H R = VR P kp f as' H' R := by rw [h1, h2]

/-! ### Statements -/
theorem a_nxt (P : Program) (n0 : Nat) (Q : QA) (e : List A) (H : List Blk) : (S.nxt).aw P n0 Q e H = Q .nxt e H := rfl
theorem a_exit (P : Program) (n0 : Nat) (Q : QA) (e : List A) (H : List Blk) (i : Nat) : (S.exit i).aw P n0 Q e H = Q (.exit i) e H := rfl
theorem a_ret (P : Program) (n0 : Nat) (Q : QA) (e : List A) (H : List Blk) : (S.ret).aw P n0 Q e H = Q .ret e H := rfl
theorem a_set (P : Program) (n0 : Nat) (Q : QA) (e : List A) (H : List Blk) (i : Nat) (x : X) (k : S) : (S.set i x k).aw P n0 Q e H = bw (x.av e H) (aset P n0 Q e H k i) := rfl
theorem a_chk (P : Program) (n0 : Nat) (Q : QA) (e : List A) (H : List Blk) (x : X) (k : S) : (S.chk x k).aw P n0 Q e H = ck (x.av e H) (achk P n0 Q e H k) := by
  unfold ck achk
  apply propext
  constructor
  · rintro ⟨a, h1, h2⟩; exact ⟨by rw [h1]; simp, h2⟩
  · rintro ⟨h1, h2⟩
    cases hx : x.av e H with
    | none => exact absurd hx h1
    | some a => exact ⟨a, hx, h2⟩
theorem a_ite (P : Program) (n0 : Nat) (Q : QA) (e : List A) (H : List Blk) (c : X) (a b : S) : (S.ite c a b).aw P n0 Q e H = iwA (c.av e H) (aif P n0 Q e H a b) := rfl
theorem a_both (P : Program) (n0 : Nat) (Q : QA) (e : List A) (H : List Blk) (a b : S) : (S.both a b).aw P n0 Q e H = (a.aw P n0 Q e H ∧ b.aw P n0 Q e H) := rfl
theorem a_seq (P : Program) (n0 : Nat) (Q : QA) (e : List A) (H : List Blk) (a b : S) : (S.seq a b).aw P n0 Q e H = a.aw P n0 (sqA P n0 b Q) e H := rfl
theorem a_blk (P : Program) (n0 : Nat) (Q : QA) (e : List A) (H : List Blk) (id : Nat) (a : S) : (S.blk id a).aw P n0 Q e H = a.aw P n0 (bkA id Q) e H := rfl
theorem a_loop (P : Program) (n0 : Nat) (Q : QA) (e : List A) (H : List Blk) (a : S) : (S.loop a).aw P n0 Q e H = AWP P n0 (.loop a) Q e H := rfl
theorem a_call (P : Program) (n0 : Nat) (Q : QA) (e : List A) (H : List Blk) (kp : Bool) (d : Option Nat) (f : Nat) (as : X) (k : S) : (S.call kp d f as k).aw P n0 Q e H = bw (as.avs e H) (acall P kp f H (aret P n0 Q e d k)) := rfl
theorem a_callv (P : Program) (n0 : Nat) (Q : QA) (e : List A) (H : List Blk) (kp : Bool) (d : Option Nat) (f as : X) (k : S) : (S.callv kp d f as k).aw P n0 Q e H = bw (f.av e H) (acallf P kp (as.avs e H) H (aret P n0 Q e d k)) := rfl
theorem acallf_fn (P : Program) (kp : Bool) (as : Option (List A)) (H : List Blk) (R : A → List Blk → Prop) (g : Nat) (caps : List A) : acallf P kp as H R (.fn g caps) = bw as (acallg P kp g caps H R) := by
  unfold acallf acallg bw
  apply propext
  constructor
  · rintro ⟨l, h1, g', c', h2, h3, h4⟩; cases h2; exact ⟨l, h1, h3, h4⟩
  · rintro ⟨l, h1, h3, h4⟩; exact ⟨l, h1, g, caps, rfl, h3, h4⟩
theorem a_alloc (P : Program) (n0 : Nat) (Q : QA) (e : List A) (H : List Blk) (kp : Bool) (d : Option Nat) (t : Nat) (z : List Value) (k : S) : (S.eff kp d (.alloc t z) k).aw P n0 Q e H = aput P n0 Q e d k (.lp H.length 0 0) (H ++ [⟨0, z.map .v⟩]) := rfl
theorem a_box (P : Program) (n0 : Nat) (Q : QA) (e : List A) (H : List Blk) (kp : Bool) (d : Option Nat) (t : Nat) (x : X) (k : S) : (S.eff kp d (.box t x) k).aw P n0 Q e H = bw (ob (x.av e H) A.cells) (abox H (aput P n0 Q e d k)) := by
  unfold ob
  simp only [S.aw, E.aw, bw, abox, aput, eq_iff_iff, Option.bind_eq_some_iff]
  constructor
  · rintro ⟨a, h1, cs, h2, h3⟩; exact ⟨cs, ⟨a, h1, h2⟩, h3⟩
  · rintro ⟨cs, ⟨a, h1, h2⟩, h3⟩; exact ⟨a, h1, cs, h2, h3⟩
theorem a_mk (P : Program) (n0 : Nat) (Q : QA) (e : List A) (H : List Blk) (kp : Bool) (d : Option Nat) (t size bytes : Nat) (z : List Value) (l c : X) (k : S) : (S.eff kp d (.mk t size bytes z l c) k).aw P n0 Q e H = bw (l.av e H) fun la => bw (c.av e H) fun ca => mkA la ca bytes (amk size z H (aput P n0 Q e d k)) := rfl
theorem mkA_int (kl kc : IntKind) (li ci : Int) (bytes : Nat) (K : Int → Int → Prop) (h1 : 0 ≤ li) (h2 : li ≤ ci) (h3 : (bytes : Int) * ci ≤ 281474976710656) (h4 : ci ≤ 9223372036854775807) : mkA (.v (.int kl li)) (.v (.int kc ci)) bytes K = K li ci := by
  apply propext
  constructor
  · rintro ⟨_, _, _, _, e1, e2, _, _, _, _, hk⟩; cases e1; cases e2; exact hk
  · exact fun hk => ⟨_, _, _, _, rfl, rfl, h1, h2, h3, h4, hk⟩
def repL (n : Nat) (z : List A) : List A := repA n z
theorem a_lit (P : Program) (n0 : Nat) (Q : QA) (e : List A) (H : List Blk) (kp : Bool) (d : Option Nat) (t size len : Nat) (z : List Value) (ps : X) (k : S) : (S.eff kp d (.lit t size len z ps) k).aw P n0 Q e H = bw (ob (ps.avp e H) (fillA (repL len (z.map .v)))) (alit size len z H (aput P n0 Q e d k)) := by
  unfold ob repL
  simp only [S.aw, E.aw, bw, alit, aput, eq_iff_iff, Option.bind_eq_some_iff]
  constructor
  · rintro ⟨a, h1, cs, h2, h3⟩; exact ⟨cs, ⟨a, h1, h2⟩, h3⟩
  · rintro ⟨cs, ⟨a, h1, h2⟩, h3⟩; exact ⟨a, h1, cs, h2, h3⟩
theorem a_app (P : Program) (n0 : Nat) (Q : QA) (e : List A) (H : List Blk) (kp : Bool) (d : Option Nat) (t size bytes : Nat) (z : List Value) (s x : X) (k : S) : (S.eff kp d (.app t size bytes z s x) k).aw P n0 Q e H = bw (s.av e H) fun sa => bw (ob (x.av e H) (newsA H size)) (aapp kp H size bytes (aput P n0 Q e d k) sa) := by
  unfold ob
  simp only [S.aw, E.aw, bw, aapp, aput, eq_iff_iff, Option.bind_eq_some_iff]
  constructor
  · rintro ⟨sa, h0, a, h1, cs, h2, h3⟩; exact ⟨sa, h0, cs, ⟨a, h1, h2⟩, h3⟩
  · rintro ⟨sa, h0, cs, ⟨a, h1, h2⟩, h3⟩; exact ⟨sa, h0, a, h1, cs, h2, h3⟩
theorem a_cpy (P : Program) (n0 : Nat) (Q : QA) (e : List A) (H : List Blk) (d : Option Nat) (size : Nat) (s x : X) (k : S) : (S.eff false d (.cpy size s x) k).aw P n0 Q e H = bw (s.av e H) fun sa => bw (ob (x.av e H) (newsA H size)) (acpy H size (aput P n0 Q e d k) sa) := by
  unfold ob
  simp only [S.aw, E.aw, bw, acpy, aput, eq_iff_iff, Option.bind_eq_some_iff, true_and]
  constructor
  · rintro ⟨sa, h0, a, h1, cs, h2, h3⟩; exact ⟨sa, h0, cs, ⟨a, h1, h2⟩, h3⟩
  · rintro ⟨sa, h0, cs, ⟨a, h1, h2⟩, h3⟩; exact ⟨sa, h0, a, h1, cs, h2, h3⟩
theorem a_st (P : Program) (n0 : Nat) (Q : QA) (e : List A) (H : List Blk) (d : Option Nat) (n : Nat) (p v : X) (k : S) : (S.eff false d (.st n p v) k).aw P n0 Q e H = bw (p.av e H) fun pa => bw (ob (v.av e H) A.cells) (ast H n (aput P n0 Q e d k) pa) := by
  unfold ob
  simp only [S.aw, E.aw, bw, ast, aput, eq_iff_iff, Option.bind_eq_some_iff, true_and]
  constructor
  · rintro ⟨sa, h0, a, h1, cs, h2, h3⟩; exact ⟨sa, h0, cs, ⟨a, h1, h2⟩, h3⟩
  · rintro ⟨sa, h0, cs, ⟨a, h1, h2⟩, h3⟩; exact ⟨sa, h0, a, h1, cs, h2, h3⟩
theorem a_clr (P : Program) (n0 : Nat) (Q : QA) (e : List A) (H : List Blk) (d : Option Nat) (z : List Value) (s : X) (k : S) : (S.eff false d (.clr z s) k).aw P n0 Q e H = gd (z.all Lft.one = true) (bw (s.av e H) (aclr H z (aput P n0 Q e d k))) := by
  unfold gd
  simp only [S.aw, E.aw, true_and]; rfl
theorem aclr_eq (H : List Blk) (z : List Value) (R : A → List Blk → Prop) (i ver k o n : Nat) : aclr H z R (.sl i ver k o n) = gd (k = z.length) (bw (blkAt H i ver) (aclrl i ver o n z H R)) := rfl
theorem aclrl_eq (i ver o n : Nat) (z : List Value) (H : List Blk) (R : A → List Blk → Prop) (l : List A) : aclrl i ver o n z H R l = gd (o + n * z.length ≤ l.length) (R (.v undef) (H.set i ⟨ver, splA l o (repL n (z.map .v))⟩)) := rfl
theorem aset_eq (P : Program) (n0 : Nat) (Q : QA) (e : List A) (H : List Blk) (k : S) (i : Nat) (a : A) : aset P n0 Q e H k i a = k.aw P n0 Q (e.set i a) H := rfl
theorem achk_eq (P : Program) (n0 : Nat) (Q : QA) (e : List A) (H : List Blk) (k : S) : achk P n0 Q e H k () = k.aw P n0 Q e H := rfl
theorem aput_some (P : Program) (n0 : Nat) (Q : QA) (e : List A) (i : Nat) (k : S) (a : A) (H : List Blk) : aput P n0 Q e (some i) k a H = k.aw P n0 Q (e.set i a) H := rfl
theorem aput_none (P : Program) (n0 : Nat) (Q : QA) (e : List A) (k : S) (a : A) (H : List Blk) : aput P n0 Q e none k a H = k.aw P n0 Q e H := rfl
theorem aret_some (P : Program) (n0 : Nat) (Q : QA) (e : List A) (i : Nat) (k : S) (a : A) (H : List Blk) : aret P n0 Q e (some i) k a H = AWP P n0 k Q (e.set i a) H := rfl
theorem aret_none (P : Program) (n0 : Nat) (Q : QA) (e : List A) (k : S) (a : A) (H : List Blk) : aret P n0 Q e none k a H = AWP P n0 k Q e H := rfl
theorem acall_eq (P : Program) (kp : Bool) (f : Nat) (H : List Blk) (R : A → List Blk → Prop) (l : List A) : acall P kp f H R l = VR P kp f l H R := rfl
theorem acallg_eq (P : Program) (kp : Bool) (g : Nat) (caps : List A) (H : List Blk) (R : A → List Blk → Prop) (l : List A) : acallg P kp g caps H R l = (bodied P g = true ∧ VR P kp g (l ++ caps) H R) := rfl
theorem aif_true (P : Program) (n0 : Nat) (Q : QA) (e : List A) (H : List Blk) (a b : S) : aif P n0 Q e H a b true = a.aw P n0 Q e H := rfl
theorem aif_false (P : Program) (n0 : Nat) (Q : QA) (e : List A) (H : List Blk) (a b : S) : aif P n0 Q e H a b false = b.aw P n0 Q e H := rfl
theorem sqA_nxt (P : Program) (n0 : Nat) (b : S) (Q : QA) (e : List A) (H : List Blk) : sqA P n0 b Q .nxt e H = b.aw P n0 Q e H := rfl
theorem sqA_exit (P : Program) (n0 : Nat) (b : S) (Q : QA) (e : List A) (H : List Blk) (i : Nat) : sqA P n0 b Q (.exit i) e H = Q (.exit i) e H := rfl
theorem sqA_ret (P : Program) (n0 : Nat) (b : S) (Q : QA) (e : List A) (H : List Blk) : sqA P n0 b Q .ret e H = Q .ret e H := rfl
theorem bkA_nxt (id : Nat) (Q : QA) (e : List A) (H : List Blk) : bkA id Q .nxt e H = Q .nxt e H := rfl
theorem bkA_ret (id : Nat) (Q : QA) (e : List A) (H : List Blk) : bkA id Q .ret e H = Q .ret e H := rfl
theorem bkA_same (id : Nat) (Q : QA) (e : List A) (H : List Blk) : bkA id Q (.exit id) e H = Q .nxt e H := by simp [bkA]
theorem bkA_other (id i : Nat) (Q : QA) (e : List A) (H : List Blk) (hne : i ≠ id) : bkA id Q (.exit i) e H = Q (.exit i) e H := by
  simp only [bkA]; rw [if_neg hne]
theorem lgA_nxt {α : Type} (n0 : Nat) (I : α → Prop) (env : α → List A) (mem : α → List Blk) (m : α → Nat) (n : Nat) (Q : QA) (e : List A) (H : List Blk) : lgA n0 I env mem m n Q .nxt e H = ∃ a, I a ∧ m a < n ∧ Cut n0 e H (env a) (mem a) := rfl
theorem lgA_exit {α : Type} (n0 : Nat) (I : α → Prop) (env : α → List A) (mem : α → List Blk) (m : α → Nat) (n : Nat) (Q : QA) (e : List A) (H : List Blk) (i : Nat) : lgA n0 I env mem m n Q (.exit i) e H = Q (.exit i) e H := rfl
theorem lgA_ret {α : Type} (n0 : Nat) (I : α → Prop) (env : α → List A) (mem : α → List Blk) (m : α → Nat) (n : Nat) (Q : QA) (e : List A) (H : List Blk) : lgA n0 I env mem m n Q .ret e H = Q .ret e H := rfl
theorem post_retA (n0 : Nat) (F : Fun) (R : A → List Blk → Prop) (e : List A) (H : List Blk) : postA n0 F R .ret e H = bw (resA e H F.res) (apost n0 H R) := rfl
theorem post_nxtA (n0 : Nat) (F : Fun) (R : A → List Blk → Prop) (e : List A) (H : List Blk) : postA n0 F R .nxt e H = bw (resA e H F.res) (apost n0 H R) := rfl
theorem resA_nil (e : List A) (H : List Blk) : resA e H [] = some [] := rfl
theorem resA_cons (e : List A) (H : List Blk) (x : X) (r : List X) : resA e H (x :: r) = ob (x.av e H) fun v => ob (resA e H r) fun l => some (v :: l) := rfl
theorem apost_eq (n0 : Nat) (H : List Blk) (R : A → List Blk → Prop) (l : List A) : apost n0 H R l = ∃ r H', Cut n0 [retA l] H [r] H' ∧ R r H' := rfl
theorem retA_one (a : A) : retA [a] = a := rfl
theorem retA_two (a b : A) : retA [a, b] = .tup [a, b] := rfl
theorem retA_three (a b c : A) : retA [a, b, c] = .tup [a, b, c] := rfl
theorem retA_four (a b c d : A) : retA [a, b, c, d] = .tup [a, b, c, d] := rfl
theorem retA_nil : retA [] = .tup [] := rfl
theorem ck_some (a : A) (K : Unit → Prop) : ck (some a) K = K () := by simp [ck]
theorem ck_ite (t : Bool) (a b : A) (K : Unit → Prop) : ck (itA (some (.v (.bool t))) (some a) (some b)) K = K () := by cases t <;> simp [ck, itA]
theorem iwA_bool (t : Bool) (K : Bool → Prop) : iwA (some (.v (.bool t))) K = ib t K := by
  unfold iwA ib; simp
theorem abox_eq (H : List Blk) (R : A → List Blk → Prop) (cs : List A) : abox H R cs = R (.lp H.length 0 0) (H ++ [⟨0, cs⟩]) := rfl
theorem amk_eq (size : Nat) (z : List Value) (H : List Blk) (R : A → List Blk → Prop) (li ci : Int) : amk size z H R li ci = gd (z.length = size) (R (.sl H.length 0 size 0 li.toNat) (H ++ [⟨0, repA li.toNat (z.map .v)⟩])) := rfl
theorem alit_eq (size len : Nat) (z : List Value) (H : List Blk) (R : A → List Blk → Prop) (cs : List A) : alit size len z H R cs = gd (z.length = size) (R (.sl H.length 0 size 0 len) (H ++ [⟨0, cs⟩])) := rfl
theorem aapp_eq (kp : Bool) (H : List Blk) (size bytes : Nat) (R : A → List Blk → Prop) (sa : A) (m : Nat) (news : List A) : aapp kp H size bytes R sa (m, news) = appA kp H size bytes m news R sa := rfl
theorem acpy_eq (H : List Blk) (size : Nat) (R : A → List Blk → Prop) (sa : A) (m : Nat) (news : List A) : acpy H size R sa (m, news) = cpyA H size m news R sa := rfl
theorem ast_eq (H : List Blk) (n : Nat) (R : A → List Blk → Prop) (pa : A) (cs : List A) : ast H n R pa cs = gd (cs.length = n) (stA H cs R pa) := rfl
theorem stA_lp (H : List Blk) (cs : List A) (R : A → List Blk → Prop) (i ver o : Nat) : stA H cs R (.lp i ver o) = bw (blkAt H i ver) (astl i ver o H cs R) := rfl
theorem astl_eq (i ver o : Nat) (H : List Blk) (cs : List A) (R : A → List Blk → Prop) (l : List A) : astl i ver o H cs R l = gd (o + cs.length ≤ l.length) (R (.v undef) (H.set i ⟨ver, splA l o cs⟩)) := rfl
theorem appA_sl (H : List Blk) (size bytes m : Nat) (news : List A) (R : A → List Blk → Prop) (i ver n : Nat) (h1 : (n + m) * bytes ≤ 140737488355328) (h2 : n + m ≤ 9223372036854775807) : appA false H size bytes m news R (.sl i ver size 0 n) = bw (blkAt H i ver) (aappl i ver n m size H news R) := by
  simp only [appA, h1, h2, true_and]; rfl
def aappv (i ver n m size : Nat) (H : List Blk) (news : List A) (R : A → List Blk → Prop) : List A → Prop := fun cs => n * size ≤ cs.length ∧ R (.vs i (ver + 1) size (n + m)) (H.set i ⟨ver + 1, cs.take (n * size) ++ news⟩)
theorem appA_vs (H : List Blk) (size bytes m : Nat) (news : List A) (R : A → List Blk → Prop) (i ver n : Nat) (h1 : (n + m) * bytes ≤ 140737488355328) (h2 : n + m ≤ 9223372036854775807) : appA false H size bytes m news R (.vs i ver size n) = bw (blkAt H i ver) (aappv i ver n m size H news R) := by
  simp only [appA, h1, h2, true_and]; rfl
theorem aappv_eq (i ver n m size : Nat) (H : List Blk) (news : List A) (R : A → List Blk → Prop) (cs : List A) : aappv i ver n m size H news R cs = gd (n * size ≤ cs.length) (R (.vs i (ver + 1) size (n + m)) (H.set i ⟨ver + 1, cs.take (n * size) ++ news⟩)) := rfl
theorem appA_nil (kp : Bool) (H : List Blk) (size bytes m : Nat) (news : List A) (R : A → List Blk → Prop) (h0 : 0 < m) (h1 : m * bytes ≤ 140737488355328) (h2 : m ≤ 9223372036854775807) : appA kp H size bytes m news R (.v (.slice none 0 0)) = R (.sl H.length 0 size 0 m) (H ++ [⟨0, news⟩]) := by
  simp [appA, h1, h2, h0, Nat.pos_iff_ne_zero.1 h0]
theorem appA_nil0 (kp : Bool) (H : List Blk) (size bytes m : Nat) (news : List A) (R : A → List Blk → Prop) (h0 : m = 0) : appA kp H size bytes m news R (.v (.slice none 0 0)) = R (.v (.slice none 0 0)) H := by
  subst h0; simp [appA]
theorem aappl_eq (i ver n m size : Nat) (H : List Blk) (news : List A) (R : A → List Blk → Prop) (cs : List A) : aappl i ver n m size H news R cs = gd (n * size ≤ cs.length) (R (.sl i (ver + 1) size 0 (n + m)) (H.set i ⟨ver + 1, cs.take (n * size) ++ news⟩)) := rfl
theorem cpyA_sl (H : List Blk) (size m : Nat) (news : List A) (R : A → List Blk → Prop) (i ver o n : Nat) : cpyA H size m news R (.sl i ver size o n) = bw (blkAt H i ver) (acpyl i ver o n m size H news R) := by
  simp only [cpyA, true_and]; rfl
theorem acpyl_eq (i ver o n m size : Nat) (H : List Blk) (news : List A) (R : A → List Blk → Prop) (l : List A) : acpyl i ver o n m size H news R l = gd (o + n * size ≤ l.length) (R (.v (.int .i64 (min m n : Nat))) (H.set i ⟨ver, splA l o (news.take (min m n * size))⟩)) := rfl

/-! ### Expressions -/
def nthc (o : Nat) (l : List A) : Option A := nthA l o
def ldac (n o : Nat) (l : List A) : Option A := if o + n ≤ l.length then some (.agg ((l.drop o).take n)) else none
theorem v_var (e : List A) (H : List Blk) (i : Nat) : (X.var i).av e H = some (e.getD i .any) := rfl
theorem v_lit (e : List A) (H : List Blk) (v : Value) : (X.lit v).av e H = some (liftV v) := rfl
theorem v_len (e : List A) (H : List Blk) (a : X) : (X.u .len a).av e H = ob (a.av e H) lenA := rfl
theorem v_nilc (e : List A) (H : List Blk) (a : X) : (X.u .nilc a).av e H = ob (a.av e H) nilcA := rfl
theorem v_fld (e : List A) (H : List Blk) (n : Nat) (a : X) : (X.u (.fld n) a).av e H = ob (a.av e H) (fldA n) := rfl
theorem v_ld1 (e : List A) (H : List Blk) (a : X) : (X.u .ld1 a).av e H = ob (a.av e H) (ldA H) := rfl
theorem v_lda (e : List A) (H : List Blk) (n : Nat) (a : X) : (X.u (.lda n) a).av e H = ob (a.av e H) (ldaA n H) := rfl
theorem v_un (e : List A) (H : List Blk) (op : UnOp) (a : X) : (X.u (.un op) a).av e H = ob (a.av e H) (s1A (.un op)) := rfl
theorem v_conv (e : List A) (H : List Blk) (k : IntKind) (a : X) : (X.u (.conv k) a).av e H = ob (a.av e H) (s1A (.conv k)) := rfl
theorem v_prt (e : List A) (H : List Blk) (n : Nat) (a : X) : (X.u (.prt n) a).av e H = ob (a.av e H) (prtA n) := rfl
theorem v_prta (e : List A) (H : List Blk) (n k : Nat) (a : X) : (X.u (.prta n k) a).av e H = ob (a.av e H) (prtaA n k) := rfl
theorem v_ext (e : List A) (H : List Blk) (n : Nat) (a : X) : (X.u (.ext n) a).av e H = ob (a.av e H) (extA n) := rfl
theorem v_bin (e : List A) (H : List Blk) (op : BinOp) (a c : X) : (X.b (.bin op) a c).av e H = ob (a.av e H) fun x => ob (c.av e H) fun y => s2A (.bin op) x y := rfl
theorem v_eqb (e : List A) (H : List Blk) (g : Bool) (a c : X) : (X.b (.eqb g) a c).av e H = ob (a.av e H) fun x => ob (c.av e H) fun y => s2A (.eqb g) x y := rfl
theorem v_mx (e : List A) (H : List Blk) (a c : X) : (X.b .mx a c).av e H = ob (a.av e H) fun x => ob (c.av e H) fun y => s2A .mx x y := rfl
theorem v_mn (e : List A) (H : List Blk) (a c : X) : (X.b .mn a c).av e H = ob (a.av e H) fun x => ob (c.av e H) fun y => s2A .mn x y := rfl
theorem v_eqp (e : List A) (H : List Blk) (g : Bool) (a c : X) : (X.b (.eqp g) a c).av e H = ob (a.av e H) fun x => ob (c.av e H) fun y => eqpA g x y := rfl
theorem v_eqs (e : List A) (H : List Blk) (g : Bool) (a c : X) : (X.b (.eqs g) a c).av e H = ob (a.av e H) fun x => ob (c.av e H) fun y => eqsA g x y := rfl
theorem v_eqf (e : List A) (H : List Blk) (g : Bool) (a c : X) : (X.b (.eqf g) a c).av e H = ob (a.av e H) fun x => ob (c.av e H) fun y => eqfA g x y := rfl
theorem v_eqi (e : List A) (H : List Blk) (n : Nat) (g : Bool) (a c : X) : (X.b (.eqi n g) a c).av e H = ob (a.av e H) fun x => ob (c.av e H) fun y => eqiA n g x y := rfl
theorem v_idx (e : List A) (H : List Blk) (n : Nat) (a c : X) : (X.b (.idx n) a c).av e H = ob (a.av e H) fun x => ob (c.av e H) fun y => idxA n x y := rfl
theorem v_idxa (e : List A) (H : List Blk) (m n : Nat) (a c : X) : (X.b (.idxa m n) a c).av e H = ob (a.av e H) fun x => ob (c.av e H) fun y => idxaA m n x y := rfl
theorem v_ixv (e : List A) (H : List Blk) (m n : Nat) (g : Bool) (a c : X) : (X.b (.ixv m n g) a c).av e H = ob (a.av e H) fun x => ob (c.av e H) fun y => ixvA m n g x y := rfl
theorem v_ite (e : List A) (H : List Blk) (c a d : X) : (X.ite c a d).av e H = itA (c.av e H) (a.av e H) (d.av e H) := rfl
theorem v_slc (e : List A) (H : List Blk) (arr : Option Nat) (n : Nat) (a lo hi : X) : (X.slc arr n a lo hi .nl).av e H = ob (a.av e H) fun x => ob (lo.av e H) fun l => ob (hi.av e H) fun u => slcA H arr n x l u none := rfl
theorem v_slcv (e : List A) (H : List Blk) (arr : Option Nat) (n : Nat) (a lo hi : X) (i : Nat) : (X.slc arr n a lo hi (.var i)).av e H = ob (a.av e H) fun x => ob (lo.av e H) fun l => ob (hi.av e H) fun u => slcA H arr n x l u (some (e.getD i .any)) := rfl
theorem v_fn (e : List A) (H : List Blk) (f : Nat) (c : X) : (X.fn f c).av e H = ob (c.avs e H) fun vs => some (.fn f vs) := rfl
theorem v_bld (e : List A) (H : List Blk) (z : List Value) (p : X) : (X.bld z p).av e H = ob (p.avp e H) fun vs => ob (fillA (z.map .v) vs) fun cs => some (.agg cs) := rfl
theorem vs_nl (e : List A) (H : List Blk) : (X.nl).avs e H = some [] := rfl
theorem vs_cn (e : List A) (H : List Blk) (a r : X) : (X.cn a r).avs e H = ob (a.av e H) fun x => ob (r.avs e H) fun xs => some (x :: xs) := rfl
theorem vp_nl (e : List A) (H : List Blk) : (X.nl).avp e H = some [] := rfl
def plc (off size : Nat) (x : A) (r : Option (List (Nat × A))) : List A → Option (List (Nat × A)) := fun cs => if cs.length = size then ob r fun xs => some ((off, x) :: xs) else none
theorem vp_pl (e : List A) (H : List Blk) (off size : Nat) (a r : X) : (X.pl off size a r).avp e H = ob (a.av e H) fun x => ob x.cells (plc off size x (r.avp e H)) := rfl
theorem plc_eq (off size : Nat) (x : A) (r : Option (List (Nat × A))) (cs : List A) : plc off size x r cs = ob (ifo (cs.length = size) ()) fun _ => ob r fun xs => some ((off, x) :: xs) := by
  unfold plc ifo; split <;> rfl

/-! ### Values -/
theorem lift_int (k : IntKind) (n : Int) : liftV (.int k n) = .v (.int k n) := rfl
theorem lift_bool (b : Bool) : liftV (.bool b) = .v (.bool b) := rfl
theorem lift_ptr (a : Option Addr) : liftV (.pointer a) = .v (.pointer a) := rfl
theorem lift_slice (a : Option Addr) (n c : Nat) : liftV (.slice a n c) = .v (.slice a n c) := rfl
theorem lift_fn (f : Nat) : liftV (.func (.func f) #[] #[]) = .fn f [] := rfl
theorem lift_undef : liftV undef = .v undef := rfl
theorem lift_agg (cs : Array Value) : liftV (.agg cs) = .v (.agg cs) := rfl
theorem lift_tuple (cs : Array Value) : liftV (.tuple cs) = .v (.tuple cs) := rfl
theorem lift_str (s : ByteArray) : liftV (.string s) = .v (.string s) := rfl
theorem len_fs (w : Bool) (l : List A) : lenA (.fs w l) = some (.v (.int .i64 l.length)) := rfl
theorem len_sl (i ver k o n : Nat) : lenA (.sl i ver k o n) = some (.v (.int .i64 n)) := rfl
theorem len_vs (i ver k n : Nat) : lenA (.vs i ver k n) = some (.v (.int .i64 n)) := rfl
theorem len_nil : lenA (.v (.slice none 0 0)) = some (.v (.int .i64 0)) := rfl
theorem nilc_lp (i ver o : Nat) : nilcA (.lp i ver o) = some (.lp i ver o) := rfl
theorem nilc_fp (w : Bool) (l : List A) : nilcA (.fp w l) = some (.fp w l) := rfl
theorem nilc_fnA (f : Nat) (l : List A) : nilcA (.fn f l) = some (.fn f l) := rfl
theorem fld_lp (i ver o n : Nat) : fldA n (.lp i ver o) = some (.lp i ver (o + n)) := rfl
theorem fld_fp0 (w : Bool) (l : List A) : fldA 0 (.fp w l) = some (.fp w l) := by simp [fldA]
theorem fld_fps (w : Bool) (a : A) (l : List A) (n : Nat) : fldA (n + 1) (.fp w (a :: l)) = fldA n (.fp w l) := by simp [fldA]
theorem ld_fp (H : List Blk) (w : Bool) (l : List A) : ldA H (.fp w l) = nthA l 0 := rfl
theorem ld_lp (H : List Blk) (i ver o : Nat) : ldA H (.lp i ver o) = ob (blkAt H i ver) (nthc o) := rfl
theorem nthc_eq (o : Nat) (l : List A) : nthc o l = nthA l o := rfl
theorem nthA_zero (a : A) (l : List A) : nthA (a :: l) 0 = some a := rfl
theorem nthA_succ (a : A) (l : List A) (n : Nat) : nthA (a :: l) (n + 1) = nthA l n := rfl
theorem lda_lp (H : List Blk) (n i ver o : Nat) : ldaA n H (.lp i ver o) = ob (blkAt H i ver) (ldac n o) := rfl
theorem lda_fp (H : List Blk) (n : Nat) (w : Bool) (l : List A) : ldaA n H (.fp w l) = ifo (n ≤ l.length) (.agg (l.take n)) := rfl
theorem ldac_eq (n o : Nat) (l : List A) : ldac n o l = ifo (o + n ≤ l.length) (.agg ((l.drop o).take n)) := rfl
theorem prt_aggA (n : Nat) (l : List A) : prtA n (.agg l) = nthA l n := rfl
theorem prta_aggA (n k : Nat) (l : List A) : prtaA n k (.agg l) = some (.agg ((l.drop n).take k)) := rfl
theorem ext_tupA (n : Nat) (l : List A) : extA n (.tup l) = nthA l n := rfl
theorem s_not (b : Bool) : s1A (.un .not) (.v (.bool b)) = some (.v (.bool !b)) := rfl
theorem s_neg (k : IntKind) (n : Int) : s1A (.un .neg) (.v (.int k n)) = some (.v (.int k (k.wrap (0 - n)))) := by cases k <;> rfl
theorem s_cnv (k k' : IntKind) (n : Int) : s1A (.conv k) (.v (.int k' n)) = some (.v (.int k (k.wrap n))) := rfl
theorem s_add (k : IntKind) (a b : Int) : s2A (.bin .add) (.v (.int k a)) (.v (.int k b)) = some (.v (.int k (k.wrap (a + b)))) := by cases k <;> rfl
theorem s_sub (k : IntKind) (a b : Int) : s2A (.bin .sub) (.v (.int k a)) (.v (.int k b)) = some (.v (.int k (k.wrap (a - b)))) := by cases k <;> rfl
theorem s_mul (k : IntKind) (a b : Int) : s2A (.bin .mul) (.v (.int k a)) (.v (.int k b)) = some (.v (.int k (k.wrap (a * b)))) := by cases k <;> rfl
theorem s_lss (k : IntKind) (a b : Int) : s2A (.bin .lss) (.v (.int k a)) (.v (.int k b)) = some (.v (.bool (decide (a < b)))) := by cases k <;> rfl
theorem s_leq (k : IntKind) (a b : Int) : s2A (.bin .leq) (.v (.int k a)) (.v (.int k b)) = some (.v (.bool (decide (a ≤ b)))) := by cases k <;> rfl
theorem s_gtr (k : IntKind) (a b : Int) : s2A (.bin .gtr) (.v (.int k a)) (.v (.int k b)) = some (.v (.bool (decide (b < a)))) := by cases k <;> rfl
theorem s_geq (k : IntKind) (a b : Int) : s2A (.bin .geq) (.v (.int k a)) (.v (.int k b)) = some (.v (.bool (decide (b ≤ a)))) := by cases k <;> rfl
theorem s_eql (k : IntKind) (a b : Int) : s2A (.bin .eql) (.v (.int k a)) (.v (.int k b)) = some (.v (.bool (decide (a = b)))) := by
  simp only [s2A, b_eql]; rfl
theorem s_neq (k : IntKind) (a b : Int) : s2A (.bin .neq) (.v (.int k a)) (.v (.int k b)) = some (.v (.bool (decide (a ≠ b)))) := by
  simp only [s2A, b_neq]; rfl
theorem s_quo (k : IntKind) (a b : Int) (hb : b ≠ 0) : s2A (.bin .quo) (.v (.int k a)) (.v (.int k b)) = some (.v (.int k (k.wrap (a.tdiv b)))) := by
  simp only [s2A, b_quo k a b hb]; rfl
theorem s_rem (k : IntKind) (a b : Int) (hb : b ≠ 0) : s2A (.bin .rem) (.v (.int k a)) (.v (.int k b)) = some (.v (.int k (a.tmod b))) := by
  simp only [s2A, b_rem k a b hb]; rfl
theorem s_eqbA (g a b : Bool) : s2A (.eqb g) (.v (.bool a)) (.v (.bool b)) = some (.v (.bool ((a == b) != g))) := rfl
theorem s_mx (k : IntKind) (a b : Int) : s2A .mx (.v (.int k a)) (.v (.int k b)) = some (.v (.int k (max a b))) := by
  simp only [s2A, mx_int]; rfl
theorem s_mn (k : IntKind) (a b : Int) : s2A .mn (.v (.int k a)) (.v (.int k b)) = some (.v (.int k (min a b))) := by
  simp only [s2A, mn_int]; rfl
theorem eqp_lp (g : Bool) (i ver o : Nat) : eqpA g (.lp i ver o) (.v (.pointer none)) = some (.v (.bool g)) := rfl
theorem eqp_fp (g w : Bool) (l : List A) : eqpA g (.fp w l) (.v (.pointer none)) = some (.v (.bool g)) := rfl
theorem eqp_nil (g : Bool) : eqpA g (.v (.pointer none)) (.v (.pointer none)) = some (.v (.bool (true != g))) := rfl
theorem eqs_sl (g : Bool) (i ver k o n : Nat) (m c : Nat) : eqsA g (.sl i ver k o n) (.v (.slice none m c)) = some (.v (.bool g)) := rfl
theorem eqs_nil (g : Bool) : eqsA g (.v (.slice none 0 0)) (.v (.slice none 0 0)) = some (.v (.bool (true != g))) := rfl
theorem eqf_fn (g : Bool) (f : Nat) (l : List A) : eqfA g (.fn f l) (.v .nilFunc) = some (.v (.bool g)) := rfl
theorem eqi_agg2 (g : Bool) (a b c d : Int) (k l : IntKind) : eqiA 2 g (.agg [.v (.int k a), .v (.int l b)]) (.agg [.v (.int k c), .v (.int l d)]) = some (.v (.bool ((decide (a = c) && decide (b = d)) != g))) := by
  simp [eqiA, eqiL]
theorem eqi_agg4 (g : Bool) (a b c d a' b' c' d' : Int) : eqiA 4 g (.agg [.v (.int .i64 a), .v (.int .i64 b), .v (.int .i64 c), .v (.int .i64 d)]) (.agg [.v (.int .i64 a'), .v (.int .i64 b'), .v (.int .i64 c'), .v (.int .i64 d')]) = some (.v (.bool ((decide (a = a') && (decide (b = b') && (decide (c = c') && decide (d = d')))) != g))) := by
  simp [eqiA, eqiL]
theorem lift_nilfn : liftV .nilFunc = .v .nilFunc := rfl
theorem onev_int (k : IntKind) (n : Int) : Lft.one (.int k n) = true := rfl
theorem onev_slice (a : Option Addr) (n c : Nat) : Lft.one (.slice a n c) = true := rfl
theorem onev_bool (b : Bool) : Lft.one (.bool b) = true := rfl
theorem onev_ptr (a : Option Addr) : Lft.one (.pointer a) = true := rfl
theorem onev_cons (a : Value) (l : List Value) : (a :: l).all Lft.one = (Lft.one a && l.all Lft.one) := rfl
theorem onev_nil : ([] : List Value).all Lft.one = true := rfl
theorem idx_sl (n i ver k o m : Nat) (kk : IntKind) (j : Int) (h1 : 0 ≤ j) (h2 : j < m) : idxA n (.sl i ver k o m) (.v (.int kk j)) = some (.lp i ver (o + j.toNat * n)) := by
  simp [idxA, h1, h2]
theorem idx_vs (n i ver k m : Nat) (kk : IntKind) (j : Int) (h1 : 0 ≤ j) (h2 : j < m) : idxA n (.vs i ver k m) (.v (.int kk j)) = some (.lp i ver (j.toNat * n)) := by
  simp [idxA, h1, h2]
theorem idxa_lp (len n i ver o : Nat) (kk : IntKind) (j : Int) (h1 : 0 ≤ j) (h2 : j < len) : idxaA len n (.lp i ver o) (.v (.int kk j)) = some (.lp i ver (o + j.toNat * n)) := by
  simp [idxaA, h1, h2]
theorem idxa_fp (len n : Nat) (w : Bool) (l : List A) (kk : IntKind) (j : Int) (h1 : 0 ≤ j) (h2 : j < len) : idxaA len n (.fp w l) (.v (.int kk j)) = ifo (j.toNat * n ≤ l.length) (.fp w (l.drop (j.toNat * n))) := by
  simp [idxaA, h1, h2, ifo]
theorem ixv_agg1 (len : Nat) (l : List A) (kk : IntKind) (j : Int) (h1 : 0 ≤ j) (h2 : j < len) : ixvA len 1 false (.agg l) (.v (.int kk j)) = nthA l j.toNat := by
  simp [ixvA, h1, h2]
theorem it_true (a b : Option A) : itA (some (.v (.bool true))) a b = a := rfl
theorem it_false (a b : Option A) : itA (some (.v (.bool false))) a b = b := rfl
theorem it_or (t u : Bool) : itA (some (.v (.bool t))) (some (.v (.bool true))) (some (.v (.bool u))) = some (.v (.bool (t || u))) := by cases t <;> rfl
theorem it_and (t u : Bool) : itA (some (.v (.bool t))) (some (.v (.bool u))) (some (.v (.bool false))) = some (.v (.bool (t && u))) := by cases t <;> rfl
theorem it_pos (p : Prop) [Decidable p] (a b : Option A) (h : p) : itA (some (.v (.bool (decide p)))) a b = a := by simp [h, itA]
theorem it_neg (p : Prop) [Decidable p] (a b : Option A) (h : ¬ p) : itA (some (.v (.bool (decide p)))) a b = b := by simp [h, itA]
theorem blkAt_zero (ver : Nat) (l : List A) (H : List Blk) : blkAt (⟨ver, l⟩ :: H) 0 ver = some l := by simp [blkAt]
theorem blkAt_succ (B : Blk) (H : List Blk) (i ver : Nat) : blkAt (B :: H) (i + 1) ver = blkAt H i ver := rfl
theorem slc_slA (H : List Blk) (n i ver o m : Nat) (k k' : IntKind) (a b : Int) (h1 : 0 ≤ a) (h2 : a ≤ b) (h3 : b ≤ m) : slcA H none n (.sl i ver n o m) (.v (.int k a)) (.v (.int k' b)) none = some (.sl i ver n (o + a.toNat * n) (b.toNat - a.toNat)) := by
  simp [slcA, h1, h2, h3]
theorem slc_fsA (H : List Blk) (n : Nat) (w : Bool) (l : List A) (k k' : IntKind) (a b : Int) (h1 : 0 ≤ a) (h2 : a ≤ b) : slcA H none n (.fs w l) (.v (.int k a)) (.v (.int k' b)) none = ob (cnd (szB n l) ()) fun _ => ifo (b ≤ l.length) (.fs w ((l.take b.toNat).drop a.toNat)) := by
  cases h : szB n l <;> simp [slcA, h1, h2, cnd, ifo, ob, h]
def slcl (i ver o n len : Nat) (a b : Int) : List A → Option A := fun l => if o + len * n ≤ l.length then some (.sl i ver n (o + a.toNat * n) (b.toNat - a.toNat)) else none
theorem slc_lpA (H : List Blk) (n i ver o len : Nat) (k k' : IntKind) (a b : Int) (h1 : 0 ≤ a) (h2 : a ≤ b) (h3 : b ≤ len) : slcA H (some len) n (.lp i ver o) (.v (.int k a)) (.v (.int k' b)) none = ob (blkAt H i ver) (slcl i ver o n len a b) := by
  simp only [slcA, ob]; congr 1; funext l; simp [slcl, h1, h2, h3]
theorem slcl_eq (i ver o n len : Nat) (a b : Int) (l : List A) : slcl i ver o n len a b l = ifo (o + len * n ≤ l.length) (.sl i ver n (o + a.toNat * n) (b.toNat - a.toNat)) := rfl
def newc (o m size : Nat) : List A → Option (Nat × List A) := fun l => if o + m * size ≤ l.length ∧ ((l.drop o).take (m * size)).all A.one = true then some (m, (l.drop o).take (m * size)) else none
theorem news_sl (H : List Blk) (size j ver o m : Nat) : newsA H size (.sl j ver size o m) = ob (blkAt H j ver) (newc o m size) := by
  simp only [newsA, if_true, ob]; rfl
def newv (m size : Nat) : List A → Option (Nat × List A) := fun l => if m * size ≤ l.length ∧ (l.take (m * size)).all A.one = true then some (m, l.take (m * size)) else none
theorem news_vs (H : List Blk) (size j ver m : Nat) : newsA H size (.vs j ver size m) = ob (blkAt H j ver) (newv m size) := by
  simp only [newsA, if_true, ob]; rfl
theorem newv_eq (m size : Nat) (l : List A) : newv m size l = ob (ifo (m * size ≤ l.length) ()) fun _ => cnd ((l.take (m * size)).all A.one) (m, l.take (m * size)) := by
  unfold newv ifo cnd ob; by_cases h1 : m * size ≤ l.length <;> by_cases h2 : (l.take (m * size)).all A.one = true <;> simp [h1, h2]
theorem news_nil (H : List Blk) (size : Nat) : newsA H size (.v (.slice none 0 0)) = some (0, []) := rfl
theorem newc_eq (o m size : Nat) (l : List A) : newc o m size l = ob (ifo (o + m * size ≤ l.length) ()) fun _ => cnd (((l.drop o).take (m * size)).all A.one) (m, (l.drop o).take (m * size)) := by
  unfold newc ifo cnd ob; by_cases h1 : o + m * size ≤ l.length <;> by_cases h2 : ((l.drop o).take (m * size)).all A.one = true <;> simp [h1, h2]

/-! ### Building values -/
theorem c_int (k : IntKind) (n : Int) : A.cells (.v (.int k n)) = some [.v (.int k n)] := rfl
theorem c_bool (b : Bool) : A.cells (.v (.bool b)) = some [.v (.bool b)] := rfl
theorem c_ptr (a : Option Addr) : A.cells (.v (.pointer a)) = some [.v (.pointer a)] := rfl
theorem c_slice (a : Option Addr) (n c : Nat) : A.cells (.v (.slice a n c)) = some [.v (.slice a n c)] := rfl
theorem c_str (s : ByteArray) : A.cells (.v (.string s)) = some [.v (.string s)] := rfl
theorem c_nilfn : A.cells (.v .nilFunc) = some [.v .nilFunc] := rfl
theorem c_fn (f : Nat) (l : List A) : A.cells (.fn f l) = some [.fn f l] := rfl
theorem c_fs (w : Bool) (l : List A) : A.cells (.fs w l) = some [.fs w l] := rfl
theorem c_fp (w : Bool) (l : List A) : A.cells (.fp w l) = some [.fp w l] := rfl
theorem c_sl (i ver k o n : Nat) : A.cells (.sl i ver k o n) = some [.sl i ver k o n] := rfl
theorem c_lp (i ver o : Nat) : A.cells (.lp i ver o) = some [.lp i ver o] := rfl
theorem c_vs (i ver k n : Nat) : A.cells (.vs i ver k n) = some [.vs i ver k n] := rfl
theorem c_agg (l : List A) : A.cells (.agg l) = cnd (l.all A.one) l := rfl
theorem o_int (k : IntKind) (n : Int) : A.one (.v (.int k n)) = true := rfl
theorem o_bool (b : Bool) : A.one (.v (.bool b)) = true := rfl
theorem o_ptr (a : Option Addr) : A.one (.v (.pointer a)) = true := rfl
theorem o_slice (a : Option Addr) (n c : Nat) : A.one (.v (.slice a n c)) = true := rfl
theorem o_str (s : ByteArray) : A.one (.v (.string s)) = true := rfl
theorem o_nilfn : A.one (.v .nilFunc) = true := rfl
theorem o_fn (f : Nat) (l : List A) : A.one (.fn f l) = true := rfl
theorem o_fs (w : Bool) (l : List A) : A.one (.fs w l) = true := rfl
theorem o_fp (w : Bool) (l : List A) : A.one (.fp w l) = true := rfl
theorem o_sl (i ver k o n : Nat) : A.one (.sl i ver k o n) = true := rfl
theorem o_lp (i ver o : Nat) : A.one (.lp i ver o) = true := rfl
theorem o_vs (i ver k n : Nat) : A.one (.vs i ver k n) = true := rfl
theorem all_consA (a : A) (l : List A) : (a :: l).all A.one = (a.one && l.all A.one) := rfl
theorem all_nilA : ([] : List A).all A.one = true := rfl
def filc (c : List A) (off : Nat) (r : List (Nat × A)) : List A → Option (List A) := fun cs => if off + cs.length ≤ c.length then fillA (splA c off cs) r else none
theorem fill_nilA (c : List A) : fillA c [] = some c := rfl
theorem fill_consA (c : List A) (off : Nat) (a : A) (r : List (Nat × A)) : fillA c ((off, a) :: r) = ob a.cells (filc c off r) := rfl
theorem filc_eq (c : List A) (off : Nat) (r : List (Nat × A)) (cs : List A) : filc c off r cs = ob (ifo (off + cs.length ≤ c.length) ()) fun _ => fillA (splA c off cs) r := by
  unfold filc ifo; split <;> rfl
theorem spl_one (c : List A) (o : Nat) (a : A) (h : o < c.length) : splA c o [a] = c.set o a := by
  unfold splA; rw [List.set_eq_take_append_cons_drop, if_pos h]; simp
theorem spl_setI {α : Type} (f : α → A) (xs : List α) (o : Nat) (y : α) (h : o < xs.length) : splA (xs.map f) o [f y] = (xs.set o y).map f := by
  rw [spl_one _ _ _ (by simpa using h), List.map_set]
theorem spl_nil (c : List A) (o : Nat) : splA c o [] = c := by simp [splA]
theorem spl_zero (c cs : List A) (h : c.length = cs.length) : splA c 0 cs = cs := by
  unfold splA; simp [← h]
theorem spl_succ (a : A) (c cs : List A) (o : Nat) : splA (a :: c) (o + 1) cs = a :: splA c o cs := by
  unfold splA; simp [show o + 1 + cs.length = o + cs.length + 1 by omega]
theorem spl_cons (a b : A) (c cs : List A) : splA (a :: c) 0 (b :: cs) = b :: splA c 0 cs := by
  unfold splA; simp
theorem rep_one (n : Nat) (a : A) : repA n [a] = List.replicate n a := repA_one n a
theorem rep_zero (z : List A) : repL 0 z = [] := rfl
theorem rep_succ (n : Nat) (z : List A) : repL (n + 1) z = z ++ repL n z := by
  unfold repL repA; rw [List.replicate_succ, List.flatten_cons]
theorem mapv_cons (x : Value) (l : List Value) : (x :: l).map A.v = .v x :: l.map A.v := rfl
theorem mapv_rep (n : Nat) (x : Value) : (List.replicate n x).map A.v = List.replicate n (A.v x) := List.map_replicate
theorem mapv_nil : ([] : List Value).map A.v = [] := rfl
theorem lenA_cons (a : A) (l : List A) : (a :: l).length = l.length + 1 := rfl
theorem lenA_nil : ([] : List A).length = 0 := rfl
theorem lenB_cons (a : Blk) (l : List Blk) : (a :: l).length = l.length + 1 := rfl
theorem lenB_nil : ([] : List Blk).length = 0 := rfl
theorem lenV_cons (a : Value) (l : List Value) : (a :: l).length = l.length + 1 := rfl
theorem lenV_nil : ([] : List Value).length = 0 := rfl
theorem appB_cons (a : Blk) (l m : List Blk) : (a :: l) ++ m = a :: (l ++ m) := rfl
theorem appB_nil (m : List Blk) : [] ++ m = m := rfl
theorem appA_cons (a : A) (l m : List A) : (a :: l) ++ m = a :: (l ++ m) := rfl
theorem appA_nl (m : List A) : [] ++ m = m := rfl
theorem tkA_zero (l : List A) : l.take 0 = [] := rfl
theorem tkA_succ (a : A) (l : List A) (n : Nat) : (a :: l).take (n + 1) = a :: l.take n := rfl
theorem tkA_nil (n : Nat) : ([] : List A).take n = [] := by cases n <;> rfl
theorem drA_zero (l : List A) : l.drop 0 = l := rfl
theorem drA_succ (a : A) (l : List A) (n : Nat) : (a :: l).drop (n + 1) = l.drop n := rfl
theorem drA_nil (n : Nat) : ([] : List A).drop n = [] := by cases n <;> rfl
theorem rpA_succ (a : A) (n : Nat) : List.replicate (n + 1) a = a :: List.replicate n a := rfl
theorem rpA_zero (a : A) : List.replicate 0 a = [] := rfl
theorem gtA_zero (a d : A) (l : List A) : (a :: l).getD 0 d = a := rfl
theorem gtA_succ (a d : A) (l : List A) (n : Nat) : (a :: l).getD (n + 1) d = l.getD n d := rfl
theorem gtA_nil (d : A) (n : Nat) : ([] : List A).getD n d = d := rfl
theorem stA_zero (a b : A) (l : List A) : (a :: l).set 0 b = b :: l := rfl
theorem stA_succ (a b : A) (l : List A) (n : Nat) : (a :: l).set (n + 1) b = a :: l.set n b := rfl
theorem stB_zero (a b : Blk) (l : List Blk) : (a :: l).set 0 b = b :: l := rfl
theorem stB_succ (a b : Blk) (l : List Blk) (n : Nat) : (a :: l).set (n + 1) b = a :: l.set n b := rfl
theorem env_cons (t : Nat) (V : List Nat) (args : List A) : envA (t :: V) args = args.getD t .any :: envA V args := rfl
theorem env_nil (args : List A) : envA [] args = [] := rfl
theorem bwA_some {α : Type} (x : α) (k : α → Prop) : bw (some x) k = k x := bw_some x k
theorem obA_some {α β : Type} (x : α) (f : α → Option β) : ob (some x) f = f x := rfl
theorem ibA_true (K : Bool → Prop) : ib true K = K true := rfl
theorem ibA_false (K : Bool → Prop) : ib false K = K false := rfl
theorem ibA_pos (p : Prop) [Decidable p] (K : Bool → Prop) (h : p) : ib (decide p) K = K true := ib_pos h
theorem ibA_neg (p : Prop) [Decidable p] (K : Bool → Prop) (h : ¬ p) : ib (decide p) K = K false := ib_neg h

/-! ### All of it in a word -/
theorem aW :
    (∀ (P : Program) (n0 : Nat) (Q : QA) (e : List A) (H : List Blk), (S.nxt).aw P n0 Q e H = Q .nxt e H) ∧
    (∀ (P : Program) (n0 : Nat) (Q : QA) (e : List A) (H : List Blk) (i : Nat), (S.exit i).aw P n0 Q e H = Q (.exit i) e H) ∧
    (∀ (P : Program) (n0 : Nat) (Q : QA) (e : List A) (H : List Blk), (S.ret).aw P n0 Q e H = Q .ret e H) ∧
    (∀ (P : Program) (n0 : Nat) (Q : QA) (e : List A) (H : List Blk) (i : Nat) (x : X) (k : S), (S.set i x k).aw P n0 Q e H = bw (x.av e H) (aset P n0 Q e H k i)) ∧
    (∀ (P : Program) (n0 : Nat) (Q : QA) (e : List A) (H : List Blk) (x : X) (k : S), (S.chk x k).aw P n0 Q e H = ck (x.av e H) (achk P n0 Q e H k)) ∧
    (∀ (P : Program) (n0 : Nat) (Q : QA) (e : List A) (H : List Blk) (c : X) (a b : S), (S.ite c a b).aw P n0 Q e H = iwA (c.av e H) (aif P n0 Q e H a b)) ∧
    (∀ (P : Program) (n0 : Nat) (Q : QA) (e : List A) (H : List Blk) (a b : S), (S.both a b).aw P n0 Q e H = (a.aw P n0 Q e H ∧ b.aw P n0 Q e H)) ∧
    (∀ (P : Program) (n0 : Nat) (Q : QA) (e : List A) (H : List Blk) (a b : S), (S.seq a b).aw P n0 Q e H = a.aw P n0 (sqA P n0 b Q) e H) ∧
    (∀ (P : Program) (n0 : Nat) (Q : QA) (e : List A) (H : List Blk) (id : Nat) (a : S), (S.blk id a).aw P n0 Q e H = a.aw P n0 (bkA id Q) e H) ∧
    (∀ (P : Program) (n0 : Nat) (Q : QA) (e : List A) (H : List Blk) (a : S), (S.loop a).aw P n0 Q e H = AWP P n0 (.loop a) Q e H) ∧
    (∀ (P : Program) (n0 : Nat) (Q : QA) (e : List A) (H : List Blk) (kp : Bool) (d : Option Nat) (f : Nat) (as : X) (k : S), (S.call kp d f as k).aw P n0 Q e H = bw (as.avs e H) (acall P kp f H (aret P n0 Q e d k))) ∧
    (∀ (P : Program) (n0 : Nat) (Q : QA) (e : List A) (H : List Blk) (kp : Bool) (d : Option Nat) (f as : X) (k : S), (S.callv kp d f as k).aw P n0 Q e H = bw (f.av e H) (acallf P kp (as.avs e H) H (aret P n0 Q e d k))) ∧
    (∀ (P : Program) (kp : Bool) (as : Option (List A)) (H : List Blk) (R : A → List Blk → Prop) (g : Nat) (caps : List A), acallf P kp as H R (.fn g caps) = bw as (acallg P kp g caps H R)) ∧
    (∀ (P : Program) (n0 : Nat) (Q : QA) (e : List A) (H : List Blk) (kp : Bool) (d : Option Nat) (t : Nat) (z : List Value) (k : S), (S.eff kp d (.alloc t z) k).aw P n0 Q e H = aput P n0 Q e d k (.lp H.length 0 0) (H ++ [⟨0, z.map .v⟩])) ∧
    (∀ (P : Program) (n0 : Nat) (Q : QA) (e : List A) (H : List Blk) (kp : Bool) (d : Option Nat) (t : Nat) (x : X) (k : S), (S.eff kp d (.box t x) k).aw P n0 Q e H = bw (ob (x.av e H) A.cells) (abox H (aput P n0 Q e d k))) ∧
    (∀ (P : Program) (n0 : Nat) (Q : QA) (e : List A) (H : List Blk) (kp : Bool) (d : Option Nat) (t size bytes : Nat) (z : List Value) (l c : X) (k : S), (S.eff kp d (.mk t size bytes z l c) k).aw P n0 Q e H = bw (l.av e H) fun la => bw (c.av e H) fun ca => mkA la ca bytes (amk size z H (aput P n0 Q e d k))) ∧
    (∀ (kl kc : IntKind) (li ci : Int) (bytes : Nat) (K : Int → Int → Prop) (h1 : 0 ≤ li) (h2 : li ≤ ci) (h3 : (bytes : Int) * ci ≤ 281474976710656) (h4 : ci ≤ 9223372036854775807), mkA (.v (.int kl li)) (.v (.int kc ci)) bytes K = K li ci) ∧
    (∀ (P : Program) (n0 : Nat) (Q : QA) (e : List A) (H : List Blk) (kp : Bool) (d : Option Nat) (t size len : Nat) (z : List Value) (ps : X) (k : S), (S.eff kp d (.lit t size len z ps) k).aw P n0 Q e H = bw (ob (ps.avp e H) (fillA (repL len (z.map .v)))) (alit size len z H (aput P n0 Q e d k))) ∧
    (∀ (P : Program) (n0 : Nat) (Q : QA) (e : List A) (H : List Blk) (kp : Bool) (d : Option Nat) (t size bytes : Nat) (z : List Value) (s x : X) (k : S), (S.eff kp d (.app t size bytes z s x) k).aw P n0 Q e H = bw (s.av e H) fun sa => bw (ob (x.av e H) (newsA H size)) (aapp kp H size bytes (aput P n0 Q e d k) sa)) ∧
    (∀ (P : Program) (n0 : Nat) (Q : QA) (e : List A) (H : List Blk) (d : Option Nat) (size : Nat) (s x : X) (k : S), (S.eff false d (.cpy size s x) k).aw P n0 Q e H = bw (s.av e H) fun sa => bw (ob (x.av e H) (newsA H size)) (acpy H size (aput P n0 Q e d k) sa)) ∧
    (∀ (P : Program) (n0 : Nat) (Q : QA) (e : List A) (H : List Blk) (d : Option Nat) (z : List Value) (s : X) (k : S), (S.eff false d (.clr z s) k).aw P n0 Q e H = gd (z.all Lft.one = true) (bw (s.av e H) (aclr H z (aput P n0 Q e d k)))) ∧
    (∀ (H : List Blk) (z : List Value) (R : A → List Blk → Prop) (i ver k o n : Nat), aclr H z R (.sl i ver k o n) = gd (k = z.length) (bw (blkAt H i ver) (aclrl i ver o n z H R))) ∧
    (∀ (i ver o n : Nat) (z : List Value) (H : List Blk) (R : A → List Blk → Prop) (l : List A), aclrl i ver o n z H R l = gd (o + n * z.length ≤ l.length) (R (.v undef) (H.set i ⟨ver, splA l o (repL n (z.map .v))⟩))) ∧
    (∀ (P : Program) (n0 : Nat) (Q : QA) (e : List A) (H : List Blk) (d : Option Nat) (n : Nat) (p v : X) (k : S), (S.eff false d (.st n p v) k).aw P n0 Q e H = bw (p.av e H) fun pa => bw (ob (v.av e H) A.cells) (ast H n (aput P n0 Q e d k) pa)) ∧
    (∀ (P : Program) (n0 : Nat) (Q : QA) (e : List A) (H : List Blk) (k : S) (i : Nat) (a : A), aset P n0 Q e H k i a = k.aw P n0 Q (e.set i a) H) ∧
    (∀ (P : Program) (n0 : Nat) (Q : QA) (e : List A) (H : List Blk) (k : S), achk P n0 Q e H k () = k.aw P n0 Q e H) ∧
    (∀ (P : Program) (n0 : Nat) (Q : QA) (e : List A) (i : Nat) (k : S) (a : A) (H : List Blk), aput P n0 Q e (some i) k a H = k.aw P n0 Q (e.set i a) H) ∧
    (∀ (P : Program) (n0 : Nat) (Q : QA) (e : List A) (k : S) (a : A) (H : List Blk), aput P n0 Q e none k a H = k.aw P n0 Q e H) ∧
    (∀ (P : Program) (n0 : Nat) (Q : QA) (e : List A) (i : Nat) (k : S) (a : A) (H : List Blk), aret P n0 Q e (some i) k a H = AWP P n0 k Q (e.set i a) H) ∧
    (∀ (P : Program) (n0 : Nat) (Q : QA) (e : List A) (k : S) (a : A) (H : List Blk), aret P n0 Q e none k a H = AWP P n0 k Q e H) ∧
    (∀ (P : Program) (kp : Bool) (f : Nat) (H : List Blk) (R : A → List Blk → Prop) (l : List A), acall P kp f H R l = VR P kp f l H R) ∧
    (∀ (P : Program) (kp : Bool) (g : Nat) (caps : List A) (H : List Blk) (R : A → List Blk → Prop) (l : List A), acallg P kp g caps H R l = (bodied P g = true ∧ VR P kp g (l ++ caps) H R)) ∧
    (∀ (P : Program) (n0 : Nat) (Q : QA) (e : List A) (H : List Blk) (a b : S), aif P n0 Q e H a b true = a.aw P n0 Q e H) ∧
    (∀ (P : Program) (n0 : Nat) (Q : QA) (e : List A) (H : List Blk) (a b : S), aif P n0 Q e H a b false = b.aw P n0 Q e H) ∧
    (∀ (P : Program) (n0 : Nat) (b : S) (Q : QA) (e : List A) (H : List Blk), sqA P n0 b Q .nxt e H = b.aw P n0 Q e H) ∧
    (∀ (P : Program) (n0 : Nat) (b : S) (Q : QA) (e : List A) (H : List Blk) (i : Nat), sqA P n0 b Q (.exit i) e H = Q (.exit i) e H) ∧
    (∀ (P : Program) (n0 : Nat) (b : S) (Q : QA) (e : List A) (H : List Blk), sqA P n0 b Q .ret e H = Q .ret e H) ∧
    (∀ (id : Nat) (Q : QA) (e : List A) (H : List Blk), bkA id Q .nxt e H = Q .nxt e H) ∧
    (∀ (id : Nat) (Q : QA) (e : List A) (H : List Blk), bkA id Q .ret e H = Q .ret e H) ∧
    (∀ (id : Nat) (Q : QA) (e : List A) (H : List Blk), bkA id Q (.exit id) e H = Q .nxt e H) ∧
    (∀ (id i : Nat) (Q : QA) (e : List A) (H : List Blk) (hne : i ≠ id), bkA id Q (.exit i) e H = Q (.exit i) e H) ∧
    (∀ {α : Type} (n0 : Nat) (I : α → Prop) (env : α → List A) (mem : α → List Blk) (m : α → Nat) (n : Nat) (Q : QA) (e : List A) (H : List Blk), lgA n0 I env mem m n Q .nxt e H = ∃ a, I a ∧ m a < n ∧ Cut n0 e H (env a) (mem a)) ∧
    (∀ {α : Type} (n0 : Nat) (I : α → Prop) (env : α → List A) (mem : α → List Blk) (m : α → Nat) (n : Nat) (Q : QA) (e : List A) (H : List Blk) (i : Nat), lgA n0 I env mem m n Q (.exit i) e H = Q (.exit i) e H) ∧
    (∀ {α : Type} (n0 : Nat) (I : α → Prop) (env : α → List A) (mem : α → List Blk) (m : α → Nat) (n : Nat) (Q : QA) (e : List A) (H : List Blk), lgA n0 I env mem m n Q .ret e H = Q .ret e H) ∧
    (∀ (n0 : Nat) (F : Fun) (R : A → List Blk → Prop) (e : List A) (H : List Blk), postA n0 F R .ret e H = bw (resA e H F.res) (apost n0 H R)) ∧
    (∀ (n0 : Nat) (F : Fun) (R : A → List Blk → Prop) (e : List A) (H : List Blk), postA n0 F R .nxt e H = bw (resA e H F.res) (apost n0 H R)) ∧
    (∀ (e : List A) (H : List Blk), resA e H [] = some []) ∧
    (∀ (e : List A) (H : List Blk) (x : X) (r : List X), resA e H (x :: r) = ob (x.av e H) fun v => ob (resA e H r) fun l => some (v :: l)) ∧
    (∀ (a : A), retA [a] = a) ∧
    (∀ (a b : A), retA [a, b] = .tup [a, b]) ∧
    (∀ (a b c : A), retA [a, b, c] = .tup [a, b, c]) ∧
    (∀ (a b c d : A), retA [a, b, c, d] = .tup [a, b, c, d]) ∧
    (retA [] = .tup []) ∧
    (∀ (a : A) (K : Unit → Prop), ck (some a) K = K ()) ∧
    (∀ (t : Bool) (a b : A) (K : Unit → Prop), ck (itA (some (.v (.bool t))) (some a) (some b)) K = K ()) ∧
    (∀ (t : Bool) (K : Bool → Prop), iwA (some (.v (.bool t))) K = ib t K) ∧
    (∀ (H : List Blk) (R : A → List Blk → Prop) (cs : List A), abox H R cs = R (.lp H.length 0 0) (H ++ [⟨0, cs⟩])) ∧
    (∀ (size : Nat) (z : List Value) (H : List Blk) (R : A → List Blk → Prop) (li ci : Int), amk size z H R li ci = gd (z.length = size) (R (.sl H.length 0 size 0 li.toNat) (H ++ [⟨0, repA li.toNat (z.map .v)⟩]))) ∧
    (∀ (size len : Nat) (z : List Value) (H : List Blk) (R : A → List Blk → Prop) (cs : List A), alit size len z H R cs = gd (z.length = size) (R (.sl H.length 0 size 0 len) (H ++ [⟨0, cs⟩]))) ∧
    (∀ (kp : Bool) (H : List Blk) (size bytes : Nat) (R : A → List Blk → Prop) (sa : A) (m : Nat) (news : List A), aapp kp H size bytes R sa (m, news) = appA kp H size bytes m news R sa) ∧
    (∀ (H : List Blk) (size : Nat) (R : A → List Blk → Prop) (sa : A) (m : Nat) (news : List A), acpy H size R sa (m, news) = cpyA H size m news R sa) ∧
    (∀ (H : List Blk) (n : Nat) (R : A → List Blk → Prop) (pa : A) (cs : List A), ast H n R pa cs = gd (cs.length = n) (stA H cs R pa)) ∧
    (∀ (H : List Blk) (cs : List A) (R : A → List Blk → Prop) (i ver o : Nat), stA H cs R (.lp i ver o) = bw (blkAt H i ver) (astl i ver o H cs R)) ∧
    (∀ (i ver o : Nat) (H : List Blk) (cs : List A) (R : A → List Blk → Prop) (l : List A), astl i ver o H cs R l = gd (o + cs.length ≤ l.length) (R (.v undef) (H.set i ⟨ver, splA l o cs⟩))) ∧
    (∀ (H : List Blk) (size bytes m : Nat) (news : List A) (R : A → List Blk → Prop) (i ver n : Nat) (h1 : (n + m) * bytes ≤ 140737488355328) (h2 : n + m ≤ 9223372036854775807), appA false H size bytes m news R (.sl i ver size 0 n) = bw (blkAt H i ver) (aappl i ver n m size H news R)) ∧
    (∀ (H : List Blk) (size bytes m : Nat) (news : List A) (R : A → List Blk → Prop) (i ver n : Nat) (h1 : (n + m) * bytes ≤ 140737488355328) (h2 : n + m ≤ 9223372036854775807), appA false H size bytes m news R (.vs i ver size n) = bw (blkAt H i ver) (aappv i ver n m size H news R)) ∧
    (∀ (i ver n m size : Nat) (H : List Blk) (news : List A) (R : A → List Blk → Prop) (cs : List A), aappv i ver n m size H news R cs = gd (n * size ≤ cs.length) (R (.vs i (ver + 1) size (n + m)) (H.set i ⟨ver + 1, cs.take (n * size) ++ news⟩))) ∧
    (∀ (kp : Bool) (H : List Blk) (size bytes m : Nat) (news : List A) (R : A → List Blk → Prop) (h0 : 0 < m) (h1 : m * bytes ≤ 140737488355328) (h2 : m ≤ 9223372036854775807), appA kp H size bytes m news R (.v (.slice none 0 0)) = R (.sl H.length 0 size 0 m) (H ++ [⟨0, news⟩])) ∧
    (∀ (kp : Bool) (H : List Blk) (size bytes m : Nat) (news : List A) (R : A → List Blk → Prop) (h0 : m = 0), appA kp H size bytes m news R (.v (.slice none 0 0)) = R (.v (.slice none 0 0)) H) ∧
    (∀ (i ver n m size : Nat) (H : List Blk) (news : List A) (R : A → List Blk → Prop) (cs : List A), aappl i ver n m size H news R cs = gd (n * size ≤ cs.length) (R (.sl i (ver + 1) size 0 (n + m)) (H.set i ⟨ver + 1, cs.take (n * size) ++ news⟩))) ∧
    (∀ (H : List Blk) (size m : Nat) (news : List A) (R : A → List Blk → Prop) (i ver o n : Nat), cpyA H size m news R (.sl i ver size o n) = bw (blkAt H i ver) (acpyl i ver o n m size H news R)) ∧
    (∀ (i ver o n m size : Nat) (H : List Blk) (news : List A) (R : A → List Blk → Prop) (l : List A), acpyl i ver o n m size H news R l = gd (o + n * size ≤ l.length) (R (.v (.int .i64 (min m n : Nat))) (H.set i ⟨ver, splA l o (news.take (min m n * size))⟩))) ∧
    (∀ (p X : Prop) (h : p), gd p X = X) ∧
    (∀ (X : Prop), gd True X = X) ∧
    (∀ {α : Type} (p : Prop) [Decidable p] (a : α) (h : p), ifo p a = some a) ∧
    (∀ {α : Type} [Decidable True] (a : α), ifo True a = some a) ∧
    (∀ {α : Type} (a : α), cnd true a = some a) ∧
    (∀ {α : Type} (x : α) (k : α → Prop), bw (some x) k = k x) ∧
    (∀ {α β : Type} (x : α) (f : α → Option β), ob (some x) f = f x) ∧
    (∀ (K : Bool → Prop), ib true K = K true) ∧
    (∀ (K : Bool → Prop), ib false K = K false) ∧
    (∀ (p : Prop) [Decidable p] (K : Bool → Prop) (h : p), ib (decide p) K = K true) ∧
    (∀ (p : Prop) [Decidable p] (K : Bool → Prop) (h : ¬ p), ib (decide p) K = K false) :=
  ⟨@a_nxt, @a_exit, @a_ret, @a_set, @a_chk, @a_ite, @a_both, @a_seq, @a_blk, @a_loop, @a_call, @a_callv, @acallf_fn, @a_alloc, @a_box, @a_mk, @mkA_int, @a_lit, @a_app, @a_cpy, @a_clr, @aclr_eq, @aclrl_eq, @a_st, @aset_eq, @achk_eq, @aput_some, @aput_none, @aret_some, @aret_none, @acall_eq, @acallg_eq, @aif_true, @aif_false, @sqA_nxt, @sqA_exit, @sqA_ret, @bkA_nxt, @bkA_ret, @bkA_same, @bkA_other, @lgA_nxt, @lgA_exit, @lgA_ret, @post_retA, @post_nxtA, @resA_nil, @resA_cons, @retA_one, @retA_two, @retA_three, @retA_four, @retA_nil, @ck_some, @ck_ite, @iwA_bool, @abox_eq, @amk_eq, @alit_eq, @aapp_eq, @acpy_eq, @ast_eq, @stA_lp, @astl_eq, @appA_sl, @appA_vs, @aappv_eq, @appA_nil, @appA_nil0, @aappl_eq, @cpyA_sl, @acpyl_eq, @gd_pos, @gd_true, @ifo_pos, @ifo_true, @cnd_true, @bwA_some, @obA_some, @ibA_true, @ibA_false, @ibA_pos, @ibA_neg⟩
theorem aX :
    (∀ (e : List A) (H : List Blk) (i : Nat), (X.var i).av e H = some (e.getD i .any)) ∧
    (∀ (e : List A) (H : List Blk) (v : Value), (X.lit v).av e H = some (liftV v)) ∧
    (∀ (e : List A) (H : List Blk) (a : X), (X.u .len a).av e H = ob (a.av e H) lenA) ∧
    (∀ (e : List A) (H : List Blk) (a : X), (X.u .nilc a).av e H = ob (a.av e H) nilcA) ∧
    (∀ (e : List A) (H : List Blk) (n : Nat) (a : X), (X.u (.fld n) a).av e H = ob (a.av e H) (fldA n)) ∧
    (∀ (e : List A) (H : List Blk) (a : X), (X.u .ld1 a).av e H = ob (a.av e H) (ldA H)) ∧
    (∀ (e : List A) (H : List Blk) (n : Nat) (a : X), (X.u (.lda n) a).av e H = ob (a.av e H) (ldaA n H)) ∧
    (∀ (e : List A) (H : List Blk) (op : UnOp) (a : X), (X.u (.un op) a).av e H = ob (a.av e H) (s1A (.un op))) ∧
    (∀ (e : List A) (H : List Blk) (k : IntKind) (a : X), (X.u (.conv k) a).av e H = ob (a.av e H) (s1A (.conv k))) ∧
    (∀ (e : List A) (H : List Blk) (n : Nat) (a : X), (X.u (.prt n) a).av e H = ob (a.av e H) (prtA n)) ∧
    (∀ (e : List A) (H : List Blk) (n k : Nat) (a : X), (X.u (.prta n k) a).av e H = ob (a.av e H) (prtaA n k)) ∧
    (∀ (e : List A) (H : List Blk) (n : Nat) (a : X), (X.u (.ext n) a).av e H = ob (a.av e H) (extA n)) ∧
    (∀ (e : List A) (H : List Blk) (op : BinOp) (a c : X), (X.b (.bin op) a c).av e H = ob (a.av e H) fun x => ob (c.av e H) fun y => s2A (.bin op) x y) ∧
    (∀ (e : List A) (H : List Blk) (g : Bool) (a c : X), (X.b (.eqb g) a c).av e H = ob (a.av e H) fun x => ob (c.av e H) fun y => s2A (.eqb g) x y) ∧
    (∀ (e : List A) (H : List Blk) (a c : X), (X.b .mx a c).av e H = ob (a.av e H) fun x => ob (c.av e H) fun y => s2A .mx x y) ∧
    (∀ (e : List A) (H : List Blk) (a c : X), (X.b .mn a c).av e H = ob (a.av e H) fun x => ob (c.av e H) fun y => s2A .mn x y) ∧
    (∀ (e : List A) (H : List Blk) (g : Bool) (a c : X), (X.b (.eqp g) a c).av e H = ob (a.av e H) fun x => ob (c.av e H) fun y => eqpA g x y) ∧
    (∀ (e : List A) (H : List Blk) (g : Bool) (a c : X), (X.b (.eqs g) a c).av e H = ob (a.av e H) fun x => ob (c.av e H) fun y => eqsA g x y) ∧
    (∀ (e : List A) (H : List Blk) (g : Bool) (a c : X), (X.b (.eqf g) a c).av e H = ob (a.av e H) fun x => ob (c.av e H) fun y => eqfA g x y) ∧
    (∀ (e : List A) (H : List Blk) (n : Nat) (g : Bool) (a c : X), (X.b (.eqi n g) a c).av e H = ob (a.av e H) fun x => ob (c.av e H) fun y => eqiA n g x y) ∧
    (∀ (e : List A) (H : List Blk) (n : Nat) (a c : X), (X.b (.idx n) a c).av e H = ob (a.av e H) fun x => ob (c.av e H) fun y => idxA n x y) ∧
    (∀ (e : List A) (H : List Blk) (m n : Nat) (a c : X), (X.b (.idxa m n) a c).av e H = ob (a.av e H) fun x => ob (c.av e H) fun y => idxaA m n x y) ∧
    (∀ (e : List A) (H : List Blk) (m n : Nat) (g : Bool) (a c : X), (X.b (.ixv m n g) a c).av e H = ob (a.av e H) fun x => ob (c.av e H) fun y => ixvA m n g x y) ∧
    (∀ (e : List A) (H : List Blk) (c a d : X), (X.ite c a d).av e H = itA (c.av e H) (a.av e H) (d.av e H)) ∧
    (∀ (e : List A) (H : List Blk) (arr : Option Nat) (n : Nat) (a lo hi : X), (X.slc arr n a lo hi .nl).av e H = ob (a.av e H) fun x => ob (lo.av e H) fun l => ob (hi.av e H) fun u => slcA H arr n x l u none) ∧
    (∀ (e : List A) (H : List Blk) (arr : Option Nat) (n : Nat) (a lo hi : X) (i : Nat), (X.slc arr n a lo hi (.var i)).av e H = ob (a.av e H) fun x => ob (lo.av e H) fun l => ob (hi.av e H) fun u => slcA H arr n x l u (some (e.getD i .any))) ∧
    (∀ (e : List A) (H : List Blk) (f : Nat) (c : X), (X.fn f c).av e H = ob (c.avs e H) fun vs => some (.fn f vs)) ∧
    (∀ (e : List A) (H : List Blk) (z : List Value) (p : X), (X.bld z p).av e H = ob (p.avp e H) fun vs => ob (fillA (z.map .v) vs) fun cs => some (.agg cs)) ∧
    (∀ (e : List A) (H : List Blk), (X.nl).avs e H = some []) ∧
    (∀ (e : List A) (H : List Blk) (a r : X), (X.cn a r).avs e H = ob (a.av e H) fun x => ob (r.avs e H) fun xs => some (x :: xs)) ∧
    (∀ (e : List A) (H : List Blk), (X.nl).avp e H = some []) ∧
    (∀ (e : List A) (H : List Blk) (off size : Nat) (a r : X), (X.pl off size a r).avp e H = ob (a.av e H) fun x => ob x.cells (plc off size x (r.avp e H))) ∧
    (∀ (off size : Nat) (x : A) (r : Option (List (Nat × A))) (cs : List A), plc off size x r cs = ob (ifo (cs.length = size) ()) fun _ => ob r fun xs => some ((off, x) :: xs)) ∧
    (∀ (k : IntKind) (n : Int), liftV (.int k n) = .v (.int k n)) ∧
    (∀ (b : Bool), liftV (.bool b) = .v (.bool b)) ∧
    (∀ (a : Option Addr), liftV (.pointer a) = .v (.pointer a)) ∧
    (∀ (a : Option Addr) (n c : Nat), liftV (.slice a n c) = .v (.slice a n c)) ∧
    (∀ (f : Nat), liftV (.func (.func f) #[] #[]) = .fn f []) ∧
    (liftV undef = .v undef) ∧
    (∀ (cs : Array Value), liftV (.agg cs) = .v (.agg cs)) ∧
    (∀ (cs : Array Value), liftV (.tuple cs) = .v (.tuple cs)) ∧
    (∀ (s : ByteArray), liftV (.string s) = .v (.string s)) ∧
    (liftV .nilFunc = .v .nilFunc) ∧
    (∀ (a b : Option A), itA (some (.v (.bool true))) a b = a) ∧
    (∀ (a b : Option A), itA (some (.v (.bool false))) a b = b) ∧
    (∀ (t u : Bool), itA (some (.v (.bool t))) (some (.v (.bool true))) (some (.v (.bool u))) = some (.v (.bool (t || u)))) ∧
    (∀ (t u : Bool), itA (some (.v (.bool t))) (some (.v (.bool u))) (some (.v (.bool false))) = some (.v (.bool (t && u)))) ∧
    (∀ (p : Prop) [Decidable p] (a b : Option A) (h : p), itA (some (.v (.bool (decide p)))) a b = a) ∧
    (∀ (p : Prop) [Decidable p] (a b : Option A) (h : ¬ p), itA (some (.v (.bool (decide p)))) a b = b) ∧
    (∀ (ver : Nat) (l : List A) (H : List Blk), blkAt (⟨ver, l⟩ :: H) 0 ver = some l) ∧
    (∀ (B : Blk) (H : List Blk) (i ver : Nat), blkAt (B :: H) (i + 1) ver = blkAt H i ver) :=
  ⟨@v_var, @v_lit, @v_len, @v_nilc, @v_fld, @v_ld1, @v_lda, @v_un, @v_conv, @v_prt, @v_prta, @v_ext, @v_bin, @v_eqb, @v_mx, @v_mn, @v_eqp, @v_eqs, @v_eqf, @v_eqi, @v_idx, @v_idxa, @v_ixv, @v_ite, @v_slc, @v_slcv, @v_fn, @v_bld, @vs_nl, @vs_cn, @vp_nl, @vp_pl, @plc_eq, @lift_int, @lift_bool, @lift_ptr, @lift_slice, @lift_fn, @lift_undef, @lift_agg, @lift_tuple, @lift_str, @lift_nilfn, @it_true, @it_false, @it_or, @it_and, @it_pos, @it_neg, @blkAt_zero, @blkAt_succ⟩
theorem aV :
    (∀ (w : Bool) (l : List A), lenA (.fs w l) = some (.v (.int .i64 l.length))) ∧
    (∀ (i ver k o n : Nat), lenA (.sl i ver k o n) = some (.v (.int .i64 n))) ∧
    (∀ (i ver k n : Nat), lenA (.vs i ver k n) = some (.v (.int .i64 n))) ∧
    (lenA (.v (.slice none 0 0)) = some (.v (.int .i64 0))) ∧
    (∀ (i ver o : Nat), nilcA (.lp i ver o) = some (.lp i ver o)) ∧
    (∀ (w : Bool) (l : List A), nilcA (.fp w l) = some (.fp w l)) ∧
    (∀ (f : Nat) (l : List A), nilcA (.fn f l) = some (.fn f l)) ∧
    (∀ (i ver o n : Nat), fldA n (.lp i ver o) = some (.lp i ver (o + n))) ∧
    (∀ (w : Bool) (l : List A), fldA 0 (.fp w l) = some (.fp w l)) ∧
    (∀ (w : Bool) (a : A) (l : List A) (n : Nat), fldA (n + 1) (.fp w (a :: l)) = fldA n (.fp w l)) ∧
    (∀ (H : List Blk) (w : Bool) (l : List A), ldA H (.fp w l) = nthA l 0) ∧
    (∀ (H : List Blk) (i ver o : Nat), ldA H (.lp i ver o) = ob (blkAt H i ver) (nthc o)) ∧
    (∀ (o : Nat) (l : List A), nthc o l = nthA l o) ∧
    (∀ (a : A) (l : List A), nthA (a :: l) 0 = some a) ∧
    (∀ (a : A) (l : List A) (n : Nat), nthA (a :: l) (n + 1) = nthA l n) ∧
    (∀ (H : List Blk) (n i ver o : Nat), ldaA n H (.lp i ver o) = ob (blkAt H i ver) (ldac n o)) ∧
    (∀ (H : List Blk) (n : Nat) (w : Bool) (l : List A), ldaA n H (.fp w l) = ifo (n ≤ l.length) (.agg (l.take n))) ∧
    (∀ (n o : Nat) (l : List A), ldac n o l = ifo (o + n ≤ l.length) (.agg ((l.drop o).take n))) ∧
    (∀ (n : Nat) (l : List A), prtA n (.agg l) = nthA l n) ∧
    (∀ (n k : Nat) (l : List A), prtaA n k (.agg l) = some (.agg ((l.drop n).take k))) ∧
    (∀ (n : Nat) (l : List A), extA n (.tup l) = nthA l n) ∧
    (∀ (b : Bool), s1A (.un .not) (.v (.bool b)) = some (.v (.bool !b))) ∧
    (∀ (k : IntKind) (n : Int), s1A (.un .neg) (.v (.int k n)) = some (.v (.int k (k.wrap (0 - n))))) ∧
    (∀ (k k' : IntKind) (n : Int), s1A (.conv k) (.v (.int k' n)) = some (.v (.int k (k.wrap n)))) ∧
    (∀ (k : IntKind) (a b : Int), s2A (.bin .add) (.v (.int k a)) (.v (.int k b)) = some (.v (.int k (k.wrap (a + b))))) ∧
    (∀ (k : IntKind) (a b : Int), s2A (.bin .sub) (.v (.int k a)) (.v (.int k b)) = some (.v (.int k (k.wrap (a - b))))) ∧
    (∀ (k : IntKind) (a b : Int), s2A (.bin .mul) (.v (.int k a)) (.v (.int k b)) = some (.v (.int k (k.wrap (a * b))))) ∧
    (∀ (k : IntKind) (a b : Int), s2A (.bin .lss) (.v (.int k a)) (.v (.int k b)) = some (.v (.bool (decide (a < b))))) ∧
    (∀ (k : IntKind) (a b : Int), s2A (.bin .leq) (.v (.int k a)) (.v (.int k b)) = some (.v (.bool (decide (a ≤ b))))) ∧
    (∀ (k : IntKind) (a b : Int), s2A (.bin .gtr) (.v (.int k a)) (.v (.int k b)) = some (.v (.bool (decide (b < a))))) ∧
    (∀ (k : IntKind) (a b : Int), s2A (.bin .geq) (.v (.int k a)) (.v (.int k b)) = some (.v (.bool (decide (b ≤ a))))) ∧
    (∀ (k : IntKind) (a b : Int), s2A (.bin .eql) (.v (.int k a)) (.v (.int k b)) = some (.v (.bool (decide (a = b))))) ∧
    (∀ (k : IntKind) (a b : Int), s2A (.bin .neq) (.v (.int k a)) (.v (.int k b)) = some (.v (.bool (decide (a ≠ b))))) ∧
    (∀ (k : IntKind) (a b : Int) (hb : b ≠ 0), s2A (.bin .quo) (.v (.int k a)) (.v (.int k b)) = some (.v (.int k (k.wrap (a.tdiv b))))) ∧
    (∀ (k : IntKind) (a b : Int) (hb : b ≠ 0), s2A (.bin .rem) (.v (.int k a)) (.v (.int k b)) = some (.v (.int k (a.tmod b)))) ∧
    (∀ (g a b : Bool), s2A (.eqb g) (.v (.bool a)) (.v (.bool b)) = some (.v (.bool ((a == b) != g)))) ∧
    (∀ (k : IntKind) (a b : Int), s2A .mx (.v (.int k a)) (.v (.int k b)) = some (.v (.int k (max a b)))) ∧
    (∀ (k : IntKind) (a b : Int), s2A .mn (.v (.int k a)) (.v (.int k b)) = some (.v (.int k (min a b)))) ∧
    (∀ (g : Bool) (i ver o : Nat), eqpA g (.lp i ver o) (.v (.pointer none)) = some (.v (.bool g))) ∧
    (∀ (g w : Bool) (l : List A), eqpA g (.fp w l) (.v (.pointer none)) = some (.v (.bool g))) ∧
    (∀ (g : Bool), eqpA g (.v (.pointer none)) (.v (.pointer none)) = some (.v (.bool (true != g)))) ∧
    (∀ (g : Bool) (i ver k o n : Nat) (m c : Nat), eqsA g (.sl i ver k o n) (.v (.slice none m c)) = some (.v (.bool g))) ∧
    (∀ (g : Bool), eqsA g (.v (.slice none 0 0)) (.v (.slice none 0 0)) = some (.v (.bool (true != g)))) ∧
    (∀ (g : Bool) (f : Nat) (l : List A), eqfA g (.fn f l) (.v .nilFunc) = some (.v (.bool g))) ∧
    (∀ (g : Bool) (a b c d : Int) (k l : IntKind), eqiA 2 g (.agg [.v (.int k a), .v (.int l b)]) (.agg [.v (.int k c), .v (.int l d)]) = some (.v (.bool ((decide (a = c) && decide (b = d)) != g)))) ∧
    (∀ (g : Bool) (a b c d a' b' c' d' : Int), eqiA 4 g (.agg [.v (.int .i64 a), .v (.int .i64 b), .v (.int .i64 c), .v (.int .i64 d)]) (.agg [.v (.int .i64 a'), .v (.int .i64 b'), .v (.int .i64 c'), .v (.int .i64 d')]) = some (.v (.bool ((decide (a = a') && (decide (b = b') && (decide (c = c') && decide (d = d')))) != g)))) ∧
    (∀ (n i ver k o m : Nat) (kk : IntKind) (j : Int) (h1 : 0 ≤ j) (h2 : j < m), idxA n (.sl i ver k o m) (.v (.int kk j)) = some (.lp i ver (o + j.toNat * n))) ∧
    (∀ (n i ver k m : Nat) (kk : IntKind) (j : Int) (h1 : 0 ≤ j) (h2 : j < m), idxA n (.vs i ver k m) (.v (.int kk j)) = some (.lp i ver (j.toNat * n))) ∧
    (∀ (len n i ver o : Nat) (kk : IntKind) (j : Int) (h1 : 0 ≤ j) (h2 : j < len), idxaA len n (.lp i ver o) (.v (.int kk j)) = some (.lp i ver (o + j.toNat * n))) ∧
    (∀ (len n : Nat) (w : Bool) (l : List A) (kk : IntKind) (j : Int) (h1 : 0 ≤ j) (h2 : j < len), idxaA len n (.fp w l) (.v (.int kk j)) = ifo (j.toNat * n ≤ l.length) (.fp w (l.drop (j.toNat * n)))) ∧
    (∀ (len : Nat) (l : List A) (kk : IntKind) (j : Int) (h1 : 0 ≤ j) (h2 : j < len), ixvA len 1 false (.agg l) (.v (.int kk j)) = nthA l j.toNat) ∧
    (∀ (H : List Blk) (n i ver o m : Nat) (k k' : IntKind) (a b : Int) (h1 : 0 ≤ a) (h2 : a ≤ b) (h3 : b ≤ m), slcA H none n (.sl i ver n o m) (.v (.int k a)) (.v (.int k' b)) none = some (.sl i ver n (o + a.toNat * n) (b.toNat - a.toNat))) ∧
    (∀ (H : List Blk) (n : Nat) (w : Bool) (l : List A) (k k' : IntKind) (a b : Int) (h1 : 0 ≤ a) (h2 : a ≤ b), slcA H none n (.fs w l) (.v (.int k a)) (.v (.int k' b)) none = ob (cnd (szB n l) ()) fun _ => ifo (b ≤ l.length) (.fs w ((l.take b.toNat).drop a.toNat))) ∧
    (∀ (H : List Blk) (n i ver o len : Nat) (k k' : IntKind) (a b : Int) (h1 : 0 ≤ a) (h2 : a ≤ b) (h3 : b ≤ len), slcA H (some len) n (.lp i ver o) (.v (.int k a)) (.v (.int k' b)) none = ob (blkAt H i ver) (slcl i ver o n len a b)) ∧
    (∀ (i ver o n len : Nat) (a b : Int) (l : List A), slcl i ver o n len a b l = ifo (o + len * n ≤ l.length) (.sl i ver n (o + a.toNat * n) (b.toNat - a.toNat))) ∧
    (∀ (H : List Blk) (size j ver o m : Nat), newsA H size (.sl j ver size o m) = ob (blkAt H j ver) (newc o m size)) ∧
    (∀ (H : List Blk) (size j ver m : Nat), newsA H size (.vs j ver size m) = ob (blkAt H j ver) (newv m size)) ∧
    (∀ (m size : Nat) (l : List A), newv m size l = ob (ifo (m * size ≤ l.length) ()) fun _ => cnd ((l.take (m * size)).all A.one) (m, l.take (m * size))) ∧
    (∀ (H : List Blk) (size : Nat), newsA H size (.v (.slice none 0 0)) = some (0, [])) ∧
    (∀ (o m size : Nat) (l : List A), newc o m size l = ob (ifo (o + m * size ≤ l.length) ()) fun _ => cnd (((l.drop o).take (m * size)).all A.one) (m, (l.drop o).take (m * size))) :=
  ⟨@len_fs, @len_sl, @len_vs, @len_nil, @nilc_lp, @nilc_fp, @nilc_fnA, @fld_lp, @fld_fp0, @fld_fps, @ld_fp, @ld_lp, @nthc_eq, @nthA_zero, @nthA_succ, @lda_lp, @lda_fp, @ldac_eq, @prt_aggA, @prta_aggA, @ext_tupA, @s_not, @s_neg, @s_cnv, @s_add, @s_sub, @s_mul, @s_lss, @s_leq, @s_gtr, @s_geq, @s_eql, @s_neq, @s_quo, @s_rem, @s_eqbA, @s_mx, @s_mn, @eqp_lp, @eqp_fp, @eqp_nil, @eqs_sl, @eqs_nil, @eqf_fn, @eqi_agg2, @eqi_agg4, @idx_sl, @idx_vs, @idxa_lp, @idxa_fp, @ixv_agg1, @slc_slA, @slc_fsA, @slc_lpA, @slcl_eq, @news_sl, @news_vs, @newv_eq, @news_nil, @newc_eq⟩
theorem aB :
    (∀ (k : IntKind) (n : Int), A.cells (.v (.int k n)) = some [.v (.int k n)]) ∧
    (∀ (b : Bool), A.cells (.v (.bool b)) = some [.v (.bool b)]) ∧
    (∀ (a : Option Addr), A.cells (.v (.pointer a)) = some [.v (.pointer a)]) ∧
    (∀ (a : Option Addr) (n c : Nat), A.cells (.v (.slice a n c)) = some [.v (.slice a n c)]) ∧
    (∀ (s : ByteArray), A.cells (.v (.string s)) = some [.v (.string s)]) ∧
    (A.cells (.v .nilFunc) = some [.v .nilFunc]) ∧
    (∀ (f : Nat) (l : List A), A.cells (.fn f l) = some [.fn f l]) ∧
    (∀ (w : Bool) (l : List A), A.cells (.fs w l) = some [.fs w l]) ∧
    (∀ (w : Bool) (l : List A), A.cells (.fp w l) = some [.fp w l]) ∧
    (∀ (i ver k o n : Nat), A.cells (.sl i ver k o n) = some [.sl i ver k o n]) ∧
    (∀ (i ver o : Nat), A.cells (.lp i ver o) = some [.lp i ver o]) ∧
    (∀ (i ver k n : Nat), A.cells (.vs i ver k n) = some [.vs i ver k n]) ∧
    (∀ (l : List A), A.cells (.agg l) = cnd (l.all A.one) l) ∧
    (∀ (k : IntKind) (n : Int), A.one (.v (.int k n)) = true) ∧
    (∀ (b : Bool), A.one (.v (.bool b)) = true) ∧
    (∀ (a : Option Addr), A.one (.v (.pointer a)) = true) ∧
    (∀ (a : Option Addr) (n c : Nat), A.one (.v (.slice a n c)) = true) ∧
    (∀ (s : ByteArray), A.one (.v (.string s)) = true) ∧
    (A.one (.v .nilFunc) = true) ∧
    (∀ (f : Nat) (l : List A), A.one (.fn f l) = true) ∧
    (∀ (w : Bool) (l : List A), A.one (.fs w l) = true) ∧
    (∀ (w : Bool) (l : List A), A.one (.fp w l) = true) ∧
    (∀ (i ver k o n : Nat), A.one (.sl i ver k o n) = true) ∧
    (∀ (i ver o : Nat), A.one (.lp i ver o) = true) ∧
    (∀ (i ver k n : Nat), A.one (.vs i ver k n) = true) ∧
    (∀ (a : A) (l : List A), (a :: l).all A.one = (a.one && l.all A.one)) ∧
    (([] : List A).all A.one = true) ∧
    (∀ (k : IntKind) (n : Int), Lft.one (.int k n) = true) ∧
    (∀ (a : Option Addr) (n c : Nat), Lft.one (.slice a n c) = true) ∧
    (∀ (b : Bool), Lft.one (.bool b) = true) ∧
    (∀ (a : Option Addr), Lft.one (.pointer a) = true) ∧
    (∀ (a : Value) (l : List Value), (a :: l).all Lft.one = (Lft.one a && l.all Lft.one)) ∧
    (([] : List Value).all Lft.one = true) ∧
    (∀ (c : List A), fillA c [] = some c) ∧
    (∀ (c : List A) (off : Nat) (a : A) (r : List (Nat × A)), fillA c ((off, a) :: r) = ob a.cells (filc c off r)) ∧
    (∀ (c : List A) (off : Nat) (r : List (Nat × A)) (cs : List A), filc c off r cs = ob (ifo (off + cs.length ≤ c.length) ()) fun _ => fillA (splA c off cs) r) ∧
    (∀ (c : List A) (o : Nat), splA c o [] = c) ∧
    (∀ (a : A) (c cs : List A) (o : Nat), splA (a :: c) (o + 1) cs = a :: splA c o cs) ∧
    (∀ (a b : A) (c cs : List A), splA (a :: c) 0 (b :: cs) = b :: splA c 0 cs) ∧
    (∀ (n : Nat) (a : A), repA n [a] = List.replicate n a) ∧
    (∀ (z : List A), repL 0 z = []) ∧
    (∀ (n : Nat) (z : List A), repL (n + 1) z = z ++ repL n z) ∧
    (∀ (x : Value) (l : List Value), (x :: l).map A.v = .v x :: l.map A.v) ∧
    (([] : List Value).map A.v = []) ∧
    (∀ (n : Nat) (x : Value), (List.replicate n x).map A.v = List.replicate n (A.v x)) ∧
    (∀ (a : A) (l : List A), (a :: l).length = l.length + 1) ∧
    (([] : List A).length = 0) ∧
    (∀ (a : Blk) (l : List Blk), (a :: l).length = l.length + 1) ∧
    (([] : List Blk).length = 0) ∧
    (∀ (a : Value) (l : List Value), (a :: l).length = l.length + 1) ∧
    (([] : List Value).length = 0) ∧
    (∀ (a : Blk) (l m : List Blk), (a :: l) ++ m = a :: (l ++ m)) ∧
    (∀ (m : List Blk), [] ++ m = m) ∧
    (∀ (a : A) (l m : List A), (a :: l) ++ m = a :: (l ++ m)) ∧
    (∀ (m : List A), [] ++ m = m) ∧
    (∀ (l : List A), l.take 0 = []) ∧
    (∀ (a : A) (l : List A) (n : Nat), (a :: l).take (n + 1) = a :: l.take n) ∧
    (∀ (n : Nat), ([] : List A).take n = []) ∧
    (∀ (l : List A), l.drop 0 = l) ∧
    (∀ (a : A) (l : List A) (n : Nat), (a :: l).drop (n + 1) = l.drop n) ∧
    (∀ (n : Nat), ([] : List A).drop n = []) ∧
    (∀ (a d : A) (l : List A), (a :: l).getD 0 d = a) ∧
    (∀ (a d : A) (l : List A) (n : Nat), (a :: l).getD (n + 1) d = l.getD n d) ∧
    (∀ (d : A) (n : Nat), ([] : List A).getD n d = d) ∧
    (∀ (a b : A) (l : List A), (a :: l).set 0 b = b :: l) ∧
    (∀ (a b : A) (l : List A) (n : Nat), (a :: l).set (n + 1) b = a :: l.set n b) ∧
    (∀ (a b : Blk) (l : List Blk), (a :: l).set 0 b = b :: l) ∧
    (∀ (a b : Blk) (l : List Blk) (n : Nat), (a :: l).set (n + 1) b = a :: l.set n b) ∧
    (∀ (t : Nat) (V : List Nat) (args : List A), envA (t :: V) args = args.getD t .any :: envA V args) ∧
    (∀ (args : List A), envA [] args = []) :=
  ⟨@c_int, @c_bool, @c_ptr, @c_slice, @c_str, @c_nilfn, @c_fn, @c_fs, @c_fp, @c_sl, @c_lp, @c_vs, @c_agg, @o_int, @o_bool, @o_ptr, @o_slice, @o_str, @o_nilfn, @o_fn, @o_fs, @o_fp, @o_sl, @o_lp, @o_vs, @all_consA, @all_nilA, @onev_int, @onev_slice, @onev_bool, @onev_ptr, @onev_cons, @onev_nil, @fill_nilA, @fill_consA, @filc_eq, @spl_nil, @spl_succ, @spl_cons, @rep_one, @rep_zero, @rep_succ, @mapv_cons, @mapv_nil, @mapv_rep, @lenA_cons, @lenA_nil, @lenB_cons, @lenB_nil, @lenV_cons, @lenV_nil, @appB_cons, @appB_nil, @appA_cons, @appA_nl, @tkA_zero, @tkA_succ, @tkA_nil, @drA_zero, @drA_succ, @drA_nil, @gtA_zero, @gtA_succ, @gtA_nil, @stA_zero, @stA_succ, @stB_zero, @stB_succ, @env_cons, @env_nil⟩
theorem aN :
    (∀ [Decidable True], decide True = true) ∧
    (∀ [Decidable False], decide False = false) ∧
    (∀ (p : Bool), (true && p) = p) ∧
    (∀ (p : Bool), (p && true) = p) ∧
    (∀ (p : Bool), (false && p) = false) ∧
    (∀ (p : Bool), (p && false) = false) ∧
    (∀ (p : Bool), (true || p) = true) ∧
    (∀ (p : Bool), (p || true) = true) ∧
    (∀ (p : Bool), (false || p) = p) ∧
    (∀ (p : Bool), (p || false) = p) ∧
    ((!true) = false) ∧
    ((!false) = true) ∧
    (∀ (b : Bool), (b != false) = b) ∧
    (∀ (b : Bool), (b != true) = !b) ∧
    (∀ (b : Bool), (true == b) = b) ∧
    (∀ (b : Bool), (false == b) = !b) ∧
    (∀ (b : Bool), (b == true) = b) ∧
    (∀ (b : Bool), (b == false) = !b) ∧
    (∀ {p q : Prop} [Decidable p] [Decidable q], (decide p || decide q) = decide (p ∨ q)) ∧
    (∀ {p q : Prop} [Decidable p] [Decidable q], (decide p && decide q) = decide (p ∧ q)) ∧
    (∀ {p : Prop} [Decidable p], (!decide p) = decide (¬ p)) ∧
    (∀ {n : Int} (h1 : -9223372036854775808 ≤ n) (h2 : n ≤ 9223372036854775807), IntKind.wrap .i64 n = n) ∧
    (∀ {a b : Int} (h1 : 0 ≤ a), a.tdiv b = a / b) ∧
    (∀ {a b : Int} (h1 : 0 ≤ a), a.tmod b = a % b) ∧
    (∀ (n : Nat), n * 1 = n) ∧
    (∀ (n : Nat), 1 * n = n) ∧
    (∀ (n : Nat), 0 * n = 0) ∧
    (∀ (n : Nat), 0 + n = n) ∧
    (∀ (n : Nat), n + 0 = n) ∧
    (∀ (n : Nat), n - 0 = n) ∧
    (∀ (n : Nat), (n : Int).toNat = n) ∧
    ((0 : Int).toNat = 0) :=
  ⟨@dec_t, @dec_f, @tand, @andt, @fand, @andf, @tor, @ort, @for_, @orf, @not_t, @not_f, @bnf, @bnt, @tb, @fb, @bt, @bf, @or_dec, @and_dec, @not_dec, @wrap_in, @tdiv_pos, @tmod_pos, @nm1, @n1m, @n0m, @n0a, @na0, @ns0, @tnat, @tnat0⟩
end Go.Lft
