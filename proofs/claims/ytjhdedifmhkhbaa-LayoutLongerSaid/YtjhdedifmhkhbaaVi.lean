/- Shapes of proofs: contracts of functions that give back a value and no memory; loops told by what they change. Plain lemmas; no statement is claimed here. -/
import Derived.Test.YtjhdedifmhkhbaaVh
namespace Go.Lft
open Go
set_option linter.unusedVariables false
set_option linter.unusedSimpArgs false

/-- The call gives back r0, and no memory. -/
def isR (r0 : A) : A → List Blk → Prop := fun r G => r = r0 ∧ G = []

theorem VR.use {P : Program} {kp' : Bool} {f : Nat} {args args' : List A} {H : List Blk} {R : A → List Blk → Prop} {r0 : A} (hv : VR P false f args' [] (isR r0)) (hl : LdL H args args') (hc : (r0.cl && r0.bd 0) = true) (h : R r0 H) : VR P kp' f args H R := by
  simp only [Bool.and_eq_true] at hc
  refine (hv.lend hl fun r G hr => ?_).mono fun r H' ⟨r1, G, h1, h2, h3⟩ => ?_
  · obtain ⟨rfl, rfl⟩ := hr; exact ⟨hc.1, fun B hB => by simp at hB⟩
  · obtain ⟨rfl, rfl⟩ := h1
    rw [A.sh_bd _ hc.2] at h2
    subst h2
    rw [h3]; simpa using h

/-- The arguments as they are. -/
theorem VR.same {P : Program} {kp' : Bool} {f : Nat} {args : List A} {H : List Blk} {R : A → List Blk → Prop} {r0 : A} (hv : VR P false f args [] (isR r0)) (hl : A.bdL 0 args = true) (hc : (r0.cl && r0.bd 0) = true) (h : R r0 H) : VR P kp' f args H R :=
  hv.use (LdL.refl hl) hc h

/-- The same where what comes back is not known in full. -/
theorem VR.useE {P : Program} {kp' : Bool} {f : Nat} {args args' : List A} {H : List Blk} {R R' : A → List Blk → Prop} (hv : VR P false f args' [] R') (hl : LdL H args args') (hc : ∀ r G, R' r G → G = [] ∧ (r.cl && r.bd 0) = true) (h : ∀ r, R' r [] → R r H) : VR P kp' f args H R := by
  refine (hv.lend hl fun r G hr => ?_).mono fun r H' ⟨r1, G, h1, h2, h3⟩ => ?_
  · obtain ⟨rfl, hc⟩ := hc r G hr; simp only [Bool.and_eq_true] at hc; exact ⟨hc.1, fun B hB => by simp at hB⟩
  · obtain ⟨rfl, hc⟩ := hc r1 G h1
    simp only [Bool.and_eq_true] at hc
    rw [A.sh_bd _ hc.2] at h2
    subst h2
    rw [h3]; simpa using h r h1

/-- A call that gives back memory of its own. -/
def ownR (r0 : A) (G0 : List Blk) : A → List Blk → Prop := fun r G => r = r0 ∧ G = G0
theorem VR.useO {P : Program} {kp' : Bool} {f : Nat} {args args' : List A} {H : List Blk} {R : A → List Blk → Prop} {r0 : A} {G0 : List Blk} (hv : VR P false f args' [] (ownR r0 G0)) (hl : LdL H args args') (hc : (r0.cl && G0.all fun B => A.clL B.cells) = true)
    (h : R (r0.sh H.length) (H ++ G0.map (Blk.sh H.length))) : VR P kp' f args H R := by
  simp only [Bool.and_eq_true, List.all_eq_true] at hc
  refine (hv.lend hl fun r G hr => ?_).mono fun r H' ⟨r1, G, h1, h2, h3⟩ => ?_
  · obtain ⟨rfl, rfl⟩ := hr; exact hc
  · obtain ⟨rfl, rfl⟩ := h1
    subst h2; subst h3; exact h

theorem vtrue {p : Prop} [Decidable p] (h : p) : A.v (.bool true) = .v (.bool (decide p)) := by simp [h]
theorem vfalse {p : Prop} [Decidable p] (h : ¬ p) : A.v (.bool false) = .v (.bool (decide p)) := by simp [h]
theorem vdec {p q : Prop} [Decidable p] [Decidable q] (h : p ↔ q) : A.v (.bool (decide p)) = .v (.bool (decide q)) := by simp [h]
theorem aret_of {P : Program} {n0 : Nat} {Q : QA} {e : List A} {d : Option Nat} {k : S} {a : A} {H : List Blk} (h : aput P n0 Q e d k a H) : aret P n0 Q e d k a H := aw_sound h

/-- Any memory of one's own is dropped at the end. -/
theorem post0 {H : List Blk} {R : A → List Blk → Prop} {l : List A} {r : A} (hf : Fz 0 H (retA l) r) (h : R r []) : apost 0 H R l :=
  ⟨r, [], Cut.of' 0 rfl (Nat.le_refl _) (by rw [fzb_nil]; trivial) ⟨hf, trivial⟩, h⟩
theorem post_v {H : List Blk} {R : A → List Blk → Prop} {x : Value} (h : R (.v x) []) : apost 0 H R [.v x] := post0 (Fz.refl rfl) h

/-- A nil slice and an error. -/
theorem post_err {H : List Blk} {R : A → List Blk → Prop} {x : Value} (h : R (.tup [.fs true [], .v x]) []) : apost 0 H R [.v (.slice none 0 0), .v x] :=
  post0 (Fz.tup (l := [.v (.slice none 0 0), .v x]) (r := [.fs true [], .v x]) ⟨fz_nil _ _, Fz.refl rfl, trivial⟩) h

/-! ### Loops told by what they change -/
def setL (e : List A) : List (Nat × A) → List A
  | [] => e
  | (i, a) :: r => setL (e.set i a) r
def anyL (e : List A) : List Nat → List A
  | [] => e
  | i :: r => anyL (e.set i .any) r
def setB (H : List Blk) : List (Nat × Blk) → List Blk
  | [] => H
  | (i, B) :: r => setB (H.set i B) r
theorem setL_nil (e : List A) : setL e [] = e := rfl
theorem setL_cons (e : List A) (i : Nat) (a : A) (r : List (Nat × A)) : setL e ((i, a) :: r) = setL (e.set i a) r := rfl
theorem anyL_nil (e : List A) : anyL e [] = e := rfl
theorem anyL_cons (e : List A) (i : Nat) (r : List Nat) : anyL e (i :: r) = anyL (e.set i .any) r := rfl
theorem setB_nil (H : List Blk) : setB H [] = H := rfl
theorem setB_cons (H : List Blk) (i : Nat) (B : Blk) (r : List (Nat × Blk)) : setB H ((i, B) :: r) = setB (H.set i B) r := rfl

theorem AWP.loopP {P : Program} {n0 : Nat} {s : S} {Q : QA} {e : List A} {H : List Blk} {α : Type} (asg : List Nat) (I : α → Prop) (ps : α → List (Nat × A)) (hp : α → List (Nat × Blk)) (m : α → Nat) (a0 : α) (h0 : I a0)
    (hc : Cut n0 e H (setL (anyL e asg) (ps a0)) (setB H (hp a0)))
    (round : ∀ a, I a → s.aw P n0 (lgA n0 I (fun a => setL (anyL e asg) (ps a)) (fun a => setB H (hp a)) m (m a) Q) (setL (anyL e asg) (ps a)) (setB H (hp a))) : AWP P n0 (.loop s) Q e H :=
  AWP.loop I _ _ m a0 h0 hc fun a ha => aw_sound (round a ha)
/-- The same where the memory is told in full. -/
theorem AWP.loopM {P : Program} {n0 : Nat} {s : S} {Q : QA} {e : List A} {H : List Blk} {α : Type} (asg : List Nat) (I : α → Prop) (ps : α → List (Nat × A)) (mem : α → List Blk) (m : α → Nat) (a0 : α) (h0 : I a0)
    (hc : Cut n0 e H (setL (anyL e asg) (ps a0)) (mem a0))
    (round : ∀ a, I a → s.aw P n0 (lgA n0 I (fun a => setL (anyL e asg) (ps a)) mem m (m a) Q) (setL (anyL e asg) (ps a)) (mem a)) : AWP P n0 (.loop s) Q e H :=
  AWP.loop I _ _ m a0 h0 hc fun a ha => aw_sound (round a ha)
/-- A loop that is left in its first round. -/
theorem AWP.once {P : Program} {n0 : Nat} {s : S} {Q : QA} {e : List A} {H : List Blk} (h : s.aw P n0 (lgA n0 (fun _ : Unit => True) (fun _ => e) (fun _ => H) (fun _ => 0) 0 Q) e H) : AWP P n0 (.loop s) Q e H :=
  AWP.loop (fun _ => True) (fun _ => e) (fun _ => H) (fun _ => 0) () trivial (Cut.refl _ _ _) fun _ _ => aw_sound h
/-- The end of a round. -/
theorem lgA_of {α : Type} {n0 : Nat} {I : α → Prop} {env : α → List A} {mem : α → List Blk} {m : α → Nat} {n : Nat} {e : List A} {H : List Blk} (a : α) (h1 : I a) (h2 : m a < n) (h3 : Cut n0 e H (env a) (mem a)) : ∃ a, I a ∧ m a < n ∧ Cut n0 e H (env a) (mem a) := ⟨a, h1, h2, h3⟩

theorem aP :
    (∀ (e : List A), setL e [] = e) ∧
    (∀ (e : List A) (i : Nat) (a : A) (r : List (Nat × A)), setL e ((i, a) :: r) = setL (e.set i a) r) ∧
    (∀ (e : List A), anyL e [] = e) ∧
    (∀ (e : List A) (i : Nat) (r : List Nat), anyL e (i :: r) = anyL (e.set i .any) r) ∧
    (∀ (H : List Blk), setB H [] = H) ∧
    (∀ (H : List Blk) (i : Nat) (B : Blk) (r : List (Nat × Blk)), setB H ((i, B) :: r) = setB (H.set i B) r) :=
  ⟨@setL_nil, @setL_cons, @anyL_nil, @anyL_cons, @setB_nil, @setB_cons⟩
end Go.Lft
