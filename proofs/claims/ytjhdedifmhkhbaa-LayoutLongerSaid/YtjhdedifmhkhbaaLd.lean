/- The operations of the model that only compute or read, and their expressions. Plain lemmas; no statement is claimed here. -/
import Derived.Test.YtjhdedifmhkhbaaLc
import Derived.Laws.Small
import Derived.Laws.Pointers
import Derived.Laws.StructEq
namespace Go.Lft
open Go

abbrev Tr := Operand → Option X

def kdOf : Op → Nat
  | .load .. => 1
  | .alloc _ | .box .. | .makeSlice .. | .buildSlice .. => 3
  | .store .. => 4
  | .move _ | .assign _ | .pick .. | .nilCheck _ | .binOp .. | .unOp .. | .convert .. | .fieldAddr .. | .indexAddr .. | .field .. | .index .. | .extract .. | .slice .. | .makeFunc .. | .build .. => 0
  | .call { callee := .builtin .len, .. } => 0
  | .call { callee := .builtin .max, .. } => 0
  | .call { callee := .builtin .min, .. } => 0
  | _ => 2

/-- The places of a struct's fields. -/
def placesT (P : Program) : List Field → Option (List (Nat × Nat))
  | [] => some []
  | f :: r => (sizeT P f.type).bind fun n => (placesT P r).map fun l => (f.offset, n) :: l

def partsX (tr : Tr) (place : Nat → Option (Nat × Nat)) : List (Nat × Operand) → Option X
  | [] => some .nl
  | (i, x) :: r => (place i).bind fun p => (tr x).bind fun a => (partsX tr place r).map fun l => .pl p.1 p.2 a l

def listX (tr : Tr) : List Operand → Option X
  | [] => some .nl
  | x :: r => (tr x).bind fun a => (listX tr r).map fun l => .cn a l

def optX (tr : Tr) (d : X) : Option Operand → Option X
  | none => some d
  | some x => tr x

/-- The fields are numbers, one after the other. -/
def intsF (P : Program) : Nat → List Field → Bool
  | _, [] => true
  | i, f :: r => decide (f.name ≠ "_") && f.offset == i && (match P.underlying f.type with | some (.int _) => true | _ => false) && (match aggT P f.type with | some false => true | _ => false) && intsF P (i + 1) r
def eqOk (P : Program) (t : TypeId) : Bool := !P.stoodInHeld t && !P.eqGuardType P.depth t

def opX (P : Program) (tr : Tr) : Op → Option X
  | .move x => tr x
  | .assign x => tr x
  | .nilCheck x => (tr x).map (.u .nilc)
  | .binOp op t x y _ => (tr x).bind fun a => (tr y).bind fun c =>
    match P.underlying t with
    | some (.int _) => some (.b (.bin op) a c)
    | some .bool => (match op with | .eql => some (.b (.eqb false) a c) | .neq => some (.b (.eqb true) a c) | _ => none)
    | some (.pointer _) => (match op with | .eql => some (.b (.eqp false) a c) | .neq => some (.b (.eqp true) a c) | _ => none)
    | some (.slice _) => (match op with | .eql => some (.b (.eqs false) a c) | .neq => some (.b (.eqs true) a c) | _ => none)
    | some (.func _ _ _) => (match op with | .eql => some (.b (.eqf false) a c) | .neq => some (.b (.eqf true) a c) | _ => none)
    | some (.struct fields) => if intsF P 0 fields.toList && eqOk P t then (match op with | .eql => some (.b (.eqi fields.size false) a c) | .neq => some (.b (.eqi fields.size true) a c) | _ => none) else none
    | _ => none
  | .unOp op _ x => (tr x).map (.u (.un op))
  | .convert src dst x => (tr x).bind fun a =>
    match P.underlying src, P.underlying dst with
    | some (.int _), some (.int k) => some (.u (.conv k) a)
    | _, _ => none
  | .fieldAddr s x f => (tr x).bind fun a =>
    match P.underlying s with
    | some (.struct fields) => (fields[f]?).bind fun fd => (sizeT P fd.type).bind fun n => if n = 0 then none else some (.u (.fld fd.offset) a)
    | _ => none
  | .indexAddr t x i => (tr x).bind fun a => (tr i).bind fun c =>
    match P.underlying t with
    | some (.slice el) => (sizeT P el).map fun n => .b (.idx n) a c
    | some (.array len el) => (sizeT P el).map fun n => .b (.idxa len n) a c
    | _ => none
  | .load t x => (tr x).bind fun a => (aggT P t).bind fun g => if g then (sizeT P t).map fun n => .u (.lda n) a else some (.u .ld1 a)
  | .field t x f => (tr x).bind fun a =>
    match P.underlying t with
    | some (.struct fields) => (fields[f]?).bind fun fd => (aggT P fd.type).bind fun g => if g then (sizeT P fd.type).map fun n => .u (.prta fd.offset n) a else some (.u (.prt fd.offset) a)
    | _ => none
  | .index t x i => (tr x).bind fun a => (tr i).bind fun c =>
    match P.underlying t with
    | some (.array len el) => (sizeT P el).bind fun n => (aggT P el).map fun g => .b (.ixv len n g) a c
    | some .string => some (.b .ixs a c)
    | _ => none
  | .extract x i => (tr x).map (.u (.ext i))
  | .slice t x lo hi mx => (tr x).bind fun a => (optX tr (.lit (.int .i64 0)) lo).bind fun l =>
    match P.underlying t with
    | some (.slice el) => (sizeT P el).bind fun n => (optX tr (.u .len a) hi).bind fun u =>
      (match mx, hi with
        | none, _ => some (.slc none n a l u .nl)
        | some m, some _ => (tr m).map fun m => .slc none n a l u m
        | _, _ => none)
    | some (.array len el) => (sizeT P el).bind fun n => (optX tr (.lit (.int .i64 len)) hi).bind fun u => (match mx with | none => some (.slc (some len) n a l u .nl) | _ => none)
    | _ => none
  | .call { callee := .builtin .len, args, argTypes } =>
    (match args.toList, argTypes.toList with
      | [x], [t] => (match P.underlying t with | some (.slice _) => (tr x).map (.u .len) | some (.array n _) => some (.lit (.int .i64 n)) | _ => none)
      | _, _ => none)
  | .call { callee := .builtin .max, args, .. } => (match args.toList with | [x, y] => (tr x).bind fun a => (tr y).map fun c => .b .mx a c | _ => none)
  | .call { callee := .builtin .min, args, .. } => (match args.toList with | [x, y] => (tr x).bind fun a => (tr y).map fun c => .b .mn a c | _ => none)
  | .makeFunc (.func f) first caps => if first.isEmpty then (listX tr caps.toList).map (.fn f) else none
  | .build t parts => (zeroT P t).bind fun z =>
    match P.underlying t with
    | some (.struct fields) => (placesT P fields.toList).bind fun ps => (partsX tr (fun i => ps[i]?) parts.toList).map fun l => .bld z.cells.toList l
    | some (.array _ el) => (sizeT P el).bind fun n => (partsX tr (fun i => some (i * n, n)) parts.toList).map fun l => .bld z.cells.toList l
    | _ => none
  | _ => none

section
variable {P : Program}

theorem fill_step (off : Nat) : ∀ (vs : List Value) (k : Nat) (c : Array Value), (vs.zipIdx k).foldl (fun cs (x : Value × Nat) => cs.setIfInBounds (off + x.2) x.1) c = splice c (off + k) vs
  | [], _, _ => rfl
  | v :: vs, k, c => by
    simp only [List.zipIdx_cons, List.foldl_cons, splice]
    exact fill_step off vs (k + 1) _

theorem fill_fillv {place : Nat → Option (Nat × Nat)} : ∀ (ps : List (Nat × Value)) (qs : List (Nat × Value)) (c c' : Array Value),
    List.length ps = List.length qs → (∀ i (h1 : i < ps.length) (h2 : i < qs.length), place (ps[i].1) = some (qs[i].1, (qs[i].2).cells.size) ∧ ps[i].2 = qs[i].2) → fillv c qs = some c' → Instr.fill place c ps = some c'
  | [], [], c, c', _, _, h => h
  | (i, v) :: ps, (off, u) :: qs, c, c', hl, hp, h => by
    obtain ⟨h1, h2⟩ := hp 0 (by simp) (by simp)
    simp at h1 h2
    subst h2
    simp only [fillv] at h
    split at h
    · rename_i hle
      simp only [Instr.fill, h1]
      rw [if_neg (by simp; omega)]
      have := fill_step off v.cells.toList 0 c
      simp only [Nat.add_zero] at this
      rw [← Array.foldl_toList, Array.toList_zipIdx]
      rw [this]
      refine fill_fillv ps qs _ _ (by simpa using hl) (fun j g1 g2 => ?_) h
      have := hp (j + 1) (by simp; omega) (by simp; omega)
      simpa using this
    · cases h
  | [], _ :: _, _, _, hl, _, _ => by simp at hl
  | _ :: _, [], _, _, hl, _, _ => by simp at hl

variable {tr : Tr} {ρ : Operand → Value} {e : List Value} {h : Heap}

theorem partsX_spec (hT : ∀ y z, tr y = some z → z.ev e h = some (ρ y)) {place : Nat → Option (Nat × Nat)} : ∀ (parts : List (Nat × Operand)) (x : X) (qs : List (Nat × Value)), partsX tr place parts = some x → x.evp e h = some qs →
    parts.length = qs.length ∧ ∀ i (h1 : i < parts.length) (h2 : i < qs.length), place (parts[i].1) = some (qs[i].1, (qs[i].2).cells.size) ∧ ρ parts[i].2 = qs[i].2
  | [], x, qs, hx, hq => by
    simp only [partsX, Option.some.injEq] at hx; subst hx
    simp [X.evp] at hq; subst hq
    exact ⟨rfl, fun i h1 => by simp at h1⟩
  | (i, y) :: r, x, qs, hx, hq => by
    simp only [partsX, Option.bind_eq_some_iff, Option.map_eq_some_iff] at hx
    obtain ⟨p, hp, a, ha, l, hl, rfl⟩ := hx
    simp only [X.evp, hT _ _ ha, Option.bind_some] at hq
    split at hq
    · rename_i hs
      simp only [Option.map_eq_some_iff] at hq
      obtain ⟨xs, hxs, rfl⟩ := hq
      obtain ⟨g1, g2⟩ := partsX_spec hT r l xs hl hxs
      refine ⟨by simp [g1], fun j h1 h2 => ?_⟩
      cases j with
      | zero => simp [hp, hs]
      | succ j => simpa using g2 j (by simpa using h1) (by simpa using h2)
    · cases hq

theorem listX_spec (hT : ∀ y z, tr y = some z → z.ev e h = some (ρ y)) : ∀ (l : List Operand) (x : X), listX tr l = some x → x.evs e h = some (l.map ρ)
  | [], x, hx => by simp only [listX, Option.some.injEq] at hx; subst hx; simp [X.evs]
  | y :: r, x, hx => by
    simp only [listX, Option.bind_eq_some_iff, Option.map_eq_some_iff] at hx
    obtain ⟨a, ha, l, hl, rfl⟩ := hx
    simp [X.evs, hT _ _ ha, listX_spec hT r l hl]

theorem places_run : ∀ (fields : List Field) (ps : List (Nat × Nat)) (w : World), placesT P fields = some ps →
    (fields.mapM (fun f => (do pure (f.offset, ← sizeOf f.type) : Sem (Nat × Nat)))).run P w = .ok ps w
  | [], ps, w, hp => by simp [placesT] at hp; subst hp; simp
  | f :: r, ps, w, hp => by
    simp only [placesT, Option.bind_eq_some_iff, Option.map_eq_some_iff] at hp
    obtain ⟨n, hn, l, hl, rfl⟩ := hp
    have := places_run r l w hl
    simp at this
    simp [run_sizeT hn, this]

theorem run_v {s : Sem Value} {v : Value} {w : World} (h : s.run P w = .ok v w) : ((do pure (.value (← s)) : Sem Next)).run P w = .ok (.value v) w := by
  simp [h]

theorem eqGuard_bool (op : BinOp) (t : TypeId) (x y : Operand) (a b : Bool) (w : World) : (eqGuard op t x y (.bool a) (.bool b)).run P w = .ok () w := by
  unfold eqGuard; cases op <;> rfl
theorem eqGuard_ptr (op : BinOp) (t : TypeId) (x y : Operand) (a b : Option Addr) (w : World) : (eqGuard op t x y (.pointer a) (.pointer b)).run P w = .ok () w := by
  unfold eqGuard; cases op <;> rfl

theorem run_eqp {t d : TypeId} {neg : Bool} {op : BinOp} (hop : op = if neg then .neq else .eql) (hu : P.underlying t = some (.pointer d)) {x y v : Value} (hv : k2v (.eqp neg) x y = some v) (w : World) :
    (binOp op t x y).run P w = .ok v w := by
  have key : ∀ (n : Nat) (b : Bool) (x y : Value), ((∃ q, x = .pointer none ∧ y = .pointer q ∧ b = q.isNone) ∨ (∃ q, x = .pointer (some q) ∧ y = .pointer none ∧ b = false)) → (Op.equalIn (n + 1) t x y).run P w = .ok b w := by
    rintro n b x y (⟨q, rfl, rfl, rfl⟩ | ⟨q, rfl, rfl, rfl⟩) <;> simp [Op.equalIn, run_und hu]
  have key2 : ∃ b, ((∃ q, x = .pointer none ∧ y = .pointer q ∧ b = q.isNone) ∨ (∃ q, x = .pointer (some q) ∧ y = .pointer none ∧ b = false)) ∧ v = .bool (b != neg) := by
    unfold k2v at hv
    split at hv <;> try (cases hv; done)
    all_goals (first | (rename_i hk; cases hk; done) | skip)
    · rename_i b hk; cases hk; simp at hv; exact ⟨_, .inl ⟨_, rfl, rfl, rfl⟩, hv.symm⟩
    · rename_i a hk; cases hk; simp at hv; refine ⟨_, .inr ⟨_, rfl, rfl, rfl⟩, ?_⟩; rw [← hv]; simp
  obtain ⟨b, hb, rfl⟩ := key2
  have hk := key 9999 b x y hb
  subst hop
  rcases hb with ⟨q, rfl, rfl, rfl⟩ | ⟨q, rfl, rfl, rfl⟩ <;> cases neg <;> simp [binOp, Op.equal, Op.maxDepth, hk]

end
end Go.Lft
