/- From the model's code to the small language: the function that translates. Plain definitions; no statement is claimed here. -/
import Derived.Test.YtjhdedifmhkhbaaLg
namespace Go.Lft
open Go

structure Ent where
  slot : Nat
  full : X
  bare : Option ((Nat × Bool) × X)

def X.has (i : Nat) : X → Bool
  | .var j => i == j
  | .lit _ => false
  | .u _ a => a.has i
  | .b _ a c => a.has i || c.has i
  | .ite c a d => c.has i || a.has i || d.has i
  | .slc _ _ a l q m => a.has i || l.has i || q.has i || m.has i
  | .fn _ c => c.has i
  | .bld _ p => p.has i
  | .nl => false
  | .cn a r => a.has i || r.has i
  | .pl _ _ a r => a.has i || r.has i

def X.mem : X → Bool
  | .var _ => false
  | .lit _ => false
  | .u .ld1 _ => true
  | .u (.lda _) _ => true
  | .u _ a => a.mem
  | .b _ a c => a.mem || c.mem
  | .ite c a d => c.mem || a.mem || d.mem
  | .slc _ _ a l q m => a.mem || l.mem || q.mem || m.mem
  | .fn _ c => c.mem
  | .bld _ p => p.mem
  | .nl => false
  | .cn a r => a.mem || r.mem
  | .pl _ _ a r => a.mem || r.mem

def Ent.all (p : X → Bool) (n : Ent) : Bool := p n.full && (match n.bare with | some (_, x) => p x | none => true)

def look (σ : List Ent) (t : Nat) : Option Ent := σ.find? (fun n => n.slot == t)

def posFrom (t : Nat) : Nat → List Nat → Option Nat
  | _, [] => none
  | k, x :: r => if x == t then some k else posFrom t (k + 1) r
def pos (V : List Nat) (t : Nat) : Option Nat := posFrom t 0 V

def dstOf (ops : Array Oper) (j : Nat) : Option Nat := (ops[j]?).bind (·.dst)

def dropSlot (ops : Array Oper) (d : Nat) (σ : List Ent) : List Ent :=
  σ.filter fun n => !(n.slot == d) && (match n.bare with | some ((j, _), _) => !(dstOf ops j == some d) | none => true)
def dropVar (k : Nat) (σ : List Ent) : List Ent := σ.filter fun n => n.all fun x => !x.has k
def dropMem (σ : List Ent) : List Ent := σ.filter fun n => n.all fun x => !x.mem

def trans (V : List Nat) (σ : List Ent) (ok : List (Nat × Bool)) : Tr
  | .const v => some (.lit v)
  | .func f => some (.lit (.func (.func f) #[] #[]))
  | .global g => some (.lit (.pointer (some ⟨g, 0, none⟩)))
  | .tmp t =>
    match look σ t with
    | some n => (match n.bare with
      | some (g, x) => if ok.contains g then some x else some n.full
      | none => some n.full)
    | none => (pos V t).map .var

def gent (V : List Nat) (σ : List Ent) (t : Nat) : Option Ent :=
  match look σ t with
  | some n => some n
  | none => (pos V t).map fun i => ⟨t, .var i, none⟩

def guardX (ops : Array Oper) (V : List Nat) (σ : List Ent) : Nat → Nat × Bool → X → Option X
  | 0, _, _ => none
  | f + 1, (j, w), x => (dstOf ops j).bind fun d => (gent V σ d).bind fun n =>
    match n.bare with
    | none => some (if w then .ite n.full x (.lit undef) else .ite n.full (.lit undef) x)
    | some (g, c) => guardX ops V σ f g (if w then .ite c x (.lit undef) else .ite c (.lit undef) x)

inductive GS where
  | run
  | skip
  | opn (g : Nat × Bool)
  | bad

def gstat (ops : Array Oper) (V : List Nat) (σ : List Ent) : Option (Nat × Bool) → GS
  | none => .run
  | some (j, w) =>
    match (dstOf ops j).bind (gent V σ) with
    | none => .bad
    | some n => (match n.full with
      | .lit (.bool b) => if b == w then .run else .skip
      | .lit (.tuple vs) => if vs.isEmpty then .skip else .bad
      | _ => .opn (j, w))

def gidx (ops : Array Oper) (t : Nat) : Nat → Option Nat
  | 0 => none
  | i + 1 => if dstOf ops i == some t then some i else gidx ops t i

def pureX (P : Program) (ops : Array Oper) (V : List Nat) (σ : List Ent) (ok : List (Nat × Bool)) : Op → Option X
  | .pick c a b => (trans V σ ok c).bind fun cx =>
    match cx with
    | .lit (.bool t) => trans V σ ok (if t then a else b)
    | cx =>
      (match c with
        | .tmp t => (gidx ops t ops.size).bind fun j => (trans V σ ((j, true) :: ok) a).bind fun ax => (trans V σ ((j, false) :: ok) b).map fun bx => .ite cx ax bx
        | _ => none)
  | op => opX P (trans V σ ok) op

def settle (ops : Array Oper) (d : Nat) (b : Bool) (σ : List Ent) : List Ent :=
  ⟨d, .lit (.bool b), none⟩ :: (σ.filter fun n => !(n.slot == d)).map fun n =>
    match n.bare with
    | some ((j, w), x) => if dstOf ops j == some d then (if w == b then ⟨n.slot, x, none⟩ else ⟨n.slot, .lit undef, none⟩) else n
    | none => n

/-- The slot on whose value all hangs. -/
def base (ops : Array Oper) (V : List Nat) (σ : List Ent) : Nat → Nat → Option (Nat × X)
  | 0, _ => none
  | f + 1, j => (dstOf ops j).bind fun d => (gent V σ d).bind fun n =>
    match n.bare with
    | none => some (d, n.full)
    | some ((j', _), _) => base ops V σ f j'

def callX (P : Program) (tr : Tr) (kp : Bool) (d : Option Nat) (c : Call) (k : S) : Option S :=
  match c.callee with
  | .value (.func f) => if bodied P f then (listX tr c.args.toList).map fun as => .call kp d f as k else none
  | .value x => (tr x).bind fun fx => (listX tr c.args.toList).map fun as => .callv kp d fx as k
  | _ => none

def dstOk (m : Nat) : Option Nat → Bool
  | some d => decide (d < m)
  | none => true
def dropDst (ops : Array Oper) (V : List Nat) : Option Nat → List Ent → List Ent
  | none, σ => σ
  | some d, σ => match pos V d with
    | some k => dropVar k (dropSlot ops d σ)
    | none => dropSlot ops d σ

def compOps (P : Program) (ops : Array Oper) (m : Nat) (V : List Nat) (kp : Nat → Bool) (leaf : List Ent → Option S) : Nat → List Ent → List Nat → Option S
  | 0, _, _ => none
  | _ + 1, σ, [] => leaf σ
  | f + 1, σ, i :: rest =>
    (ops[i]?).bind fun o =>
    if dstOk m o.dst then
    match gstat ops V σ o.guard with
    | .bad => none
    | .skip => (match o.dst with
      | none => compOps P ops m V kp leaf f σ rest
      | some d => (match pos V d with
        | some k => (compOps P ops m V kp leaf f (dropVar k (dropSlot ops d σ)) rest).map (.set k (.lit undef))
        | none => compOps P ops m V kp leaf f (⟨d, .lit undef, none⟩ :: dropSlot ops d σ) rest))
    | .run =>
      if 2 ≤ kdOf o.op then
        (compOps P ops m V kp leaf f (if kdOf o.op = 3 then dropDst ops V o.dst σ else dropMem (dropDst ops V o.dst σ)) rest).bind fun k =>
        match effX P (trans V σ []) o.op with
        | some e => some (.eff (kp i) (o.dst.bind (pos V)) e k)
        | none => (match o.op with
          | .call c => callX P (trans V σ []) (kp i) (o.dst.bind (pos V)) c k
          | .panic _ => some .stop
          | _ => none)
      else
        (pureX P ops V σ [] o.op).bind fun x =>
        match o.dst with
        | none => (compOps P ops m V kp leaf f σ rest).map (.chk x)
        | some d => (match pos V d with
          | some k => (compOps P ops m V kp leaf f (dropVar k (dropSlot ops d σ)) rest).map (.set k x)
          | none => (compOps P ops m V kp leaf f (⟨d, x, none⟩ :: dropSlot ops d σ) rest).map (.chk x))
    | .opn g =>
      if 2 ≤ kdOf o.op then
        (base ops V σ (ops.size + 1) g.1).bind fun (d, c) =>
        (compOps P ops m V kp leaf f (settle ops d true σ) (i :: rest)).bind fun s1 =>
        (compOps P ops m V kp leaf f (settle ops d false σ) (i :: rest)).map fun s2 => .ite c s1 s2
      else
        (pureX P ops V σ [g] o.op).bind fun x => (guardX ops V σ (ops.size + 1) g x).bind fun y =>
        match o.dst with
        | none => (compOps P ops m V kp leaf f σ rest).map (.chk y)
        | some d => (match pos V d with
          | some k => (compOps P ops m V kp leaf f (dropVar k (dropSlot ops d σ)) rest).map (.set k y)
          | none => (compOps P ops m V kp leaf f (⟨d, y, if dstOf ops g.1 == some d then none else some (g, x)⟩ :: dropSlot ops d σ) rest).map (.chk y))
    else none

/-! ### Regions -/
def kdAt (ops : Array Oper) (i : Nat) : Nat := match ops[i]? with | some o => kdOf o.op | none => 0

def freeOf (bm : List Nat) (left : List Nat) (i : Nat) : Bool := left.all fun j => !((bm.getD i 0).testBit j)
def nextOf (ops : Array Oper) (bm left : List Nat) : Option Nat :=
  match left.find? (fun i => decide (kdAt ops i < 2) && freeOf bm left i) with
  | some i => some i
  | none => match left.find? (fun i => kdAt ops i == 3 && freeOf bm left i) with
    | some i => some i
    | none => left.find? (freeOf bm left)
def orderOf (ops : Array Oper) (bm : List Nat) : Nat → List Nat → List Nat
  | 0, _ => []
  | f + 1, left => match nextOf ops bm left with
    | none => []
    | some i => i :: orderOf ops bm f (left.erase i)
/-- The effects that may come before a load which stands before them in the order. -/
def kpOf (ops : Array Oper) (bm : List Nat) : List Nat → List Nat → List Nat
  | _, [] => []
  | pre, i :: r => (if kdAt ops i == 2 && pre.any (fun j => kdAt ops j == 1 && !((bm.getD i 0).testBit j)) then [i] else []) ++ kpOf ops bm (i :: pre) r

def badIn (ops : Array Oper) (bm : List Nat) (kl : List Nat) (i : Nat) : List Nat → Option (Nat × Nat)
  | [] => none
  | j :: r => if okPair ops bm (kdAt ops) (fun k => kl.contains k) i j then badIn ops bm kl i r else some (i, j)
def firstBad (ops : Array Oper) (bm : List Nat) (kl : List Nat) : List Nat → Option (Nat × Nat)
  | [] => none
  | i :: r => match badIn ops bm kl i r with
    | some p => some p
    | none => firstBad ops bm kl r

def compPlan (P : Program) (m : Nat) (V : List Nat) (ops : Array Oper) (leaf : List Ent → Option S) : Nat → List (Nat × Nat) → Option S
  | 0, _ => none
  | f + 1, ex =>
    let bm := masks ex [] ops.toList
    let l := orderOf ops bm ops.size (List.range ops.size)
    let kl := kpOf ops bm [] l
    if canonOk ops ex (kdAt ops) (fun i => kl.contains i) l then compOps P ops m V (fun i => kl.contains i) leaf (8 * ops.size + 8) [] l
    else match firstBad ops bm kl l with
      | none => none
      | some (i, j) => if i = j then none else (compPlan P m V ops leaf f ((i, j) :: ex)).bind fun a => (compPlan P m V ops leaf f ((j, i) :: ex)).map fun b => .both a b

def compReg (P : Program) (m : Nat) (V : List Nat) (ops : Array Oper) (draw : Bool) (leaf : List Ent → Option S) : Option S :=
  if draw then compPlan P m V ops leaf 6 []
  else compOps P ops m V (fun _ => false) leaf (8 * ops.size + 8) [] (List.range ops.size)

def S.app : S → S → S
  | .nxt, k => k
  | .set i x s, k => .set i x (s.app k)
  | .chk x s, k => .chk x (s.app k)
  | .eff p d e s, k => .eff p d e (s.app k)
  | .call p d f as s, k => .call p d f as (s.app k)
  | .callv p d f as s, k => .callv p d f as (s.app k)
  | s, k => .seq s k

def comp (P : Program) (m : Nat) (V : List Nat) : Code → Option S
  | .skip => some .nxt
  | .label _ => some .nxt
  | .region _ ops d => compReg P m V ops d (fun _ => some .nxt)
  | .seq (.region _ ops d) (.cond c x y) => (comp P m V x).bind fun A => (comp P m V y).bind fun B =>
    (match c with
      | .tmp t => (match pos V t with
        | some k => (compReg P m V ops d (fun _ => some .nxt)).map fun r => r.app (.ite (.var k) A B)
        | none => compReg P m V ops d (fun σ => (trans V σ [] (.tmp t)).map fun q => .ite q A B))
      | c => compReg P m V ops d (fun σ => (trans V σ [] c).map fun q => .ite q A B))
  | .seq a b => (comp P m V a).bind fun A => (comp P m V b).map fun B => A.app B
  | .cond c x y => (comp P m V x).bind fun A => (comp P m V y).bind fun B => (trans V [] [] c).map fun q => .ite q A B
  | .block id c => (comp P m V c).map (.blk id)
  | .loop c => (comp P m V c).map .loop
  | .scope c => comp P m V c
  | .exit id => some (.exit id)
  | .ret => some .ret
  | _ => none

/-! ### Checks that another expression makes superfluous -/
def litEq : Value → Value → Bool
  | .int k a, .int k' b => k == k' && a == b
  | .bool a, .bool b => a == b
  | .pointer none, .pointer none => true
  | .slice none a b, .slice none c d => a == c && b == d
  | _, _ => false

def K1.eq : K1 → K1 → Bool
  | .len, .len | .nilc, .nilc | .ld1, .ld1 => true
  | .fld a, .fld b | .lda a, .lda b | .prt a, .prt b | .ext a, .ext b => a == b
  | .prta a n, .prta b k => a == b && n == k
  | .conv k, .conv k' => k == k'
  | .un .not, .un .not => true
  | .un .neg, .un .neg => true
  | _, _ => false

def K2.eq : K2 → K2 → Bool
  | .bin .add, .bin .add | .bin .sub, .bin .sub | .bin .mul, .bin .mul | .bin .quo, .bin .quo | .bin .rem, .bin .rem => true
  | .bin .eql, .bin .eql | .bin .neq, .bin .neq | .bin .lss, .bin .lss | .bin .leq, .bin .leq | .bin .gtr, .bin .gtr | .bin .geq, .bin .geq => true
  | .bin .shl, .bin .shl | .bin .shr, .bin .shr | .bin .and, .bin .and | .bin .or, .bin .or => true
  | .eqb a, .eqb b | .eqp a, .eqp b | .eqs a, .eqs b | .eqf a, .eqf b => a == b
  | .eqi a n, .eqi b k => a == b && n == k
  | .idx a, .idx b => a == b
  | .idxa a n, .idxa b k => a == b && n == k
  | .ixv a n g, .ixv b k g' => a == b && n == k && g == g'
  | .mx, .mx | .mn, .mn | .ixs, .ixs => true
  | _, _ => false

def X.eq : X → X → Bool
  | .var i, .var j => i == j
  | .lit a, .lit d => litEq a d
  | .u k a, .u k' d => k.eq k' && a.eq d
  | .b k a c, .b k' a' c' => k.eq k' && a.eq a' && c.eq c'
  | .ite c a d, .ite c' a' d' => c.eq c' && a.eq a' && d.eq d'
  | _, _ => false

/-- If y has a value, x has one. -/
def covIte (cov : X → X → Bool) (x y : X) : Bool :=
  match x, y with
  | .ite c a b, .ite c' a' b' => c.eq c' && cov a a' && cov b b'
  | _, _ => false

def cov : Nat → X → X → Bool
  | 0, _, _ => false
  | f + 1, x, y =>
    (match x with | .var _ => true | .lit _ => true | _ => false) || x.eq y || covIte (cov f) x y ||
    (match y with
      | .u _ a => cov f x a
      | .b _ a c => cov f x a || cov f x c
      | .ite c _ _ => cov f x c
      | .slc _ _ a l u _ => cov f x a || cov f x l || cov f x u
      | .fn _ c => cov f x c
      | .bld _ p => cov f x p
      | .cn a r => cov f x a || cov f x r
      | .pl _ _ a r => cov f x a || cov f x r
      | _ => false)

/-- What the statement evaluates first of all. -/
def S.first : S → List X
  | .set _ x _ => [x]
  | .chk x _ => [x]
  | .ite c _ _ => [c]
  | .call _ _ _ as _ => [as]
  | .callv _ _ f as _ => [f, as]
  | .eff _ _ (.box _ x) _ => [x]
  | .eff _ _ (.st _ p v) _ => [p, v]
  | .eff _ _ (.mk _ _ _ _ l c) _ => [l, c]
  | .eff _ _ (.app _ _ _ _ s x) _ => [s, x]
  | .eff _ _ (.lit _ _ _ _ ps) _ => [ps]
  | .seq a _ => a.first
  | _ => []

def chkO (x : X) (k : S) : S := if k.first.any (cov 40 x) then k else .chk x k

def S.opt : S → S
  | .nxt => .nxt
  | .set i x s => .set i x s.opt
  | .chk x s => chkO x s.opt
  | .eff p d e s => .eff p d e s.opt
  | .call p d f as s => .call p d f as s.opt
  | .callv p d f as s => .callv p d f as s.opt
  | .ite c a b => .ite c a.opt b.opt
  | .both a b => .both a.opt b.opt
  | .seq a b => .seq a.opt b.opt
  | .blk id a => .blk id a.opt
  | .loop a => .loop a.opt
  | .exit id => .exit id
  | .ret => .ret
  | .stop => .stop

/-! ### Functions -/
def resX (P : Program) (V : List Nat) : List ResultVar → Option (List X)
  | [] => some []
  | .tmp t :: r => (pos V t).bind fun i => (resX P V r).map fun l => .var i :: l
  | .cell t ty :: r => (pos V t).bind fun i => (aggT P ty).bind fun g => (sizeT P ty).bind fun n => (resX P V r).map fun l => .u (if g then .lda n else .ld1) (.var i) :: l

def nodup : List Nat → Bool
  | [] => true
  | x :: r => !r.contains x && nodup r

structure Fun where
  body : S
  res : List X

def compF (P : Program) (fn : Func) (V : List Nat) : Option Fun :=
  if nodup V && V.all (fun t => decide (t < fn.ntmps)) then
    fn.body.bind fun c => (comp P fn.ntmps V c).bind fun s => (resX P V fn.results.toList).map fun r => ⟨s.opt, r⟩
  else none

end Go.Lft
