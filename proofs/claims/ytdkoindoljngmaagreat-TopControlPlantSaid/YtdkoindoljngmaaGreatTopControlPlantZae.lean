/- Lemmas and walks that the proof of TopControlPlant uses. No statement is claimed here. -/
import Derived.Test.YtdkoindoljngmaaGreatTopControlPlantZad
import Derived.Laws.Bits64
namespace Go.Lft
open Go
set_option linter.unusedVariables false
def ob {α β : Type} (x : Option α) (f : α→Option β) : Option β:=x.bind f
def bw {α : Type} (x : Option α) (k : α→Prop) : Prop:=∃ v,x=some v∧k v
def iw (x : Option Value) (K : Bool→Prop) : Prop:=∃ t,x=some (.bool t)∧K t
def ib (t : Bool) (K : Bool→Prop) : Prop:=K t
def sq (P : Program) (b : S) (Q : Ex→List Value→Heap→Prop) : Ex→List Value→Heap→Prop:=fun x e h=>match x with | .nxt=>b.wp P Q e h | x=>Q x e h
def bk (id : Nat) (Q : Ex→List Value→Heap→Prop) : Ex→List Value→Heap→Prop:=fun x e h=>match x with | .exit i=>if i=id then Q .nxt e h else Q (.exit i) e h | x=>Q x e h
def lp (I : List Value→Heap→Prop) (m : List Value→Heap→Nat) (n : Nat) (Q : Ex→List Value→Heap→Prop) : Ex→List Value→Heap→Prop:=fun x e h=>match x with | .nxt=>I e h∧m e h < n | x=>Q x e h
section
variable (P : Program) (Q : Ex→List Value→Heap→Prop) (e : List Value) (h : Heap) (d : Option Nat) (k : S)
end
theorem ob_congr {α β : Type} {x y : Option α} {f : α→Option β} (h : x=y) : ob x f=ob y f:=by rw [h]
theorem bw_congr {α : Type} {x y : Option α} {k : α→Prop} (h : x=y) : bw x k=bw y k:=by rw [h]
theorem ib_congr {x y : Bool} {K : Bool→Prop} (h : x=y) : ib x K=ib y K:=by rw [h]
@[simp] theorem ob_some {α β : Type} (x : α) (f : α→Option β) : ob (some x) f=f x:=rfl
@[simp] theorem ob_none {α β : Type} (f : α→Option β) : ob none f=none:=rfl
@[simp] theorem bw_some {α : Type} (x : α) (k : α→Prop) : bw (some x) k=k x:=by
  unfold bw; simp
@[simp] theorem iw_bool (t : Bool) (K : Bool→Prop) : iw (some (.bool t)) K=ib t K:=by
  unfold iw ib; simp
@[simp] theorem ib_true (K : Bool→Prop) : ib true K=K true:=rfl
@[simp] theorem ib_false (K : Bool→Prop) : ib false K=K false:=rfl
theorem ib_pos {p : Prop} [Decidable p] {K : Bool→Prop} (h : p) : ib (decide p) K=K true:=by simp [ib,h]
theorem ib_neg {p : Prop} [Decidable p] {K : Bool→Prop} (h : ¬ p) : ib (decide p) K=K false:=by simp [ib,h]
theorem dec_t [Decidable True] : decide True=true:=by simp
theorem dec_f [Decidable False] : decide False=false:=by simp
theorem tand (p : Bool) : (true && p)=p:=by simp
theorem andt (p : Bool) : (p && true)=p:=by simp
theorem fand (p : Bool) : (false && p)=false:=by simp
theorem andf (p : Bool) : (p && false)=false:=by simp
theorem tor (p : Bool) : (true || p)=true:=by simp
theorem ort (p : Bool) : (p || true)=true:=by simp
theorem for_ (p : Bool) : (false || p)=p:=by simp
theorem orf (p : Bool) : (p || false)=p:=by simp
theorem not_t : (!true)=false:=rfl
theorem not_f : (!false)=true:=rfl
theorem bnf (b : Bool) : (b != false)=b:=by simp
theorem bnt (b : Bool) : (b != true)=!b:=by simp
theorem tb (b : Bool) : (true == b)=b:=by simp
theorem fb (b : Bool) : (false == b)=!b:=by simp
theorem bt (b : Bool) : (b == true)=b:=by simp
theorem bf (b : Bool) : (b == false)=!b:=by simp
theorem or_dec {p q : Prop} [Decidable p] [Decidable q] : (decide p || decide q)=decide (p∨q):=by simp
theorem and_dec {p q : Prop} [Decidable p] [Decidable q] : (decide p && decide q)=decide (p∧q):=by simp
theorem not_dec {p : Prop} [Decidable p] : (!decide p)=decide (¬ p):=by simp
theorem ib_intro {p : Prop} [Decidable p] {K : Bool→Prop} (h1 : p→K true) (h2 : ¬ p→K false) : ib (decide p) K:=by
  unfold ib; by_cases h : p
  · simp only [h,decide_true]; exact h1 h
  · simp only [h,decide_false]; exact h2 h
theorem ib_split {t : Bool} {K : Bool→Prop} (h1 : t=true→K true) (h2 : t=false→K false) : ib t K:=by
  cases t
  · exact h2 rfl
  · exact h1 rfl
@[simp] theorem sq_nxt (P : Program) (b : S) (Q : Ex→List Value→Heap→Prop) (e : List Value) (h : Heap) : sq P b Q .nxt e h=b.wp P Q e h:=rfl
@[simp] theorem sq_exit (P : Program) (b : S) (Q : Ex→List Value→Heap→Prop) (i : Nat) (e : List Value) (h : Heap) : sq P b Q (.exit i) e h=Q (.exit i) e h:=rfl
@[simp] theorem sq_ret (P : Program) (b : S) (Q : Ex→List Value→Heap→Prop) (e : List Value) (h : Heap) : sq P b Q .ret e h=Q .ret e h:=rfl
@[simp] theorem bk_nxt (id : Nat) (Q : Ex→List Value→Heap→Prop) (e : List Value) (h : Heap) : bk id Q .nxt e h=Q .nxt e h:=rfl
@[simp] theorem bk_ret (id : Nat) (Q : Ex→List Value→Heap→Prop) (e : List Value) (h : Heap) : bk id Q .ret e h=Q .ret e h:=rfl
theorem bk_exit (id : Nat) (Q : Ex→List Value→Heap→Prop) (i : Nat) (e : List Value) (h : Heap) : bk id Q (.exit i) e h=if i=id then Q .nxt e h else Q (.exit i) e h:=rfl
@[simp] theorem bk_same (id : Nat) (Q : Ex→List Value→Heap→Prop) (e : List Value) (h : Heap) : bk id Q (.exit id) e h=Q .nxt e h:=by simp [bk_exit]
@[simp] theorem lp_nxt (I : List Value→Heap→Prop) (m : List Value→Heap→Nat) (n : Nat) (Q : Ex→List Value→Heap→Prop) (e : List Value) (h : Heap) : lp I m n Q .nxt e h=(I e h∧m e h < n):=rfl
@[simp] theorem lp_exit (I : List Value→Heap→Prop) (m : List Value→Heap→Nat) (n : Nat) (Q : Ex→List Value→Heap→Prop) (i : Nat) (e : List Value) (h : Heap) : lp I m n Q (.exit i) e h=Q (.exit i) e h:=rfl
@[simp] theorem lp_ret (I : List Value→Heap→Prop) (m : List Value→Heap→Nat) (n : Nat) (Q : Ex→List Value→Heap→Prop) (e : List Value) (h : Heap) : lp I m n Q .ret e h=Q .ret e h:=rfl
section
variable {P : Program} {Q : Ex→List Value→Heap→Prop} {e : List Value} {h : Heap}
def st1 (h : Heap) (p : Value) (v : Value) : Option Heap :=
  match p with
  | .pointer (some ⟨b,o,none⟩)=>if v.cells.size=1 then wr h b o v.cells.toList else none
  | _=>none
section
variable {P : Program} {Q : Ex→List Value→Heap→Prop} {e : List Value} {h : Heap} {d : Option Nat} {k : S}
end
section
variable {P : Program} {Q : Ex→List Value→Heap→Prop} {e : List Value} {h : Heap}
end
def lenv : Value→Option Value
  | .slice _ n _=>some (.int .i64 n)
  | _=>none
def idxv (n : Nat) (x i : Value) : Option Value:=k2v (.idx n) x i
def ld1v (h : Heap) (p : Value) : Option Value:=k1v .ld1 p h
def ldav (n : Nat) (h : Heap) (p : Value) : Option Value:=k1v (.lda n) p h
def itx (x : Option Value) (A B : Option Value) : Option Value:=x.bind fun v=>match v with | .bool true=>A | .bool false=>B | _=>none
@[simp] theorem itx_true (A B : Option Value) : itx (some (.bool true)) A B=A:=rfl
@[simp] theorem itx_false (A B : Option Value) : itx (some (.bool false)) A B=B:=rfl
theorem b_eql (k : IntKind) (a b : Int) : k2v (.bin .eql) (.int k a) (.int k b)=some (.bool (decide (a=b))):=by
  have : k2v (.bin .eql) (.int k a) (.int k b)=some (.bool (a == b)):=by cases k<;>rfl
  rw [this]; congr 2
theorem b_neq (k : IntKind) (a b : Int) : k2v (.bin .neq) (.int k a) (.int k b)=some (.bool (decide (a≠b))):=by
  have : k2v (.bin .neq) (.int k a) (.int k b)=some (.bool (a != b)):=by cases k<;>rfl
  rw [this]; congr 2
  by_cases hab : a=b<;>simp [hab,bne]
theorem b_quo (k : IntKind) (a b : Int) (hb : b≠0) : k2v (.bin .quo) (.int k a) (.int k b)=some (.int k (k.wrap (a.tdiv b))):=by
  cases k<;>simp [k2v,binOp,Op.intDiv,hb,pureV]<;>rfl
theorem b_rem (k : IntKind) (a b : Int) (hb : b≠0) : k2v (.bin .rem) (.int k a) (.int k b)=some (.int k (a.tmod b)):=by
  cases k<;>simp [k2v,binOp,Op.intDiv,hb,pureV]<;>rfl
theorem wrap_in {n : Int} (h1 : -9223372036854775808≤n) (h2 : n≤9223372036854775807) : IntKind.wrap .i64 n=n:=by
  rw [IntKind.wrap_i64]; omega
theorem wrap_u64 {n : Int} (h1 : 0≤n) (h2 : n≤18446744073709551615) : IntKind.wrap .u64 n=n:=by
  simp [IntKind.wrap,IntKind.bits,IntKind.signed]; omega
theorem tdiv_pos {a b : Int} (h1 : 0≤a) : a.tdiv b=a / b:=Int.tdiv_eq_ediv_of_nonneg h1
theorem tmod_pos {a b : Int} (h1 : 0≤a) : a.tmod b=a % b:=Int.tmod_eq_emod_of_nonneg h1
theorem idx_in {n b o len cap : Nat} {k : IntKind} {i : Int} (h1 : 0≤i) (h2 : i < len) : idxv n (.slice (some ⟨b,o,none⟩) len cap) (.int k i)=some (.pointer (some ⟨b,o+i.toNat*n,none⟩)):=by
  simp [idxv,k2v,h1,h2]
theorem ld1_of {b o : Nat} {v : Value} (hr : rd h b o 1=some [v]) : ld1v h (.pointer (some ⟨b,o,none⟩))=some v:=by
  simp [ld1v,k1v,hr]
theorem lda_of {b o n : Nat} {vs : List Value} (hr : rd h b o n=some vs) : ldav n h (.pointer (some ⟨b,o,none⟩))=some (.agg vs.toArray):=by
  simp [ldav,k1v,hr]
theorem mx_int (k : IntKind) (a b : Int) : k2v .mx (.int k a) (.int k b)=some (.int k (max a b)):=by
  simp only [k2v,if_true]; congr 2; split<;>omega
theorem mn_int (k : IntKind) (a b : Int) : k2v .mn (.int k a) (.int k b)=some (.int k (min a b)):=by
  simp only [k2v,if_true]; congr 2; split<;>omega
end
theorem nm1 (n : Nat) : n*1=n:=Nat.mul_one n
theorem n1m (n : Nat) : 1*n=n:=Nat.one_mul n
theorem n0m (n : Nat) : 0*n=0:=Nat.zero_mul n
theorem n0a (n : Nat) : 0+n=n:=Nat.zero_add n
theorem na0 (n : Nat) : n+0=n:=rfl
theorem ns0 (n : Nat) : n - 0=n:=rfl
theorem tnat (n : Nat) : (n : Int).toNat=n:=rfl
theorem tnat0 : (0 : Int).toNat=0:=rfl
section
variable {e : List Value} {h : Heap}
end
end Go.Lft
