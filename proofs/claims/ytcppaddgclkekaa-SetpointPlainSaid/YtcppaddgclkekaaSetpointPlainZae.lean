/- Lemmas and walks that the proof of SetpointPlain uses. No statement is claimed here. -/
import Derived.Test.YtcppaddgclkekaaSetpointPlainZad
import Derived.Laws.Bits64
namespace Go.Lft
open Go
set_option linter.unusedVariables false
def ob {α β : Type} (x : Option α) (f : α→Option β) : Option β:=x.bind f
def bw {α : Type} (x : Option α) (k : α→Prop) : Prop:=∃ v,x=some v∧k v
def iw (x : Option Value) (K : Bool→Prop) : Prop:=∃ t,x=some (.bool t)∧K t
def ib (t : Bool) (K : Bool→Prop) : Prop:=K t
def sq (P : Program) (b : S) (Q : Ex→List Value→Heap→Prop) : Ex→List Value→Heap→Prop:=fun x e h=>match x with | .nxt=>b.wp P Q e h | x=>Q x e h
def bk (id : Nat) (Q : Ex→List Value→Heap→Prop) : Ex→List Value→Heap→Prop:=fun x e h=>match x with | .exit i=>if i=id then Q .nxt e h else Q (.exit i) e h | x=>Q x e h
def lp (I : List Value→Heap→Prop) (m : List Value→Heap→Nat) (n : Nat) (Q : Ex→List Value→Heap→Prop) : Ex→List Value→Heap→Prop:=fun x e h=>match x with | .nxt=>I e h∧m e h < n | x=>Q x e h
section
variable (P : Program) (Q : Ex→List Value→Heap→Prop) (e : List Value) (h : Heap) (d : Option Nat) (k : S)
end
theorem ob_congr {α β : Type} {x y : Option α} {f : α→Option β} (h : x=y) : ob x f=ob y f:=by rw [h]
theorem bw_congr {α : Type} {x y : Option α} {k : α→Prop} (h : x=y) : bw x k=bw y k:=by rw [h]
theorem ib_congr {x y : Bool} {K : Bool→Prop} (h : x=y) : ib x K=ib y K:=by rw [h]
@[simp] theorem ob_some {α β : Type} (x : α) (f : α→Option β) : ob (some x) f=f x:=rfl
@[simp] theorem ob_none {α β : Type} (f : α→Option β) : ob none f=none:=rfl
@[simp] theorem bw_some {α : Type} (x : α) (k : α→Prop) : bw (some x) k=k x:=by
  unfold bw; simp
@[simp] theorem iw_bool (t : Bool) (K : Bool→Prop) : iw (some (.bool t)) K=ib t K:=by
  unfold iw ib; simp
@[simp] theorem ib_true (K : Bool→Prop) : ib true K=K true:=rfl
@[simp] theorem ib_false (K : Bool→Prop) : ib false K=K false:=rfl
theorem ib_pos {p : Prop} [Decidable p] {K : Bool→Prop} (h : p) : ib (decide p) K=K true:=by simp [ib,h]
theorem ib_neg {p : Prop} [Decidable p] {K : Bool→Prop} (h : ¬ p) : ib (decide p) K=K false:=by simp [ib,h]
theorem dec_t [Decidable True] : decide True=true:=by simp
theorem dec_f [Decidable False] : decide False=false:=by simp
theorem tand (p : Bool) : (true && p)=p:=by simp
theorem andt (p : Bool) : (p && true)=p:=by simp
theorem fand (p : Bool) : (false && p)=false:=by simp
theorem andf (p : Bool) : (p && false)=false:=by simp
theorem tor (p : Bool) : (true || p)=true:=by simp
theorem ort (p : Bool) : (p || true)=true:=by simp
theorem for_ (p : Bool) : (false || p)=p:=by simp
theorem orf (p : Bool) : (p || false)=p:=by simp
theorem not_t : (!true)=false:=rfl
theorem not_f : (!false)=true:=rfl
theorem bnf (b : Bool) : (b != false)=b:=by simp
theorem bnt (b : Bool) : (b != true)=!b:=by simp
theorem tb (b : Bool) : (true == b)=b:=by simp
theorem fb (b : Bool) : (false == b)=!b:=by simp
theorem bt (b : Bool) : (b == true)=b:=by simp
theorem bf (b : Bool) : (b == false)=!b:=by simp
theorem or_dec {p q : Prop} [Decidable p] [Decidable q] : (decide p || decide q)=decide (p∨q):=by simp
theorem and_dec {p q : Prop} [Decidable p] [Decidable q] : (decide p && decide q)=decide (p∧q):=by simp
theorem not_dec {p : Prop} [Decidable p] : (!decide p)=decide (¬ p):=by simp
theorem ib_intro {p : Prop} [Decidable p] {K : Bool→Prop} (h1 : p→K true) (h2 : ¬ p→K false) : ib (decide p) K:=by
  unfold ib; by_cases h : p
  · simp only [h,decide_true]; exact h1 h
  · simp only [h,decide_false]; exact h2 h
theorem ib_split {t : Bool} {K : Bool→Prop} (h1 : t=true→K true) (h2 : t=false→K false) : ib t K:=by
  cases t
  · exact h2 rfl
  · exact h1 rfl
@[simp] theorem sq_nxt (P : Program) (b : S) (Q : Ex→List Value→Heap→Prop) (e : List Value) (h : Heap) : sq P b Q .nxt e h=b.wp P Q e h:=rfl
@[simp] theorem sq_exit (P : Program) (b : S) (Q : Ex→List Value→Heap→Prop) (i : Nat) (e : List Value) (h : Heap) : sq P b Q (.exit i) e h=Q (.exit i) e h:=rfl
@[simp] theorem sq_ret (P : Program) (b : S) (Q : Ex→List Value→Heap→Prop) (e : List Value) (h : Heap) : sq P b Q .ret e h=Q .ret e h:=rfl
@[simp] theorem bk_nxt (id : Nat) (Q : Ex→List Value→Heap→Prop) (e : List Value) (h : Heap) : bk id Q .nxt e h=Q .nxt e h:=rfl
@[simp] theorem bk_ret (id : Nat) (Q : Ex→List Value→Heap→Prop) (e : List Value) (h : Heap) : bk id Q .ret e h=Q .ret e h:=rfl
theorem bk_exit (id : Nat) (Q : Ex→List Value→Heap→Prop) (i : Nat) (e : List Value) (h : Heap) : bk id Q (.exit i) e h=if i=id then Q .nxt e h else Q (.exit i) e h:=rfl
@[simp] theorem bk_same (id : Nat) (Q : Ex→List Value→Heap→Prop) (e : List Value) (h : Heap) : bk id Q (.exit id) e h=Q .nxt e h:=by simp [bk_exit]
@[simp] theorem lp_nxt (I : List Value→Heap→Prop) (m : List Value→Heap→Nat) (n : Nat) (Q : Ex→List Value→Heap→Prop) (e : List Value) (h : Heap) : lp I m n Q .nxt e h=(I e h∧m e h < n):=rfl
@[simp] theorem lp_exit (I : List Value→Heap→Prop) (m : List Value→Heap→Nat) (n : Nat) (Q : Ex→List Value→Heap→Prop) (i : Nat) (e : List Value) (h : Heap) : lp I m n Q (.exit i) e h=Q (.exit i) e h:=rfl
@[simp] theorem lp_ret (I : List Value→Heap→Prop) (m : List Value→Heap→Nat) (n : Nat) (Q : Ex→List Value→Heap→Prop) (e : List Value) (h : Heap) : lp I m n Q .ret e h=Q .ret e h:=rfl
section
variable {P : Program} {Q : Ex→List Value→Heap→Prop} {e : List Value} {h : Heap}
def st1 (h : Heap) (p : Value) (v : Value) : Option Heap :=
  match p with
  | .pointer (some ⟨b,o,none⟩)=>if v.cells.size=1 then wr h b o v.cells.toList else none
  | _=>none
section
variable {P : Program} {Q : Ex→List Value→Heap→Prop} {e : List Value} {h : Heap} {d : Option Nat} {k : S}
end
section
variable {P : Program} {Q : Ex→List Value→Heap→Prop} {e : List Value} {h : Heap}
end
def lenv : Value→Option Value
  | .slice _ n _=>some (.int .i64 n)
  | _=>none
def idxv (n : Nat) (x i : Value) : Option Value:=k2v (.idx n) x i
def ld1v (h : Heap) (p : Value) : Option Value:=k1v .ld1 p h
def ldav (n : Nat) (h : Heap) (p : Value) : Option Value:=k1v (.lda n) p h
def itx (x : Option Value) (A B : Option Value) : Option Value:=x.bind fun v=>match v with | .bool true=>A | .bool false=>B | _=>none
@[simp] theorem itx_true (A B : Option Value) : itx (some (.bool true)) A B=A:=rfl
@[simp] theorem itx_false (A B : Option Value) : itx (some (.bool false)) A B=B:=rfl
theorem b_eql (k : IntKind) (a b : Int) : k2v (.bin .eql) (.int k a) (.int k b)=some (.bool (decide (a=b))):=by
  have : k2v (.bin .eql) (.int k a) (.int k b)=some (.bool (a == b)):=by cases k<;>rfl
  rw [this]; congr 2
theorem b_neq (k : IntKind) (a b : Int) : k2v (.bin .neq) (.int k a) (.int k b)=some (.bool (decide (a≠b))):=by
  have : k2v (.bin .neq) (.int k a) (.int k b)=some (.bool (a != b)):=by cases k<;>rfl
  rw [this]; congr 2
  by_cases hab : a=b<;>simp [hab,bne]
theorem b_quo (k : IntKind) (a b : Int) (hb : b≠0) : k2v (.bin .quo) (.int k a) (.int k b)=some (.int k (k.wrap (a.tdiv b))):=by
  cases k<;>simp [k2v,binOp,Op.intDiv,hb,pureV]<;>rfl
theorem b_rem (k : IntKind) (a b : Int) (hb : b≠0) : k2v (.bin .rem) (.int k a) (.int k b)=some (.int k (a.tmod b)):=by
  cases k<;>simp [k2v,binOp,Op.intDiv,hb,pureV]<;>rfl
theorem wrap_in {n : Int} (h1 : -9223372036854775808≤n) (h2 : n≤9223372036854775807) : IntKind.wrap .i64 n=n:=by
  rw [IntKind.wrap_i64]; omega
theorem wrap_u64 {n : Int} (h1 : 0≤n) (h2 : n≤18446744073709551615) : IntKind.wrap .u64 n=n:=by
  simp [IntKind.wrap,IntKind.bits,IntKind.signed]; omega
theorem tdiv_pos {a b : Int} (h1 : 0≤a) : a.tdiv b=a / b:=Int.tdiv_eq_ediv_of_nonneg h1
theorem tmod_pos {a b : Int} (h1 : 0≤a) : a.tmod b=a % b:=Int.tmod_eq_emod_of_nonneg h1
theorem idx_in {n b o len cap : Nat} {k : IntKind} {i : Int} (h1 : 0≤i) (h2 : i < len) : idxv n (.slice (some ⟨b,o,none⟩) len cap) (.int k i)=some (.pointer (some ⟨b,o+i.toNat*n,none⟩)):=by
  simp [idxv,k2v,h1,h2]
theorem ld1_of {b o : Nat} {v : Value} (hr : rd h b o 1=some [v]) : ld1v h (.pointer (some ⟨b,o,none⟩))=some v:=by
  simp [ld1v,k1v,hr]
theorem lda_of {b o n : Nat} {vs : List Value} (hr : rd h b o n=some vs) : ldav n h (.pointer (some ⟨b,o,none⟩))=some (.agg vs.toArray):=by
  simp [ldav,k1v,hr]
theorem mx_int (k : IntKind) (a b : Int) : k2v .mx (.int k a) (.int k b)=some (.int k (max a b)):=by
  simp only [k2v,if_true]; congr 2; split<;>omega
theorem mn_int (k : IntKind) (a b : Int) : k2v .mn (.int k a) (.int k b)=some (.int k (min a b)):=by
  simp only [k2v,if_true]; congr 2; split<;>omega
end
theorem l_cons (v : Value) (l : List Value) : (v :: l).length=l.length+1:=rfl
theorem l_nil : ([] : List Value).length=0:=rfl
theorem r_succ (v : Value) (n : Nat) : List.replicate (n+1) v=v :: List.replicate n v:=rfl
theorem r_zero (v : Value) : List.replicate 0 v=[]:=rfl
theorem t_zero (l : List Value) : l.take 0=[]:=rfl
theorem t_succ (v : Value) (l : List Value) (n : Nat) : (v :: l).take (n+1)=v :: l.take n:=rfl
theorem d_zero (l : List Value) : l.drop 0=l:=rfl
theorem d_succ (v : Value) (l : List Value) (n : Nat) : (v :: l).drop (n+1)=l.drop n:=rfl
theorem c_app (v : Value) (l m : List Value) : (v :: l)++m=v :: (l++m):=rfl
theorem n_app (m : List Value) : ([] : List Value)++m=m:=rfl
theorem i_true {α : Type} [Decidable True] (a b : α) : (if True then a else b)=a:=if_pos trivial
theorem i_false {α : Type} [Decidable False] (a b : α) : (if False then a else b)=b:=if_neg id
theorem i_pos {α : Type} {p : Prop} [Decidable p] (a b : α) (h : p) : (if p then a else b)=a:=if_pos h
theorem i_neg {α : Type} {p : Prop} [Decidable p] (a b : α) (h : ¬ p) : (if p then a else b)=b:=if_neg h
theorem ce_int (k : IntKind) (n : Int) : (Value.int k n).cells=#[.int k n]:=rfl
theorem ce_bool (b : Bool) : (Value.bool b).cells=#[.bool b]:=rfl
theorem ce_ptr (a : Option Addr) : (Value.pointer a).cells=#[.pointer a]:=rfl
theorem ce_slice (a : Option Addr) (n c : Nat) : (Value.slice a n c).cells=#[.slice a n c]:=rfl
theorem ce_str (s : ByteArray) : (Value.string s).cells=#[.string s]:=rfl
theorem ce_agg (cs : Array Value) : (Value.agg cs).cells=cs:=rfl
theorem sz_one (v : Value) : (#[v] : Array Value).size=1:=rfl
theorem sz_list (l : List Value) : l.toArray.size=l.length:=rfl
theorem fill_nil (c : Array Value) : fillv c []=some c:=rfl
theorem fill_one {v : Value} (hv : v.cells=#[v]) (l : List Value) (off : Nat) (r : List (Nat×Value)) : fillv l.toArray ((off,v) :: r)=if off < l.length then fillv (l.set off v).toArray r else none:=by
  simp only [fillv,hv,List.size_toArray,l_cons,l_nil]
  by_cases h : off < l.length
  · rw [if_pos (by omega),if_pos h]
    simp [splice]
  · rw [if_neg (by omega),if_neg h]
theorem fill_int (k : IntKind) (n : Int) (l : List Value) (off : Nat) (r : List (Nat×Value)) : fillv l.toArray ((off,.int k n) :: r)=if off < l.length then fillv (l.set off (.int k n)).toArray r else none:=fill_one rfl l off r
theorem fill_bool (b : Bool) (l : List Value) (off : Nat) (r : List (Nat×Value)) : fillv l.toArray ((off,.bool b) :: r)=if off < l.length then fillv (l.set off (.bool b)).toArray r else none:=fill_one rfl l off r
theorem fill_ptr (a : Option Addr) (l : List Value) (off : Nat) (r : List (Nat×Value)) : fillv l.toArray ((off,.pointer a) :: r)=if off < l.length then fillv (l.set off (.pointer a)).toArray r else none:=fill_one rfl l off r
theorem fill_slice (a : Option Addr) (n c : Nat) (l : List Value) (off : Nat) (r : List (Nat×Value)) : fillv l.toArray ((off,.slice a n c) :: r)=if off < l.length then fillv (l.set off (.slice a n c)).toArray r else none:=fill_one rfl l off r
theorem fill_str (s : ByteArray) (l : List Value) (off : Nat) (r : List (Nat×Value)) : fillv l.toArray ((off,.string s) :: r)=if off < l.length then fillv (l.set off (.string s)).toArray r else none:=fill_one rfl l off r
theorem fill_agg (cs : List Value) (l : List Value) (off : Nat) (r : List (Nat×Value)) : fillv l.toArray ((off,.agg cs.toArray) :: r)=if off+cs.length≤l.length then fillv (l.take off++cs++l.drop (off+cs.length)).toArray r else none:=by
  simp only [fillv,ce_agg,List.size_toArray]
  split
  · rename_i h
    congr 1
    apply Array.ext'
    apply List.ext_getElem?
    intro i
    rw [Array.getElem?_toList,splice_get _ _ _ _ (by simpa using h)]
    simp only [List.getElem?_toArray]
    have hl : (l.take off).length=off:=by simp; omega
    by_cases h1 : off≤i
    · by_cases h2 : i < off+cs.length
      · rw [if_pos ⟨h1,h2⟩,List.append_assoc,List.getElem?_append_right (by omega),hl,List.getElem?_append_left (by omega)]
      · rw [if_neg (by omega),List.getElem?_append_right (by simp; omega)]
        simp
        congr 1
        omega
    · rw [if_neg (by omega),List.append_assoc,List.getElem?_append_left (by omega)]
      simp [List.getElem?_take]
      omega
  · rfl
theorem made_one (v : Value) (n : Nat) : madeCells [v].toArray n=(List.replicate n v).toArray:=by
  apply Array.ext'
  apply List.ext_getElem?
  intro i
  by_cases hi : i < n
  · simp [madeCells,hi,Nat.mod_one]
  · simp [madeCells,hi]
theorem tl_arr (l : List Value) : l.toArray.toList=l:=rfl
theorem nm1 (n : Nat) : n*1=n:=Nat.mul_one n
theorem n1m (n : Nat) : 1*n=n:=Nat.one_mul n
theorem n0m (n : Nat) : 0*n=0:=Nat.zero_mul n
theorem n0a (n : Nat) : 0+n=n:=Nat.zero_add n
theorem na0 (n : Nat) : n+0=n:=rfl
theorem ns0 (n : Nat) : n - 0=n:=rfl
theorem tnat (n : Nat) : (n : Int).toNat=n:=rfl
theorem tnat0 : (0 : Int).toNat=0:=rfl
section
variable {e : List Value} {h : Heap}
end
theorem exB : type_of% (And.intro @i_pos <| And.intro @i_neg <| And.intro @i_true <| And.intro @i_false <| And.intro @ce_int <| And.intro @ce_bool <| And.intro @ce_ptr <| And.intro @ce_slice <| And.intro @ce_str <| And.intro @ce_agg <| And.intro @sz_one <| And.intro @sz_list <| And.intro @fill_nil <| And.intro @fill_int <| And.intro @fill_bool <| And.intro @fill_ptr <| And.intro @fill_slice <| And.intro @fill_str <| And.intro @fill_agg <| And.intro @made_one <| And.intro @tl_arr <| And.intro @l_cons <| And.intro @l_nil <| And.intro @r_succ <| And.intro @r_zero <| And.intro @t_zero <| And.intro @t_succ <| And.intro @d_zero <| And.intro @d_succ <| And.intro @c_app <| @n_app):=And.intro @i_pos <| And.intro @i_neg <| And.intro @i_true <| And.intro @i_false <| And.intro @ce_int <| And.intro @ce_bool <| And.intro @ce_ptr <| And.intro @ce_slice <| And.intro @ce_str <| And.intro @ce_agg <| And.intro @sz_one <| And.intro @sz_list <| And.intro @fill_nil <| And.intro @fill_int <| And.intro @fill_bool <| And.intro @fill_ptr <| And.intro @fill_slice <| And.intro @fill_str <| And.intro @fill_agg <| And.intro @made_one <| And.intro @tl_arr <| And.intro @l_cons <| And.intro @l_nil <| And.intro @r_succ <| And.intro @r_zero <| And.intro @t_zero <| And.intro @t_succ <| And.intro @d_zero <| And.intro @d_succ <| And.intro @c_app <| @n_app
end Go.Lft
