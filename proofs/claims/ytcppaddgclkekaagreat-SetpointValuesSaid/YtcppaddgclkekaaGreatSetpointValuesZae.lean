/- Lemmas and walks that the proof of SetpointValues uses. No statement is claimed here. -/
import Derived.Test.YtcppaddgclkekaaGreatSetpointValuesZad
import Derived.Laws.Bits64
namespace Go.Lft
open Go
set_option linter.unusedVariables false
def ob{α β:Type}(x:Option α)(f:α→Option β):Option β:=x.bind f
def bw{α:Type}(x:Option α)(k:α→Prop):Prop:=∃v,x=some v∧k v
def iw(x:Option Value)(K:Bool→Prop):Prop:=∃t,x=some (.bool t)∧K t
def ib(t:Bool)(K:Bool→Prop):Prop:=K t
def sq(P:Program)(b:S)(Q:Ex→List Value→Heap→Prop):Ex→List Value→Heap→Prop:=fun x e h=>match x with | .nxt=>b.wp P Q e h|x=>Q x e h
def bk(id:Nat)(Q:Ex→List Value→Heap→Prop):Ex→List Value→Heap→Prop:=fun x e h=>match x with | .exit i=>if i=id then Q .nxt e h else Q (.exit i) e h|x=>Q x e h
def lp(I:List Value→Heap→Prop)(m:List Value→Heap→Nat)(n:Nat)(Q:Ex→List Value→Heap→Prop):Ex→List Value→Heap→Prop:=fun x e h=>match x with | .nxt=>I e h∧m e h<n|x=>Q x e h
section
variable (P:Program) (Q:Ex→List Value→Heap→Prop) (e:List Value) (h:Heap) (d:Option Nat) (k:S)
end
theorem Q5{α β:Type}{x y:Option α}{f:α→Option β}(h:x=y):ob x f=ob y f:=by rw[h]
theorem Q6{α:Type}{x y:Option α}{k:α→Prop}(h:x=y):bw x k=bw y k:=by rw[h]
theorem Q7{x y:Bool}{K:Bool→Prop}(h:x=y):ib x K=ib y K:=by rw[h]
@[simp] theorem xq9 {α β:Type} (x:α) (f:α→Option β):ob (some x) f=f x:=rfl
@[simp] theorem xr0 {α β:Type} (f:α→Option β):ob none f=none:=rfl
@[simp] theorem y7U {α:Type} (x:α) (k:α→Prop):bw (some x) k=k x:=by
 unfold bw;simp
@[simp] theorem xr1 (t:Bool) (K:Bool→Prop):iw (some (.bool t)) K=ib t K:=by
 unfold iw ib;simp
@[simp] theorem xr2 (K:Bool→Prop):ib true K=K true:=rfl
@[simp] theorem xn9 (K:Bool→Prop):ib false K=K false:=rfl
theorem y9E{p:Prop}[Decidable p]{K:Bool→Prop}(h:p):ib (decide p) K=K true:=by simp [ib,h]
theorem y9F{p:Prop}[Decidable p]{K:Bool→Prop}(h:¬p):ib (decide p) K=K false:=by simp [ib,h]
theorem y9G[Decidable True]:decide True=true:=by simp
theorem y9H[Decidable False]:decide False=false:=by simp
theorem tand(p:Bool):(true && p)=p:=by simp
theorem andt(p:Bool):(p && true)=p:=by simp
theorem fand(p:Bool):(false && p)=false:=by simp
theorem andf(p:Bool):(p && false)=false:=by simp
theorem tor(p:Bool):(true || p)=true:=by simp
theorem ort(p:Bool):(p || true)=true:=by simp
theorem for_(p:Bool):(false || p)=p:=by simp
theorem orf(p:Bool):(p || false)=p:=by simp
theorem y9I:(!true)=false:=rfl
theorem y9J:(!false)=true:=rfl
theorem bnf(b:Bool):(b != false)=b:=by simp
theorem bnt(b:Bool):(b != true)=!b:=by simp
theorem tb(b:Bool):(true == b)=b:=by simp
theorem fb(b:Bool):(false == b)=!b:=by simp
theorem bt(b:Bool):(b == true)=b:=by simp
theorem bf(b:Bool):(b == false)=!b:=by simp
theorem y5H{p q:Prop}[Decidable p][Decidable q]:(decide p || decide q)=decide (p∨q):=by simp
theorem y0D{p q:Prop}[Decidable p][Decidable q]:(decide p && decide q)=decide (p∧q):=by simp
theorem y0E{p:Prop}[Decidable p]:(!decide p)=decide (¬p):=by simp
theorem y1{p:Prop}[Decidable p]{K:Bool→Prop}(h1:p→K true)(h2:¬p→K false):ib (decide p) K:=by
 unfold ib;by_cases h:p
 ·simp only[h,decide_true];exact h1 h
 ·simp only[h,decide_false];exact h2 h
theorem z68{t:Bool}{K:Bool→Prop}(h1:t=true→K true)(h2:t=false→K false):ib t K:=by
 cases t
 ·exact h2 rfl
 ·exact h1 rfl
@[simp] theorem xt0 (P:Program) (b:S) (Q:Ex→List Value→Heap→Prop) (e:List Value) (h:Heap):sq P b Q .nxt e h=b.wp P Q e h:=rfl
@[simp] theorem xr3 (P:Program) (b:S) (Q:Ex→List Value→Heap→Prop) (i:Nat) (e:List Value) (h:Heap):sq P b Q (.exit i) e h=Q (.exit i) e h:=rfl
@[simp] theorem xt1 (P:Program) (b:S) (Q:Ex→List Value→Heap→Prop) (e:List Value) (h:Heap):sq P b Q .ret e h=Q .ret e h:=rfl
@[simp] theorem xt2 (id:Nat) (Q:Ex→List Value→Heap→Prop) (e:List Value) (h:Heap):bk id Q .nxt e h=Q .nxt e h:=rfl
@[simp] theorem xt3 (id:Nat) (Q:Ex→List Value→Heap→Prop) (e:List Value) (h:Heap):bk id Q .ret e h=Q .ret e h:=rfl
theorem y7V(id:Nat)(Q:Ex→List Value→Heap→Prop)(i:Nat)(e:List Value)(h:Heap):bk id Q (.exit i) e h=if i=id then Q .nxt e h else Q (.exit i) e h:=rfl
@[simp] theorem xr4 (id:Nat) (Q:Ex→List Value→Heap→Prop) (e:List Value) (h:Heap):bk id Q (.exit id) e h=Q .nxt e h:=by simp [y7V]
@[simp] theorem xt4 (I:List Value→Heap→Prop) (m:List Value→Heap→Nat) (n:Nat) (Q:Ex→List Value→Heap→Prop) (e:List Value) (h:Heap):lp I m n Q .nxt e h=(I e h∧m e h<n):=rfl
@[simp] theorem xr5 (I:List Value→Heap→Prop) (m:List Value→Heap→Nat) (n:Nat) (Q:Ex→List Value→Heap→Prop) (i:Nat) (e:List Value) (h:Heap):lp I m n Q (.exit i) e h=Q (.exit i) e h:=rfl
@[simp] theorem xt5 (I:List Value→Heap→Prop) (m:List Value→Heap→Nat) (n:Nat) (Q:Ex→List Value→Heap→Prop) (e:List Value) (h:Heap):lp I m n Q .ret e h=Q .ret e h:=rfl
section
variable {P:Program} {Q:Ex→List Value→Heap→Prop} {e:List Value} {h:Heap}
section
variable {P:Program} {Q:Ex→List Value→Heap→Prop} {e:List Value} {h:Heap} {d:Option Nat} {k:S}
end
section
variable {P:Program} {Q:Ex→List Value→Heap→Prop} {e:List Value} {h:Heap}
end
def itx(x:Option Value)(A B:Option Value):Option Value:=x.bind fun v=>match v with | .bool true=>A | .bool false=>B|_=>none
@[simp] theorem xo0 (A B:Option Value):itx (some (.bool true)) A B=A:=rfl
@[simp] theorem y9K (A B:Option Value):itx (some (.bool false)) A B=B:=rfl
theorem xr6(k:IntKind)(a b:Int):k2v (.bin .eql) (.int k a) (.int k b)=some (.bool (decide (a=b))):=by
 have:k2v (.bin .eql) (.int k a) (.int k b)=some (.bool (a == b)):=by cases k<;>rfl
 rw[this];congr 2
theorem xr7(k:IntKind)(a b:Int):k2v (.bin .neq) (.int k a) (.int k b)=some (.bool (decide (a≠b))):=by
 have:k2v (.bin .neq) (.int k a) (.int k b)=some (.bool (a != b)):=by cases k<;>rfl
 rw[this];congr 2
 by_cases hab:a=b<;>simp [hab,bne]
theorem xr8(k:IntKind)(a b:Int)(hb:b≠0):k2v (.bin .quo) (.int k a) (.int k b)=some (.int k (k.wrap (a.tdiv b))):=by
 cases k<;>simp [k2v,binOp,Op.intDiv,hb,z2E]<;>rfl
theorem xr9(k:IntKind)(a b:Int)(hb:b≠0):k2v (.bin .rem) (.int k a) (.int k b)=some (.int k (a.tmod b)):=by
 cases k<;>simp [k2v,binOp,Op.intDiv,hb,z2E]<;>rfl
theorem yA7{n:Int}(h1:-9223372036854775808≤n)(h2:n≤9223372036854775807):IntKind.wrap .i64 n=n:=by
 rw[IntKind.wrap_i64];omega
theorem zi3{n:Int}(h1:0≤n)(h2:n≤18446744073709551615):IntKind.wrap .u64 n=n:=by
 simp [IntKind.wrap,IntKind.bits,IntKind.signed];omega
theorem yH4{a b:Int}(h1:0≤a):a.tdiv b=a / b:=Int.tdiv_eq_ediv_of_nonneg h1
theorem yH5{a b:Int}(h1:0≤a):a.tmod b=a % b:=Int.tmod_eq_emod_of_nonneg h1
theorem y9L(k:IntKind)(a b:Int):k2v .mx (.int k a) (.int k b)=some (.int k (max a b)):=by
 simp only[k2v,if_true];congr 2;split<;>omega
theorem y9M(k:IntKind)(a b:Int):k2v .mn (.int k a) (.int k b)=some (.int k (min a b)):=by
 simp only[k2v,if_true];congr 2;split<;>omega
end
theorem y0F(v:Value)(l:List Value):(v :: l).length=l.length+1:=rfl
theorem y7W:([]:List Value).length=0:=rfl
theorem y5I(v:Value)(n:Nat):List.replicate (n+1) v=v :: List.replicate n v:=rfl
theorem y5J(v:Value):List.replicate 0 v=[]:=rfl
theorem y5K(l:List Value):l.take 0=[]:=rfl
theorem y5L(v:Value)(l:List Value)(n:Nat):(v :: l).take (n+1)=v :: l.take n:=rfl
theorem y5M(l:List Value):l.drop 0=l:=rfl
theorem y5N(v:Value)(l:List Value)(n:Nat):(v :: l).drop (n+1)=l.drop n:=rfl
theorem y9N(v:Value)(l m:List Value):(v :: l)++m=v :: (l++m):=rfl
theorem y9O(m:List Value):([]:List Value)++m=m:=rfl
theorem y5O{α:Type}[Decidable True](a b:α):(if True then a else b)=a:=if_pos trivial
theorem y0G{α:Type}[Decidable False](a b:α):(if False then a else b)=b:=if_neg id
theorem y9P{α:Type}{p:Prop}[Decidable p](a b:α)(h:p):(if p then a else b)=a:=if_pos h
theorem y9Q{α:Type}{p:Prop}[Decidable p](a b:α)(h:¬p):(if p then a else b)=b:=if_neg h
theorem y5P(k:IntKind)(n:Int):(Value.int k n).cells=#[.int k n]:=rfl
theorem y0H(b:Bool):(Value.bool b).cells=#[.bool b]:=rfl
theorem y5Q(a:Option Addr):(Value.pointer a).cells=#[.pointer a]:=rfl
theorem yH6(a:Option Addr)(n c:Nat):(Value.slice a n c).cells=#[.slice a n c]:=rfl
theorem y5R(s:ByteArray):(Value.string s).cells=#[.string s]:=rfl
theorem y0I(cs:Array Value):(Value.agg cs).cells=cs:=rfl
theorem y5S(v:Value):(#[v]:Array Value).size=1:=rfl
theorem y0J(l:List Value):l.toArray.size=l.length:=rfl
theorem yH7(c:Array Value):zq6 c []=some c:=rfl
theorem z2I{v:Value}(hv:v.cells=#[v])(l:List Value)(off:Nat)(r:List (Nat×Value)):zq6 l.toArray ((off,v) :: r)=if off<l.length then zq6 (l.set off v).toArray r else none:=by
 simp only[zq6,hv,List.size_toArray,y0F,y7W]
 by_cases h:off<l.length
 ·rw[if_pos (by omega),if_pos h]
  simp [zB4]
 ·rw[if_neg (by omega),if_neg h]
theorem yH8(k:IntKind)(n:Int)(l:List Value)(off:Nat)(r:List (Nat×Value)):zq6 l.toArray ((off,.int k n) :: r)=if off<l.length then zq6 (l.set off (.int k n)).toArray r else none:=z2I rfl l off r
theorem yo8(b:Bool)(l:List Value)(off:Nat)(r:List (Nat×Value)):zq6 l.toArray ((off,.bool b) :: r)=if off<l.length then zq6 (l.set off (.bool b)).toArray r else none:=z2I rfl l off r
theorem yH9(a:Option Addr)(l:List Value)(off:Nat)(r:List (Nat×Value)):zq6 l.toArray ((off,.pointer a) :: r)=if off<l.length then zq6 (l.set off (.pointer a)).toArray r else none:=z2I rfl l off r
theorem yb5(a:Option Addr)(n c:Nat)(l:List Value)(off:Nat)(r:List (Nat×Value)):zq6 l.toArray ((off,.slice a n c) :: r)=if off<l.length then zq6 (l.set off (.slice a n c)).toArray r else none:=z2I rfl l off r
theorem yI0(s:ByteArray)(l:List Value)(off:Nat)(r:List (Nat×Value)):zq6 l.toArray ((off,.string s) :: r)=if off<l.length then zq6 (l.set off (.string s)).toArray r else none:=z2I rfl l off r
theorem yI1(cs:List Value)(l:List Value)(off:Nat)(r:List (Nat×Value)):zq6 l.toArray ((off,.agg cs.toArray) :: r)=if off+cs.length≤l.length then zq6 (l.take off++cs++l.drop (off+cs.length)).toArray r else none:=by
 simp only[zq6,y0I,List.size_toArray]
 split
 ·rename_i h
  congr 1
  apply Array.ext'
  apply List.ext_getElem?
  intro i
  rw[Array.getElem?_toList,z4G _ _ _ _ (by simpa using h)]
  simp only[List.getElem?_toArray]
  have hl:(l.take off).length=off:=by simp;omega
  by_cases h1:off≤i
  ·by_cases h2:i<off+cs.length
   ·rw[if_pos ⟨h1,h2⟩,List.append_assoc,List.getElem?_append_right (by omega),hl,List.getElem?_append_left (by omega)]
   ·rw[if_neg (by omega),List.getElem?_append_right (by simp;omega)]
    simp
    congr 1
    omega
  ·rw[if_neg (by omega),List.append_assoc,List.getElem?_append_left (by omega)]
   simp [List.getElem?_take]
   omega
 ·rfl
theorem yI2(v:Value)(n:Nat):madeCells [v].toArray n=(List.replicate n v).toArray:=by
 apply Array.ext'
 apply List.ext_getElem?
 intro i
 by_cases hi:i<n
 ·simp [madeCells,hi,Nat.mod_one]
 ·simp [madeCells,hi]
theorem y5T(l:List Value):l.toArray.toList=l:=rfl
theorem nm1(n:Nat):n*1=n:=Nat.mul_one n
theorem n1m(n:Nat):1*n=n:=Nat.one_mul n
theorem n0m(n:Nat):0*n=0:=Nat.zero_mul n
theorem n0a(n:Nat):0+n=n:=Nat.zero_add n
theorem na0(n:Nat):n+0=n:=rfl
theorem ns0(n:Nat):n-0=n:=rfl
theorem tnat(n:Nat):(n:Int).toNat=n:=rfl
theorem y9R:(0:Int).toNat=0:=rfl
section
variable {e:List Value} {h:Heap}
end
theorem exB:type_of% (ai9 @y9P<|ai9 @y9Q<|ai9 @y5O<|ai9 @y0G<|ai9 @y5P<|ai9 @y0H<|ai9 @y5Q<|ai9 @yH6<|ai9 @y5R<|ai9 @y0I<|ai9 @y5S<|ai9 @y0J<|ai9 @yH7<|ai9 @yH8<|ai9 @yo8<|ai9 @yH9<|ai9 @yb5<|ai9 @yI0<|ai9 @yI1<|ai9 @yI2<|ai9 @y5T<|ai9 @y0F<|ai9 @y7W<|ai9 @y5I<|ai9 @y5J<|ai9 @y5K<|ai9 @y5L<|ai9 @y5M<|ai9 @y5N<|ai9 @y9N<|@y9O):=⟨@y9P,@y9Q,@y5O,@y0G,@y5P,@y0H,@y5Q,@yH6,@y5R,@y0I,@y5S,@y0J,@yH7,@yH8,@yo8,@yH9,@yb5,@yI0,@yI1,@yI2,@y5T,@y0F,@y7W,@y5I,@y5J,@y5K,@y5L,@y5M,@y5N,@y9N,@y9O⟩
end Go.Lft
