/- Lemmas and walks that the proof of SetpointBests uses. No statement is claimed here. -/
import Derived.Test.YtcppaddgclkekaaGreatSetpointBestsZad
import Derived.Laws.Bits64
namespace Go.Lft
open Go
set_option linter.unusedVariables false
def ob{α β:Type}(x:Option α)(f:α→Option β):Option β:=x.bind f
def bw{α:Type}(x:Option α)(k:α→Prop):Prop:=∃v,x=some v∧k v
def iw(x:Option Value)(K:Bool→Prop):Prop:=∃t,x=some (.bool t)∧K t
def ib(t:Bool)(K:Bool→Prop):Prop:=K t
def sq(P:Program)(b:S)(Q:Ex→List Value→Heap→Prop):Ex→List Value→Heap→Prop:=fun x e h=>match x with | .nxt=>b.wp P Q e h|x=>Q x e h
def bk(id:Nat)(Q:Ex→List Value→Heap→Prop):Ex→List Value→Heap→Prop:=fun x e h=>match x with | .exit i=>if i=id then Q .nxt e h else Q (.exit i) e h|x=>Q x e h
def lp(I:List Value→Heap→Prop)(m:List Value→Heap→Nat)(n:Nat)(Q:Ex→List Value→Heap→Prop):Ex→List Value→Heap→Prop:=fun x e h=>match x with | .nxt=>I e h∧m e h<n|x=>Q x e h
section
variable (P:Program) (Q:Ex→List Value→Heap→Prop) (e:List Value) (h:Heap) (d:Option Nat) (k:S)
end
theorem Q7{α β:Type}{x y:Option α}{f:α→Option β}(h:x=y):ob x f=ob y f:=by rw[h]
theorem Q8{α:Type}{x y:Option α}{k:α→Prop}(h:x=y):bw x k=bw y k:=by rw[h]
theorem Q9{x y:Bool}{K:Bool→Prop}(h:x=y):ib x K=ib y K:=by rw[h]
@[simp] theorem xy4 {α β:Type} (x:α) (f:α→Option β):ob (some x) f=f x:=rfl
@[simp] theorem xy5 {α β:Type} (f:α→Option β):ob none f=none:=rfl
@[simp] theorem y86 {α:Type} (x:α) (k:α→Prop):bw (some x) k=k x:=by
 unfold bw;simp
@[simp] theorem xy6 (t:Bool) (K:Bool→Prop):iw (some (.bool t)) K=ib t K:=by
 unfold iw ib;simp
@[simp] theorem xy7 (K:Bool→Prop):ib true K=K true:=rfl
@[simp] theorem xv4 (K:Bool→Prop):ib false K=K false:=rfl
theorem xe2{p:Prop}[Decidable p]{K:Bool→Prop}(h:p):ib (decide p) K=K true:=by simp [ib,h]
theorem xe3{p:Prop}[Decidable p]{K:Bool→Prop}(h:¬p):ib (decide p) K=K false:=by simp [ib,h]
theorem xe4[Decidable True]:decide True=true:=by simp
theorem xe5[Decidable False]:decide False=false:=by simp
theorem tand(p:Bool):(true && p)=p:=by simp
theorem andt(p:Bool):(p && true)=p:=by simp
theorem fand(p:Bool):(false && p)=false:=by simp
theorem andf(p:Bool):(p && false)=false:=by simp
theorem tor(p:Bool):(true || p)=true:=by simp
theorem ort(p:Bool):(p || true)=true:=by simp
theorem for_(p:Bool):(false || p)=p:=by simp
theorem orf(p:Bool):(p || false)=p:=by simp
theorem xe6:(!true)=false:=rfl
theorem xe7:(!false)=true:=rfl
theorem bnf(b:Bool):(b != false)=b:=by simp
theorem bnt(b:Bool):(b != true)=!b:=by simp
theorem tb(b:Bool):(true == b)=b:=by simp
theorem fb(b:Bool):(false == b)=!b:=by simp
theorem bt(b:Bool):(b == true)=b:=by simp
theorem bf(b:Bool):(b == false)=!b:=by simp
theorem y6R{p q:Prop}[Decidable p][Decidable q]:(decide p || decide q)=decide (p∨q):=by simp
theorem y1H{p q:Prop}[Decidable p][Decidable q]:(decide p && decide q)=decide (p∧q):=by simp
theorem y1I{p:Prop}[Decidable p]:(!decide p)=decide (¬p):=by simp
theorem y2{p:Prop}[Decidable p]{K:Bool→Prop}(h1:p→K true)(h2:¬p→K false):ib (decide p) K:=by
 unfold ib;by_cases h:p
 ·simp only[h,decide_true];exact h1 h
 ·simp only[h,decide_false];exact h2 h
theorem z7J{t:Bool}{K:Bool→Prop}(h1:t=true→K true)(h2:t=false→K false):ib t K:=by
 cases t
 ·exact h2 rfl
 ·exact h1 rfl
@[simp] theorem xA6 (P:Program) (b:S) (Q:Ex→List Value→Heap→Prop) (e:List Value) (h:Heap):sq P b Q .nxt e h=b.wp P Q e h:=rfl
@[simp] theorem xy8 (P:Program) (b:S) (Q:Ex→List Value→Heap→Prop) (i:Nat) (e:List Value) (h:Heap):sq P b Q (.exit i) e h=Q (.exit i) e h:=rfl
@[simp] theorem xA7 (P:Program) (b:S) (Q:Ex→List Value→Heap→Prop) (e:List Value) (h:Heap):sq P b Q .ret e h=Q .ret e h:=rfl
@[simp] theorem xA8 (id:Nat) (Q:Ex→List Value→Heap→Prop) (e:List Value) (h:Heap):bk id Q .nxt e h=Q .nxt e h:=rfl
@[simp] theorem xA9 (id:Nat) (Q:Ex→List Value→Heap→Prop) (e:List Value) (h:Heap):bk id Q .ret e h=Q .ret e h:=rfl
theorem y87(id:Nat)(Q:Ex→List Value→Heap→Prop)(i:Nat)(e:List Value)(h:Heap):bk id Q (.exit i) e h=if i=id then Q .nxt e h else Q (.exit i) e h:=rfl
@[simp] theorem xy9 (id:Nat) (Q:Ex→List Value→Heap→Prop) (e:List Value) (h:Heap):bk id Q (.exit id) e h=Q .nxt e h:=by simp [y87]
@[simp] theorem xB0 (I:List Value→Heap→Prop) (m:List Value→Heap→Nat) (n:Nat) (Q:Ex→List Value→Heap→Prop) (e:List Value) (h:Heap):lp I m n Q .nxt e h=(I e h∧m e h<n):=rfl
@[simp] theorem xz0 (I:List Value→Heap→Prop) (m:List Value→Heap→Nat) (n:Nat) (Q:Ex→List Value→Heap→Prop) (i:Nat) (e:List Value) (h:Heap):lp I m n Q (.exit i) e h=Q (.exit i) e h:=rfl
@[simp] theorem xB1 (I:List Value→Heap→Prop) (m:List Value→Heap→Nat) (n:Nat) (Q:Ex→List Value→Heap→Prop) (e:List Value) (h:Heap):lp I m n Q .ret e h=Q .ret e h:=rfl
section
variable {P:Program} {Q:Ex→List Value→Heap→Prop} {e:List Value} {h:Heap}
section
variable {P:Program} {Q:Ex→List Value→Heap→Prop} {e:List Value} {h:Heap} {d:Option Nat} {k:S}
end
section
variable {P:Program} {Q:Ex→List Value→Heap→Prop} {e:List Value} {h:Heap}
end
def itx(x:Option Value)(A B:Option Value):Option Value:=x.bind fun v=>match v with | .bool true=>A | .bool false=>B|_=>none
@[simp] theorem xv5 (A B:Option Value):itx (some (.bool true)) A B=A:=rfl
@[simp] theorem xe8 (A B:Option Value):itx (some (.bool false)) A B=B:=rfl
theorem xz1(k:IntKind)(a b:Int):k2v (.bin .eql) (.int k a) (.int k b)=some (.bool (decide (a=b))):=by
 have:k2v (.bin .eql) (.int k a) (.int k b)=some (.bool (a == b)):=by cases k<;>rfl
 rw[this];congr 2
theorem xz2(k:IntKind)(a b:Int):k2v (.bin .neq) (.int k a) (.int k b)=some (.bool (decide (a≠b))):=by
 have:k2v (.bin .neq) (.int k a) (.int k b)=some (.bool (a != b)):=by cases k<;>rfl
 rw[this];congr 2
 by_cases hab:a=b<;>simp [hab,bne]
theorem xz3(k:IntKind)(a b:Int)(hb:b≠0):k2v (.bin .quo) (.int k a) (.int k b)=some (.int k (k.wrap (a.tdiv b))):=by
 cases k<;>simp [k2v,binOp,Op.intDiv,hb,z24]<;>rfl
theorem xz4(k:IntKind)(a b:Int)(hb:b≠0):k2v (.bin .rem) (.int k a) (.int k b)=some (.int k (a.tmod b)):=by
 cases k<;>simp [k2v,binOp,Op.intDiv,hb,z24]<;>rfl
theorem yG6{n:Int}(h1:-9223372036854775808≤n)(h2:n≤9223372036854775807):IntKind.wrap .i64 n=n:=by
 rw[IntKind.wrap_i64];omega
theorem zj8{n:Int}(h1:0≤n)(h2:n≤18446744073709551615):IntKind.wrap .u64 n=n:=by
 simp [IntKind.wrap,IntKind.bits,IntKind.signed];omega
theorem yN6{a b:Int}(h1:0≤a):a.tdiv b=a / b:=Int.tdiv_eq_ediv_of_nonneg h1
theorem yN7{a b:Int}(h1:0≤a):a.tmod b=a % b:=Int.tmod_eq_emod_of_nonneg h1
theorem xe9(k:IntKind)(a b:Int):k2v .mx (.int k a) (.int k b)=some (.int k (max a b)):=by
 simp only[k2v,if_true];congr 2;split<;>omega
theorem xf0(k:IntKind)(a b:Int):k2v .mn (.int k a) (.int k b)=some (.int k (min a b)):=by
 simp only[k2v,if_true];congr 2;split<;>omega
end
theorem y1J(v:Value)(l:List Value):(v :: l).length=l.length+1:=rfl
theorem y88:([]:List Value).length=0:=rfl
theorem y6S(v:Value)(n:Nat):List.replicate (n+1) v=v :: List.replicate n v:=rfl
theorem y6T(v:Value):List.replicate 0 v=[]:=rfl
theorem y6U(l:List Value):l.take 0=[]:=rfl
theorem y6V(v:Value)(l:List Value)(n:Nat):(v :: l).take (n+1)=v :: l.take n:=rfl
theorem y6W(l:List Value):l.drop 0=l:=rfl
theorem y6X(v:Value)(l:List Value)(n:Nat):(v :: l).drop (n+1)=l.drop n:=rfl
theorem xf1(v:Value)(l m:List Value):(v :: l)++m=v :: (l++m):=rfl
theorem xf2(m:List Value):([]:List Value)++m=m:=rfl
theorem y6Y{α:Type}[Decidable True](a b:α):(if True then a else b)=a:=if_pos trivial
theorem y1K{α:Type}[Decidable False](a b:α):(if False then a else b)=b:=if_neg id
theorem xf3{α:Type}{p:Prop}[Decidable p](a b:α)(h:p):(if p then a else b)=a:=if_pos h
theorem xf4{α:Type}{p:Prop}[Decidable p](a b:α)(h:¬p):(if p then a else b)=b:=if_neg h
theorem y6Z(k:IntKind)(n:Int):(Value.int k n).cells=#[.int k n]:=rfl
theorem y1L(b:Bool):(Value.bool b).cells=#[.bool b]:=rfl
theorem y60(a:Option Addr):(Value.pointer a).cells=#[.pointer a]:=rfl
theorem yN8(a:Option Addr)(n c:Nat):(Value.slice a n c).cells=#[.slice a n c]:=rfl
theorem y61(s:ByteArray):(Value.string s).cells=#[.string s]:=rfl
theorem y1M(cs:Array Value):(Value.agg cs).cells=cs:=rfl
theorem y62(v:Value):(#[v]:Array Value).size=1:=rfl
theorem y1N(l:List Value):l.toArray.size=l.length:=rfl
theorem yN9(c:Array Value):zr9 c []=some c:=rfl
theorem z28{v:Value}(hv:v.cells=#[v])(l:List Value)(off:Nat)(r:List (Nat×Value)):zr9 l.toArray ((off,v) :: r)=if off<l.length then zr9 (l.set off v).toArray r else none:=by
 simp only[zr9,hv,List.size_toArray,y1J,y88]
 by_cases h:off<l.length
 ·rw[if_pos (by omega),if_pos h]
  simp [zD1]
 ·rw[if_neg (by omega),if_neg h]
theorem yO0(k:IntKind)(n:Int)(l:List Value)(off:Nat)(r:List (Nat×Value)):zr9 l.toArray ((off,.int k n) :: r)=if off<l.length then zr9 (l.set off (.int k n)).toArray r else none:=z28 rfl l off r
theorem yu0(b:Bool)(l:List Value)(off:Nat)(r:List (Nat×Value)):zr9 l.toArray ((off,.bool b) :: r)=if off<l.length then zr9 (l.set off (.bool b)).toArray r else none:=z28 rfl l off r
theorem yO1(a:Option Addr)(l:List Value)(off:Nat)(r:List (Nat×Value)):zr9 l.toArray ((off,.pointer a) :: r)=if off<l.length then zr9 (l.set off (.pointer a)).toArray r else none:=z28 rfl l off r
theorem yg6(a:Option Addr)(n c:Nat)(l:List Value)(off:Nat)(r:List (Nat×Value)):zr9 l.toArray ((off,.slice a n c) :: r)=if off<l.length then zr9 (l.set off (.slice a n c)).toArray r else none:=z28 rfl l off r
theorem yO2(s:ByteArray)(l:List Value)(off:Nat)(r:List (Nat×Value)):zr9 l.toArray ((off,.string s) :: r)=if off<l.length then zr9 (l.set off (.string s)).toArray r else none:=z28 rfl l off r
theorem yO3(cs:List Value)(l:List Value)(off:Nat)(r:List (Nat×Value)):zr9 l.toArray ((off,.agg cs.toArray) :: r)=if off+cs.length≤l.length then zr9 (l.take off++cs++l.drop (off+cs.length)).toArray r else none:=by
 simp only[zr9,y1M,List.size_toArray]
 split
 ·rename_i h
  congr 1
  apply Array.ext'
  apply List.ext_getElem?
  intro i
  rw[Array.getElem?_toList,z5b _ _ _ _ (by simpa using h)]
  simp only[List.getElem?_toArray]
  have hl:(l.take off).length=off:=by simp;omega
  by_cases h1:off≤i
  ·by_cases h2:i<off+cs.length
   ·rw[if_pos ⟨h1,h2⟩,List.append_assoc,List.getElem?_append_right (by omega),hl,List.getElem?_append_left (by omega)]
   ·rw[if_neg (by omega),List.getElem?_append_right (by simp;omega)]
    simp
    congr 1
    omega
  ·rw[if_neg (by omega),List.append_assoc,List.getElem?_append_left (by omega)]
   simp [List.getElem?_take]
   omega
 ·rfl
theorem yO4(v:Value)(n:Nat):madeCells [v].toArray n=(List.replicate n v).toArray:=by
 apply Array.ext'
 apply List.ext_getElem?
 intro i
 by_cases hi:i<n
 ·simp [madeCells,hi,Nat.mod_one]
 ·simp [madeCells,hi]
theorem y63(l:List Value):l.toArray.toList=l:=rfl
theorem nm1(n:Nat):n*1=n:=Nat.mul_one n
theorem n1m(n:Nat):1*n=n:=Nat.one_mul n
theorem n0m(n:Nat):0*n=0:=Nat.zero_mul n
theorem n0a(n:Nat):0+n=n:=Nat.zero_add n
theorem na0(n:Nat):n+0=n:=rfl
theorem ns0(n:Nat):n-0=n:=rfl
theorem tnat(n:Nat):(n:Int).toNat=n:=rfl
theorem xf5:(0:Int).toNat=0:=rfl
section
variable {e:List Value} {h:Heap}
end
theorem exB:type_of% (ai9 @xf3<|ai9 @xf4<|ai9 @y6Y<|ai9 @y1K<|ai9 @y6Z<|ai9 @y1L<|ai9 @y60<|ai9 @yN8<|ai9 @y61<|ai9 @y1M<|ai9 @y62<|ai9 @y1N<|ai9 @yN9<|ai9 @yO0<|ai9 @yu0<|ai9 @yO1<|ai9 @yg6<|ai9 @yO2<|ai9 @yO3<|ai9 @yO4<|ai9 @y63<|ai9 @y1J<|ai9 @y88<|ai9 @y6S<|ai9 @y6T<|ai9 @y6U<|ai9 @y6V<|ai9 @y6W<|ai9 @y6X<|ai9 @xf1<|@xf2):=⟨@xf3,@xf4,@y6Y,@y1K,@y6Z,@y1L,@y60,@yN8,@y61,@y1M,@y62,@y1N,@yN9,@yO0,@yu0,@yO1,@yg6,@yO2,@yO3,@yO4,@y63,@y1J,@y88,@y6S,@y6T,@y6U,@y6V,@y6W,@y6X,@xf1,@xf2⟩
end Go.Lft
