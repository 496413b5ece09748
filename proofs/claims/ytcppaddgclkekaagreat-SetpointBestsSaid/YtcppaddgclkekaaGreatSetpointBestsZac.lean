/- Lemmas and walks that the proof of SetpointBests uses. No statement is claimed here. -/
import Derived.Test.YtcppaddgclkekaaGreatSetpointBestsZab
import Derived.Laws.Small
import Derived.Laws.Pointers
import Derived.Laws.StructEq
namespace Go.Lft
open Go
abbrev Tr:=Operand→Option X
def kdOf:Op→Nat
 | .load ..=>1
 | .alloc _ | .box .. | .makeSlice .. | .buildSlice ..=>3
 | .store ..=>4
 | .move _ | .assign _ | .pick .. | .nilCheck _ | .binOp .. | .unOp .. | .convert .. | .fieldAddr .. | .indexAddr .. | .field .. | .index .. | .extract .. | .slice .. | .makeFunc .. | .build ..=>0
 | .call {callee:=.builtin .len,..}=>0
 | .call {callee:=.builtin .max,..}=>0
 | .call {callee:=.builtin .min,..}=>0
 | _=>2
def z5c(P:Program):List Field→Option (List (Nat×Nat))
 | []=>some []
 | f :: r=>(zg3 P f.type).bind fun n=>(z5c P r).map fun l=>(f.offset,n) :: l
def z57(tr:Tr)(place:Nat→Option (Nat×Nat)):List (Nat×Operand)→Option X
 | []=>some .nl
 | (i,x) :: r=>(place i).bind fun p=>(tr x).bind fun a=>(z57 tr place r).map fun l=>.pl p.1 p.2 a l
def yG1(tr:Tr):List Operand→Option X
 | []=>some .nl
 | x :: r=>(tr x).bind fun a=>(yG1 tr r).map fun l=>.cn a l
def optX(tr:Tr)(d:X):Option Operand→Option X
 | none=>some d
 | some x=>tr x
def y1w(P:Program):Nat→List Field→Bool
 | _,[]=>true
 | i, f :: r => decide (f.name ≠ "_") && f.offset == i && (match P.underlying f.type with | some (.int _) => true | _ => false) && (match aggT P f.type with | some false => true | _ => false) && y1w P (i + 1) r
def eqOk(P:Program)(t:TypeId):Bool:=!P.stoodInHeld t && !P.eqGuardType P.depth t
def opX(P:Program)(tr:Tr):Op→Option X
 | .move x=>tr x
 | .assign x=>tr x
 | .nilCheck x=>(tr x).map (.u .nilc)
 | .binOp op t x y _=>(tr x).bind fun a=>(tr y).bind fun c =>
  match P.underlying t with
  | some (.int _)=>some (.b (.bin op) a c)
  | some .bool=>(match op with | .eql=>some (.b (.eqb false) a c) | .neq=>some (.b (.eqb true) a c)|_=>none)
  | some (.pointer _)=>(match op with | .eql=>some (.b (.eqp false) a c) | .neq=>some (.b (.eqp true) a c)|_=>none)
  | some (.slice _)=>(match op with | .eql=>some (.b (.eqs false) a c) | .neq=>some (.b (.eqs true) a c)|_=>none)
  | some (.func _ _ _)=>(match op with | .eql=>some (.b (.eqf false) a c) | .neq=>some (.b (.eqf true) a c)|_=>none)
  | some (.struct fields)=>if y1w P 0 fields.toList && eqOk P t then(match op with | .eql=>some (.b (.eqi fields.size false) a c) | .neq=>some (.b (.eqi fields.size true) a c)|_=>none)else none
  | _=>none
 | .unOp op _ x=>(tr x).map (.u (.un op))
 | .convert src dst x=>(tr x).bind fun a =>
  match P.underlying src,P.underlying dst with
  | some (.int _),some (.int k)=>some (.u (.conv k) a)
  | _,_=>none
 | .fieldAddr s x f=>(tr x).bind fun a =>
  match P.underlying s with
  | some (.struct fields)=>(fields[f]?).bind fun fd=>(zg3 P fd.type).bind fun n=>if n=0 then none else some (.u (.fld fd.offset) a)
  | _=>none
 | .indexAddr t x i=>(tr x).bind fun a=>(tr i).bind fun c =>
  match P.underlying t with
  | some (.slice el)=>(zg3 P el).map fun n=>.b (.idx n) a c
  | some (.array len el)=>(zg3 P el).map fun n=>.b (.idxa len n) a c
  | _=>none
 | .load t x=>(tr x).bind fun a=>(aggT P t).bind fun g=>if g then(zg3 P t).map fun n=>.u (.lda n) a else some (.u .ld1 a)
 | .field t x f=>(tr x).bind fun a =>
  match P.underlying t with
  | some (.struct fields)=>(fields[f]?).bind fun fd=>(aggT P fd.type).bind fun g=>if g then(zg3 P fd.type).map fun n=>.u (.prta fd.offset n) a else some (.u (.prt fd.offset) a)
  | _=>none
 | .index t x i=>(tr x).bind fun a=>(tr i).bind fun c =>
  match P.underlying t with
  | some (.array len el)=>(zg3 P el).bind fun n=>(aggT P el).map fun g=>.b (.ixv len n g) a c
  | some .string=>some (.b .ixs a c)
  | _=>none
 | .extract x i=>(tr x).map (.u (.ext i))
 | .slice t x lo hi mx=>(tr x).bind fun a=>(optX tr (.lit (.int .i64 0)) lo).bind fun l =>
  match P.underlying t with
  | some (.slice el)=>(zg3 P el).bind fun n=>(optX tr (.u .len a) hi).bind fun u =>
   (match mx,hi with
    | none,_=>some (.slc none n a l u .nl)
    | some m,some _=>(tr m).map fun m=>.slc none n a l u m
    | _,_=>none)
  | some (.array len el)=>(zg3 P el).bind fun n=>(optX tr (.lit (.int .i64 len)) hi).bind fun u=>(match mx,hi with|none,_=>some (.slc (some len) n a l u .nl)|some m,some _=>(tr m).map fun m=>.slc (some len) n a l u m|_,_=>none)
  | _=>none
 | .call {callee:=.builtin .len,args,argTypes} =>
  (match args.toList,argTypes.toList with
   | [x],[t]=>(match P.underlying t with|some (.slice _)=>(tr x).map (.u .len)|some (.array n _)=>some (.lit (.int .i64 n))|_=>none)
   | _,_=>none)
 | .call {callee:=.builtin .max,args,..}=>(match args.toList with | [x,y]=>(tr x).bind fun a=>(tr y).map fun c=>.b .mx a c|_=>none)
 | .call {callee:=.builtin .min,args,..}=>(match args.toList with | [x,y]=>(tr x).bind fun a=>(tr y).map fun c=>.b .mn a c|_=>none)
 | .makeFunc (.func f) first caps=>if first.isEmpty then(yG1 tr caps.toList).map (.fn f)else none
 | .build t parts=>(zZ2 P t).bind fun z =>
  match P.underlying t with
  | some (.struct fields)=>(z5c P fields.toList).bind fun ps=>(z57 tr (fun i=>ps[i]?) parts.toList).map fun l=>.bld z.cells.toList l
  | some (.array _ el)=>(zg3 P el).bind fun n=>(z57 tr (fun i=>some (i*n,n)) parts.toList).map fun l=>.bld z.cells.toList l
  | _=>none
 | _=>none
section
variable {P:Program}
theorem yt3(off:Nat):∀(vs:List Value) (k:Nat) (c:Array Value),(vs.zipIdx k).foldl (fun cs (x:Value×Nat)=>cs.setIfInBounds (off+x.2) x.1) c=zD1 c (off+k) vs
 | [],_,_=>rfl
 | v :: vs,k,c=>by
  simp only[List.zipIdx_cons,List.foldl_cons,zD1]
  exact yt3 off vs (k+1) _
theorem z04 {place : Nat → Option (Nat × Nat)} : ∀ (ps : List (Nat × Value)) (qs : List (Nat × Value)) (c c' : Array Value),
    List.length ps=List.length qs→(∀i (h1:i<ps.length) (h2:i<qs.length),place (ps[i].1)=some (qs[i].1,(qs[i].2).cells.size)∧ps[i].2=qs[i].2)→zr9 c qs=some c'→Instr.fill place c ps=some c'
  | [],[],c,c',_,_,h=>h
  | (i,v) :: ps,(off,u) :: qs,c,c',hl,hp,h=>by
    obtain⟨h1,h2⟩:=hp 0 (by simp) (by simp)
    simp at h1 h2
    subst h2
    simp only[zr9]at h
    split at h
    · rename_i hle
      simp only[Instr.fill,h1]
      rw[if_neg (by simp;omega)]
      have:=yt3 off v.cells.toList 0 c
      simp only[Nat.add_zero]at this
      rw[← Array.foldl_toList,Array.toList_zipIdx]
      rw[this]
      refine z04 ps qs _ _ (by simpa using hl) (fun j g1 g2=>?_) h
      have:=hp (j+1) (by simp;omega) (by simp;omega)
      simpa using this
    · cases h
  | [],_ :: _,_,_,hl,_,_=>by simp at hl
  | _ :: _,[],_,_,hl,_,_=>by simp at hl
variable {tr:Tr} {ρ:Operand→Value} {e:List Value} {h:Heap}
theorem zO6(hT:∀y z,tr y=some z→z.ev e h=some (ρ y)){place:Nat→Option (Nat×Nat)}:∀(parts:List (Nat×Operand)) (x:X) (qs:List (Nat×Value)),z57 tr place parts=some x→x.evp e h=some qs →
    parts.length=qs.length∧∀i (h1:i<parts.length) (h2:i<qs.length),place (parts[i].1)=some (qs[i].1,(qs[i].2).cells.size)∧ρ parts[i].2=qs[i].2
  | [],x,qs,hx,hq=>by
    simp only[z57,Option.some.injEq]at hx;subst hx
    simp [X.evp]at hq;subst hq
    exact⟨rfl,fun i h1=>by simp at h1⟩
  | (i,y) :: r,x,qs,hx,hq=>by
    simp only[z57,Option.bind_eq_some_iff,Option.map_eq_some_iff]at hx
    obtain⟨p,hp,a,ha,l,hl,rfl⟩:=hx
    simp only[X.evp,hT _ _ ha,Option.bind_some]at hq
    split at hq
    · rename_i hs
      simp only[Option.map_eq_some_iff]at hq
      obtain⟨xs,hxs,rfl⟩:=hq
      obtain⟨g1,g2⟩:=zO6 hT r l xs hl hxs
      refine⟨by simp [g1],fun j h1 h2=>?_⟩
      cases j with
      | zero=>simp [hp,hs]
      | succ j=>simpa using g2 j (by simpa using h1) (by simpa using h2)
    · cases hq
theorem z05(hT:∀y z,tr y=some z→z.ev e h=some (ρ y)):∀(l:List Operand) (x:X),yG1 tr l=some x→x.evs e h=some (l.map ρ)
 | [],x,hx=>by simp only[yG1,Option.some.injEq]at hx;subst hx;simp [X.evs]
 | y :: r,x,hx=>by
  simp only[yG1,Option.bind_eq_some_iff,Option.map_eq_some_iff]at hx
  obtain⟨a,ha,l,hl,rfl⟩:=hx
  simp [X.evs,hT _ _ ha,z05 hT r l hl]
theorem yg0:∀(fields:List Field) (ps:List (Nat×Nat)) (w:World),z5c P fields=some ps →
    (fields.mapM (fun f=>(do pure (f.offset,← sizeOf f.type):Sem (Nat×Nat)))).run P w=.ok ps w
  | [],ps,w,hp=>by simp [z5c]at hp;subst hp;simp
  | f :: r,ps,w,hp=>by
    simp only[z5c,Option.bind_eq_some_iff,Option.map_eq_some_iff]at hp
    obtain⟨n,hn,l,hl,rfl⟩:=hp
    have:=yg0 r l w hl
    simp at this
    simp [x7 hn,this]
theorem z58(op:BinOp)(t:TypeId)(x y:Operand)(a b:Bool)(w:World):(eqGuard op t x y (.bool a) (.bool b)).run P w=.ok () w:=by
 unfold eqGuard;cases op<;>rfl
theorem yG2(op:BinOp)(t:TypeId)(x y:Operand)(a b:Option Addr)(w:World):(eqGuard op t x y (.pointer a) (.pointer b)).run P w=.ok () w:=by
 unfold eqGuard;cases op<;>rfl
theorem y8U{t d:TypeId}{neg:Bool}{op:BinOp}(hop:op=if neg then .neq else .eql)(hu:P.underlying t=some (.pointer d)){x y v:Value}(hv:k2v (.eqp neg) x y=some v)(w:World):
    (binOp op t x y).run P w=.ok v w:=by
  have key:∀(n:Nat) (b:Bool) (x y:Value),((∃q,x=.pointer none∧y=.pointer q∧b=q.isNone)∨(∃q,x=.pointer (some q)∧y=.pointer none∧b=false))→(Op.equalIn (n+1) t x y).run P w=.ok b w:=by
    rintro n b x y (⟨q,rfl,rfl,rfl⟩|⟨q,rfl,rfl,rfl⟩)<;>simp [Op.equalIn,x8 hu]
  have key2:∃b,((∃q,x=.pointer none∧y=.pointer q∧b=q.isNone)∨(∃q,x=.pointer (some q)∧y=.pointer none∧b=false))∧v=.bool (b != neg):=by
    unfold k2v at hv
    split at hv<;>try (cases hv;done)
    all_goals (first|(rename_i hk;cases hk;done)|skip)
    · rename_i b hk;cases hk;simp at hv;exact⟨_,.inl ⟨_,rfl,rfl,rfl⟩,hv.symm⟩
    · rename_i a hk;cases hk;simp at hv;refine⟨_,.inr ⟨_,rfl,rfl,rfl⟩,?_⟩;rw[← hv];simp
  obtain⟨b,hb,rfl⟩:=key2
  have hk:=key 9999 b x y hb
  subst hop
  rcases hb with⟨q,rfl,rfl,rfl⟩|⟨q,rfl,rfl,rfl⟩<;>cases neg<;>simp [binOp,Op.equal,Op.maxDepth,hk]
end
section
variable {P:Program} {tr:Tr} {ρ:Operand→Value} {e:List Value} {h:Heap} {o:Oper} {v:Value} {w:World}
theorem ev_u{k:K1}{a:X}{y:Value}(hy:a.ev e h=some y)(hv:(X.u k a).ev e h=some v):k1v k y h=some v:=by simpa [X.ev,hy]using hv
theorem ev_b{k:K2}{a c:X}{y z:Value}(hy:a.ev e h=some y)(hz:c.ev e h=some z)(hv:(X.b k a c).ev e h=some v):k2v k y z=some v:=by simpa [X.ev,hy,hz]using hv
theorem xb7{x:Value}(hk:k1v .nilc x h=some v):(∃a,x=.pointer (some a)∧v=.pointer (some a))∨∃f p q,x=.func (.func f) p q∧v=.func (.func f) p q:=by
 cases x with
 | pointer a=>cases a<;>simp [k1v]at hk;exact .inl ⟨_,rfl,hk.symm⟩
 | func fn p q=>cases fn<;>simp [k1v]at hk;exact .inr ⟨_,_,_,rfl,hk.symm⟩
 | _=>simp [k1v]at hk
theorem i_un{op:UnOp}{x:Value}(hk:k1v (.un op) x h=some v):z24 (Op.unary op x)=some v:=by cases x<;>simpa [k1v]using hk
theorem xb8{x:Value}(hk:k1v .len x h=some v):∃a n c,x=.slice a n c∧v=.int .i64 n:=by
 cases x with
 | slice a n c=>simp [k1v]at hk;exact⟨_,_,_,rfl,hk.symm⟩
 | _=>simp [k1v]at hk
theorem xb9{k:IntKind}{x:Value}(hk:k1v (.conv k) x h=some v):∃k' n,x=.int k' n∧v=.int k (k.wrap n):=by
 cases x with
 | int k' n=>simp [k1v]at hk;exact⟨_,_,rfl,hk.symm⟩
 | _=>simp [k1v]at hk
theorem xv6{off:Nat}{x:Value}(hk:k1v (.fld off) x h=some v):∃b o,x=.pointer (some ⟨b,o,none⟩)∧v=.pointer (some ⟨b,o+off,none⟩):=by
 cases x with
 | pointer a =>
  rcases a with _|⟨b,o,_|s⟩<;>simp [k1v]at hk
  exact⟨_,_,rfl,hk.symm⟩
 | _=>simp [k1v]at hk
theorem y8V{x:Value}(hk:k1v .ld1 x h=some v):∃b o,x=.pointer (some ⟨b,o,none⟩)∧rd h b o 1=some [v]:=by
 cases x with
 | pointer a =>
  rcases a with _|⟨b,o,_|s⟩<;>simp only[k1v]at hk<;>try (cases hk;done)
  refine⟨_,_,rfl,?_⟩
  split at hk
  ·rename_i hr;cases hk;exact hr
  ·cases hk
 | _=>simp [k1v]at hk
theorem y8W{n:Nat}{x:Value}(hk:k1v (.lda n) x h=some v):∃b o vs,x=.pointer (some ⟨b,o,none⟩)∧rd h b o n=some vs∧v=.agg vs.toArray:=by
 cases x with
 | pointer a =>
  rcases a with _|⟨b,o,_|s⟩<;>simp only[k1v]at hk<;>try (cases hk;done)
  split at hk
  ·rename_i vs hr;cases hk;exact⟨_,_,vs,rfl,hr,rfl⟩
  ·cases hk
 | _=>simp [k1v]at hk
theorem xv7{off:Nat}{x:Value}(hk:k1v (.prt off) x h=some v):∃cs,x=.agg cs∧cs[off]?=some v:=by
 cases x with
 | agg cs=>exact⟨cs,rfl,by simpa [k1v]using hk⟩
 | _=>simp [k1v]at hk
theorem xc0{off n:Nat}{x:Value}(hk:k1v (.prta off n) x h=some v):∃cs,x=.agg cs∧v=.agg (cs.extract off (off+n)):=by
 cases x with
 | agg cs=>exact⟨cs,rfl,by simp [k1v]at hk;exact hk.symm⟩
 | _=>simp [k1v]at hk
theorem xv8{i:Nat}{x:Value}(hk:k1v (.ext i) x h=some v):∃vs,x=.tuple vs∧vs[i]?=some v:=by
 cases x with
 | tuple vs=>exact⟨vs,rfl,by simpa [k1v]using hk⟩
 | _=>simp [k1v]at hk
theorem xv9{op:BinOp}{x y:Value}(hk:k2v (.bin op) x y=some v):∃k a k' b,x=.int k a∧y=.int k' b∧z24 (binOp op 0 (.int k a) (.int k' b))=some v:=by
 cases x with
 | int k a =>
  cases y with
  | int k' b=>exact⟨_,_,_,_,rfl,rfl,by simpa [k2v]using hk⟩
  | _=>simp [k2v]at hk
 | _=>simp [k2v]at hk
theorem xw0{neg:Bool}{x y:Value}(hk:k2v (.eqb neg) x y=some v):∃a b,x=.bool a∧y=.bool b∧v=.bool ((a == b) != neg):=by
 cases x with
 | bool a =>
  cases y with
  | bool b=>exact⟨_,_,rfl,rfl,by simp [k2v]at hk;simp [← hk]⟩
  | _=>simp [k2v]at hk
 | _=>simp [k2v]at hk
theorem xw1{neg:Bool}{x y:Value}(hk:k2v (.eqp neg) x y=some v):∃a b,x=.pointer a∧y=.pointer b:=by
 cases x with
 | pointer a =>
  cases y with
  | pointer b=>exact⟨_,_,rfl,rfl⟩
  | _=>cases a<;>simp [k2v]at hk
 | _=>simp [k2v]at hk
theorem xw2{neg:Bool}{x y:Value}(hk:k2v (.eqs neg) x y=some v):∃a l c b m d r,x=.slice a l c∧y=.slice b m d∧v=.bool (r != neg)∧((a=none∧r=b.isNone)∨(a≠none∧b=none∧r=false)):=by
 cases x with
 | slice a l c =>
  cases y with
  | slice b m d =>
   cases a with
   | none=>simp [k2v]at hk;exact⟨_,_,_,_,_,_,b.isNone,rfl,rfl,by simp [← hk],.inl ⟨rfl,rfl⟩⟩
   | some a =>
    cases b with
    | none=>simp [k2v]at hk;exact⟨_,_,_,_,_,_,false,rfl,rfl,by simp [← hk],.inr ⟨by simp,rfl,rfl⟩⟩
    | some b=>simp [k2v]at hk
  | _=>cases a<;>simp [k2v]at hk
 | _=>simp [k2v]at hk
theorem xw3{neg:Bool}{x y:Value}(hk:k2v (.eqf neg) x y=some v):(x=.nilFunc∧y=.nilFunc∧v=.bool (!neg))∨(∃f a b,x=.func (.func f) a b∧y=.nilFunc∧v=.bool neg):=by
 cases x with
 | nilFunc=>cases y with
  | nilFunc=>simp [k2v]at hk;exact .inl ⟨rfl,rfl,hk.symm⟩
  | _=>simp [k2v]at hk
 | func f a b=>cases f with
  | func f=>cases y with
   | nilFunc=>simp [k2v]at hk;exact .inr ⟨f,a,b,rfl,rfl,hk.symm⟩
   | _=>simp [k2v]at hk
  | _=>simp [k2v]at hk
 | _=>simp [k2v]at hk
theorem xc1{n:Nat}{neg:Bool}{x y:Value}(hk:k2v (.eqi n neg) x y=some v):∃cs ds b,x=.agg cs∧y=.agg ds∧cs.size=n∧zZ1 cs.toList ds.toList=some b∧v=.bool (b != neg):=by
 cases x with
 | agg cs=>cases y with
  | agg ds =>
   simp only[k2v]at hk
   split at hk
   ·rename_i hn
    obtain⟨b,h1,h2⟩:=Option.map_eq_some_iff.1 hk
    exact⟨cs,ds,b,rfl,rfl,hn,h1,h2.symm⟩
   ·cases hk
  | _=>simp [k2v]at hk
 | _=>simp [k2v]at hk
theorem xw4{x y:Value}(hk:k2v .ixs x y=some v):∃s k i b,x=.string s∧y=.int k i∧0≤i∧s[i.toNat]?=some b∧v=.int .u8 b.toNat:=by
 cases x with
 | string s =>
  cases y with
  | int k i =>
   simp only[k2v]at hk
   split at hk
   ·rename_i h0
    obtain⟨b,hb,rfl⟩:=Option.map_eq_some_iff.1 hk
    exact⟨_,_,_,b,rfl,rfl,h0,hb,rfl⟩
   ·cases hk
  | _=>simp [k2v]at hk
 | _=>simp [k2v]at hk
theorem xw5{n:Nat}{x y:Value}(hk:k2v (.idx n) x y=some v):∃b o len cap k i,x=.slice (some ⟨b,o,none⟩) len cap∧y=.int k i∧(0≤i∧i<len)∧v=.pointer (some ⟨b,o+i.toNat*n,none⟩):=by
 cases x with
 | slice a len cap =>
  cases y with
  | int k i =>
   rcases a with _|⟨b,o,_|s⟩<;>simp only[k2v]at hk<;>try (cases hk;done)
   split at hk
   ·rename_i hr;cases hk;exact⟨_,_,_,_,_,_,rfl,rfl,hr,rfl⟩
   ·cases hk
  | _=>simp [k2v]at hk
 | _=>simp [k2v]at hk
theorem xc2{n l:Nat}{x y:Value}(hk:k2v (.idxa l n) x y=some v):∃b o k i,x=.pointer (some ⟨b,o,none⟩)∧y=.int k i∧(0≤i∧i<l)∧v=.pointer (some ⟨b,o+i.toNat*n,none⟩):=by
 cases x with
 | pointer a =>
  cases y with
  | int k i =>
   rcases a with _|⟨b,o,_|s⟩<;>simp only[k2v]at hk<;>try (cases hk;done)
   split at hk
   ·rename_i hr;cases hk;exact⟨_,_,_,_,rfl,rfl,hr,rfl⟩
   ·cases hk
  | _=>simp [k2v]at hk
 | _=>simp [k2v]at hk
theorem xw6{n l:Nat}{g:Bool}{x y:Value}(hk:k2v (.ixv l n g) x y=some v):∃cs k i,x=.agg cs∧y=.int k i∧(0≤i∧i<l)∧(if g then some (.agg (cs.extract (i.toNat*n) (i.toNat*n+n)))else cs[i.toNat*n]?)=some v:=by
 cases x with
 | agg cs =>
  cases y with
  | int k i =>
   simp only[k2v]at hk
   split at hk
   ·rename_i hr;exact⟨_,_,_,rfl,rfl,hr,hk⟩
   ·cases hk
  | _=>simp [k2v]at hk
 | _=>simp [k2v]at hk
theorem i_mx{x y:Value}(hk:k2v .mx x y=some v):∃k a b,x=.int k a∧y=.int k b∧v=.int k (if b>a then b else a):=by
 cases x with
 | int k a =>
  cases y with
  | int k' b =>
   simp only[k2v]at hk
   split at hk
   ·rename_i hr;subst hr;cases hk;exact⟨_,_,_,rfl,rfl,rfl⟩
   ·cases hk
  | _=>simp [k2v]at hk
 | _=>simp [k2v]at hk
theorem i_mn{x y:Value}(hk:k2v .mn x y=some v):∃k a b,x=.int k a∧y=.int k b∧v=.int k (if b<a then b else a):=by
 cases x with
 | int k a =>
  cases y with
  | int k' b =>
   simp only[k2v]at hk
   split at hk
   ·rename_i hr;subst hr;cases hk;exact⟨_,_,_,rfl,rfl,rfl⟩
   ·cases hk
  | _=>simp [k2v]at hk
 | _=>simp [k2v]at hk
theorem xc3{x:Operand}(ho:o.op=.nilCheck x)(hk:k1v .nilc (ρ x) h=some v):(execOp ρ o).run P w=.ok (.value v) w:=by
 rcases xb7 hk with⟨a,h1,rfl⟩|⟨f,p,q,h1,rfl⟩<;>simp [execOp,ho,h1]
theorem xw7{op:BinOp}{t t':TypeId}{x y:Operand}(ho:o.op=.binOp op t x y t')(hk:k2v (.bin op) (ρ x) (ρ y)=some v):(execOp ρ o).run P w=.ok (.value v) w:=by
 obtain⟨k,a,k',b,h1,h2,hk⟩:=xv9 hk
 have:=yt1 hk P w
 rw[← y1v op t]at this
 simp only[execOp,ho,h1,h2,Sem.run_bind,yG0,Result.andThen_ok,this,Sem.run_pure]
theorem xc4{op:BinOp}{t t':TypeId}{x y:Operand}{neg:Bool}(hop:op=if neg then .neq else .eql)(hu:P.underlying t=some .bool)(ho:o.op=.binOp op t x y t')(hk:k2v (.eqb neg) (ρ x) (ρ y)=some v):(execOp ρ o).run P w=.ok (.value v) w:=by
 obtain⟨a,b,h1,h2,rfl⟩:=xw0 hk
 subst hop
 cases neg
 ·simp only[execOp,ho,h1,h2,Sem.run_bind,Result.andThen_ok,z58,Bool.false_eq_true,if_false,run_eql_bool w t a b hu,Sem.run_pure]
  simp
 ·simp only[execOp,ho,h1,h2,Sem.run_bind,Result.andThen_ok,z58,if_true,run_neq_bool w t a b hu,Sem.run_pure]
  simp
theorem xc5{op:BinOp}{t t' d:TypeId}{x y:Operand}{neg:Bool}(hop:op=if neg then .neq else .eql)(hu:P.underlying t=some (.pointer d))(ho:o.op=.binOp op t x y t')(hk:k2v (.eqp neg) (ρ x) (ρ y)=some v):(execOp ρ o).run P w=.ok (.value v) w:=by
 obtain⟨a,b,h1,h2⟩:=xw1 hk
 have:=y8U hop hu hk w
 rw[h1,h2]at this
 simp only[execOp,ho,h1,h2,Sem.run_bind,Result.andThen_ok,yG2,this,Sem.run_pure]
theorem xc6{op:BinOp}{t t' d:TypeId}{x y:Operand}{neg:Bool}(hop:op=if neg then .neq else .eql)(hu:P.underlying t=some (.slice d))(ho:o.op=.binOp op t x y t')(hk:k2v (.eqs neg) (ρ x) (ρ y)=some v):(execOp ρ o).run P w=.ok (.value v) w:=by
 obtain⟨a,l,c,b,m,d',r,h1,h2,rfl,hr⟩:=xw2 hk
 have key0:∀n:Nat,(Op.equalIn (n+1) t (.slice a l c) (.slice b m d')).run P w=.ok r w:=by
  intro n
  rcases hr with⟨rfl,rfl⟩|⟨hne,rfl,rfl⟩
  ·simp [Op.equalIn,x8 hu]
  ·cases a with
   | none=>exact absurd rfl hne
   | some a=>simp [Op.equalIn,x8 hu]
 have key:=key0 9999
 have hg:∀op:BinOp,(eqGuard op t x y (.slice a l c) (.slice b m d')).run P w=.ok () w:=by intro op;unfold eqGuard;cases op<;>rfl
 subst hop
 cases neg
 ·simp only[execOp,ho,h1,h2,Sem.run_bind,Result.andThen_ok,hg,Bool.false_eq_true,if_false,binOp,Op.equal,Op.maxDepth,key,Sem.run_pure]
  simp
 ·simp only[execOp,ho,h1,h2,Sem.run_bind,Result.andThen_ok,hg,if_true,binOp,Op.equal,Op.maxDepth,key,Sem.run_pure]
  simp
theorem xc7{op:BinOp}{t t':TypeId}{x y:Operand}{neg:Bool}{u:Bool}{p q:Array TypeId}(hop:op=if neg then .neq else .eql)(hu:P.underlying t=some (.func p q u))(ho:o.op=.binOp op t x y t')(hk:k2v (.eqf neg) (ρ x) (ρ y)=some v):(execOp ρ o).run P w=.ok (.value v) w:=by
 have key:=xw3 hk
 have k0:∀n:Nat,(Op.equalIn (n+1) t .nilFunc .nilFunc).run P w=.ok true w:=by intro n;simp [Op.equalIn,x8 hu]
 have k1:∀(n:Nat) f a b,(Op.equalIn (n+1) t (.func (.func f) a b) .nilFunc).run P w=.ok false w:=by intro n f a b;simp [Op.equalIn,x8 hu]
 have key0:=k0 9999
 have key1:=k1 9999
 subst hop
 rcases key with⟨h1,h2,rfl⟩|⟨f,a,b,h1,h2,rfl⟩
 ·cases neg<;>simp [execOp,ho,h1,h2,eqGuard,binOp,Op.equal,Op.maxDepth,key0]
 ·cases neg<;>simp [execOp,ho,h1,h2,eqGuard,binOp,Op.equal,Op.maxDepth,key1]
theorem yg1{w:World}(n:Nat):∀(fs:List Field) (i:Nat) (xs ys:Array Value) (cs ds:List Value) (b:Bool),y1w P i fs=true→xs.toList.drop i=cs→ys.toList.drop i=ds→zZ1 cs ds=some b→fs.length=cs.length →
    (Op.eqFields (n+1) xs ys fs).run P w=.ok b w
  | [],i,xs,ys,cs,ds,b,_,_,_,h4,h5=>by
    have:cs=[]:=by cases cs<;>simp at h5 ⊢
    subst this
    cases ds with
    | nil=>cases h4;rfl
    | cons d r=>simp [zZ1]at h4
  | f :: r,i,xs,ys,cs,ds,b,h1,h2,h3,h4,h5=>by
    simp only[y1w,Bool.and_eq_true,decide_eq_true_eq,beq_iff_eq]at h1
    obtain⟨⟨⟨⟨h1,h6⟩,h7⟩,h8⟩,h9⟩:=h1
    cases cs with
    | nil=>simp at h5
    | cons c cs =>
      cases ds with
      | nil=>cases c<;>simp [zZ1]at h4
      | cons d ds =>
        obtain⟨k,a,k',a',rfl,rfl,hkk,t,ht,rfl⟩:∃k a k' a',c=.int k a∧d=.int k' a'∧k=k'∧∃t,zZ1 cs ds=some t∧b=((a == a') && t):=by
          cases c<;>cases d<;>simp only[zZ1]at h4<;>try (cases h4;done)
          split at h4
          · rename_i hkk
            obtain⟨t,ht,h4⟩:=Option.map_eq_some_iff.1 h4
            exact⟨_,_,_,_,rfl,rfl,hkk,t,ht,h4.symm⟩
          · cases h4
        subst hkk
        have hx:xs[f.offset]?=some (.int k a):=by
          rw[h6,← Array.getElem?_toList];have:=congrArg (·[0]?) h2;simpa using this
        have hy:ys[f.offset]?=some (.int k a'):=by
          rw[h6,← Array.getElem?_toList];have:=congrArg (·[0]?) h3;simpa using this
        have hg:aggT P f.type=some false:=by
          cases hag:aggT P f.type with
          | none=>rw[hag]at h8;cases h8
          | some g=>cases g with
            | true=>rw[hag]at h8;cases h8
            | false=>rfl
        obtain⟨kk,hu⟩:∃kk,P.underlying f.type=some (.int kk):=by
          cases hun:P.underlying f.type with
          | none=>rw[hun]at h7;cases h7
          | some d=>cases d<;>rw[hun]at h7<;>first|exact⟨_,rfl⟩|cases h7
        have hpx:(part f.type xs f.offset).run P w=.ok (.int k a) w:=by simp [part,zq8 hg,hx]
        have hpy:(part f.type ys f.offset).run P w=.ok (.int k a') w:=by simp [part,zq8 hg,hy]
        have he:=run_equalIn_int (P:=P) w n f.type k kk a a' hu
        have hd2:xs.toList.drop (i+1)=cs:=by rw[← List.tail_drop,h2];rfl
        have hd3:ys.toList.drop (i+1)=ds:=by rw[← List.tail_drop,h3];rfl
        have ih:=yg1 (w:=w) n r (i+1) xs ys cs ds t h9 hd2 hd3 ht (by simpa using h5)
        simp only[Op.eqFields,ne_eq,h1,not_false_eq_true,if_true,Sem.run_bind,hpx,hpy,Result.andThen_ok,he]
        cases hab:(a == a')with
        | true=>simpa using ih
        | false=>simp
theorem xc8 {op : BinOp} {t t' : TypeId} {x y : Operand} {neg : Bool} {fields : Array Field} (hop : op = if neg then .neq else .eql) (hu : P.underlying t = some (.struct fields)) (hi : y1w P 0 fields.toList = true) (hq : eqOk P t = true) (ho : o.op = .binOp op t x y t') {cs ds : Array Value} (hx : ρ x = .agg cs) (hy : ρ y = .agg ds) (hl : cs.size = fields.size)
    {b:Bool} (hk:zZ1 cs.toList ds.toList=some b):(execOp ρ o).run P w=.ok (.value (.bool (b != neg))) w:=by
  simp only[eqOk,Bool.and_eq_true,Bool.not_eq_true']at hq
  have hf:P.fieldsOf t=fields:=by simp [Program.fieldsOf,hu]
  have h1:=run_equalIn_struct (P:=P) w 9999 t cs ds (by rw[hf];exact hu) hq.1
  rw[hf,yg1 9998 fields.toList 0 cs ds cs.toList ds.toList b hi rfl rfl hk (by simpa using hl.symm)]at h1
  have hg:=run_eqGuard_agg (P:=P) w op t x y cs ds hq.2
  subst hop
  cases neg
  · simp only[Bool.false_eq_true,if_false]at hg ho
    simp [execOp,ho,hx,hy,hg,run_eql_struct,h1]
  · simp only[if_true]at hg ho
    simp [execOp,ho,hx,hy,hg,run_neq_struct,h1]
theorem xw8{t:TypeId}{x i:Operand}(ho:o.op=.index t x i)(hu:P.underlying t=some .string)(hk:k2v .ixs (ρ x) (ρ i)=some v):(execOp ρ o).run P w=.ok (.value v) w:=by
 obtain⟨s,k,i',b,h1,h2,h0,hb,rfl⟩:=xw4 hk
 simp [execOp,ho,Instr.index,asIntOf,h1,h2,x8 hu,h0,hb]
theorem s_un{op:UnOp}{t:TypeId}{x:Operand}(ho:o.op=.unOp op t x)(hk:k1v (.un op) (ρ x) h=some v):(execOp ρ o).run P w=.ok (.value v) w:=by
 simp [execOp,ho,yt1 (i_un hk) P w]
theorem xc9{src dst:TypeId}{k k':IntKind}{x:Operand}(ho:o.op=.convert src dst x)(hs:P.underlying src=some (.int k'))(hd:P.underlying dst=some (.int k))(hk:k1v (.conv k) (ρ x) h=some v):(execOp ρ o).run P w=.ok (.value v) w:=by
 obtain⟨k',n,h2,rfl⟩:=xb9 hk
 simp [execOp,ho,convert,x8 hs,x8 hd,h2,Conv.intToInt]
theorem xw9 {s : TypeId} {x : Operand} {f n : Nat} {fields : Array Field} {fd : Field} (ho : o.op = .fieldAddr s x f) (hu : P.underlying s = some (.struct fields)) (hf : fields[f]? = some fd) (hn : zg3 P fd.type = some n) (h0 : n ≠ 0)
    (hk:k1v (.fld fd.offset) (ρ x) h=some v):(execOp ρ o).run P w=.ok (.value v) w:=by
  obtain⟨b,o,h2,rfl⟩:=xv6 hk
  simp [execOp,ho,Instr.fieldAt,x8 hu,hf,h2,Instr.sureAddr,fieldPlace,x7 hn,h0,zh2]
theorem xx0{t el:TypeId}{x i:Operand}{n:Nat}(ho:o.op=.indexAddr t x i)(hu:P.underlying t=some (.slice el))(hn:zg3 P el=some n)(hk:k2v (.idx n) (ρ x) (ρ i)=some v):(execOp ρ o).run P w=.ok (.value v) w:=by
 obtain⟨b,o,len,cap,k,i,h1,h2,hr,rfl⟩:=xw5 hk
 simp [execOp,ho,Instr.indexAt,asIntOf,h1,h2,x8 hu,x7 hn,hr,zh2]
theorem xd0{t el:TypeId}{x i:Operand}{n len:Nat}(ho:o.op=.indexAddr t x i)(hu:P.underlying t=some (.array len el))(hn:zg3 P el=some n)(hk:k2v (.idxa len n) (ρ x) (ρ i)=some v):(execOp ρ o).run P w=.ok (.value v) w:=by
 obtain⟨b,o,k,i,h1,h2,hr,rfl⟩:=xc2 hk
 simp [execOp,ho,Instr.indexAt,asIntOf,h1,h2,x8 hu,x7 hn,hr,zh2,Instr.sureAddr]
theorem xx1{t:TypeId}{x:Operand}(ho:o.op=.load t x)(hg:aggT P t=some false)(hk:k1v .ld1 (ρ x) h=some v)(he:Ext h (hp w)):(execOp ρ o).run P w=.ok (.value v) w:=by
 obtain⟨b,o,h2,hr⟩:=y8V hk
 have:=yt2 (P:=P) (zz5 he hr)
 simp only[execOp,ho,Instr.loadAt,h2,Instr.sureAddr,loadVar,Sem.run_bind,Sem.run_pure,Result.andThen_ok,zq8 hg,Bool.false_eq_true,if_false,this]
theorem xx2{t:TypeId}{x:Operand}{n:Nat}(ho:o.op=.load t x)(hg:aggT P t=some true)(hn:zg3 P t=some n)(hk:k1v (.lda n) (ρ x) h=some v)(he:Ext h (hp w)):(execOp ρ o).run P w=.ok (.value v) w:=by
 obtain⟨b,o,vs,h2,hr,rfl⟩:=y8W hk
 obtain⟨hl,hc⟩:=yk3 (zz5 he hr)
 have:=run_loadCells_list (P:=P) w ⟨_,_,none⟩ vs hc
 rw[hl]at this
 simp only[execOp,ho,Instr.loadAt,h2,Instr.sureAddr,loadVar,Sem.run_bind,Sem.run_pure,Result.andThen_ok,zq8 hg,if_true,x7 hn,this]
theorem xx3 {t : TypeId} {x : Operand} {f : Nat} {fields : Array Field} {fd : Field} (ho : o.op = .field t x f) (hu : P.underlying t = some (.struct fields)) (hf : fields[f]? = some fd) (hg : aggT P fd.type = some false)
    (hk:k1v (.prt fd.offset) (ρ x) h=some v):(execOp ρ o).run P w=.ok (.value v) w:=by
  obtain⟨cs,h2,hk⟩:=xv7 hk
  simp [execOp,ho,Instr.field,x8 hu,hf,h2,asAgg,part,zq8 hg,hk]
theorem xd1 {t : TypeId} {x : Operand} {f n : Nat} {fields : Array Field} {fd : Field} (ho : o.op = .field t x f) (hu : P.underlying t = some (.struct fields)) (hf : fields[f]? = some fd) (hg : aggT P fd.type = some true) (hn : zg3 P fd.type = some n)
    (hk:k1v (.prta fd.offset n) (ρ x) h=some v):(execOp ρ o).run P w=.ok (.value v) w:=by
  obtain⟨cs,h2,rfl⟩:=xc0 hk
  simp [execOp,ho,Instr.field,x8 hu,hf,h2,asAgg,part,zq8 hg,x7 hn]
theorem xx4 {t el : TypeId} {x i : Operand} {n len : Nat} {g : Bool} (ho : o.op = .index t x i) (hu : P.underlying t = some (.array len el)) (hn : zg3 P el = some n) (hg : aggT P el = some g)
    (hk:k2v (.ixv len n g) (ρ x) (ρ i)=some v):(execOp ρ o).run P w=.ok (.value v) w:=by
  obtain⟨cs,k,i,h1,h2,hr,hk⟩:=xw6 hk
  cases g
  · simp only[Bool.false_eq_true,if_false]at hk
    simp [execOp,ho,Instr.index,asIntOf,h1,h2,x8 hu,x7 hn,hr,part,zq8 hg,hk]
  · simp only[if_true]at hk
    cases hk
    simp [execOp,ho,Instr.index,asIntOf,h1,h2,x8 hu,x7 hn,hr,part,zq8 hg]
theorem xx5{x:Operand}{i:Nat}(ho:o.op=.extract x i)(hk:k1v (.ext i) (ρ x) h=some v):(execOp ρ o).run P w=.ok (.value v) w:=by
 obtain⟨vs,h2,hk⟩:=xv8 hk
 simp [execOp,ho,Instr.extract,h2,hk]
theorem xx6{t el:TypeId}{x:Operand}{c:Call}(ho:o.op=.call c)(hc:c.callee=.builtin .len)(ha:c.args=#[x])(ht:c.argTypes=#[t])(hu:P.underlying t=some (.slice el))(hk:k1v .len (ρ x) h=some v):(execOp ρ o).run P w=.ok (.value v) w:=by
 obtain⟨a,n,c,h2,rfl⟩:=xb8 hk
 simp [execOp,ho,resolve,hc,ha,ht,invoke,builtin,Builtin.len_,x8 hu,h2,goInt]
theorem xd2{t el n:TypeId}{x:Operand}{c:Call}(ho:o.op=.call c)(hc:c.callee=.builtin .len)(ha:c.args=#[x])(ht:c.argTypes=#[t])(hu:P.underlying t=some (.array n el)):(execOp ρ o).run P w=.ok (.value (.int .i64 n)) w:=by
 simp [execOp,ho,resolve,hc,ha,ht,invoke,builtin,Builtin.len_,x8 hu,goInt]
theorem xx7{x y:Operand}{c:Call}(ho:o.op=.call c)(hc:c.callee=.builtin .max)(ha:c.args=#[x,y])(hk:k2v .mx (ρ x) (ρ y)=some v):(execOp ρ o).run P w=.ok (.value v) w:=by
 obtain⟨k,a,b,h1,h2,rfl⟩:=i_mx hk
 simp [execOp,ho,resolve,hc,ha,invoke,builtin,Builtin.max_,Builtin.max2,h1,h2]
theorem xx8{x y:Operand}{c:Call}(ho:o.op=.call c)(hc:c.callee=.builtin .min)(ha:c.args=#[x,y])(hk:k2v .mn (ρ x) (ρ y)=some v):(execOp ρ o).run P w=.ok (.value v) w:=by
 obtain⟨k,a,b,h1,h2,rfl⟩:=i_mn hk
 simp [execOp,ho,resolve,hc,ha,invoke,builtin,Builtin.min_,Builtin.min2,h1,h2]
theorem Z8{k:IntKind}{i:Int}{y:Nat}{code:BoundsCode}(h1:0≤i)(h2:i≤(y:Int))(w:World):(Instr.sliceBound (.int k i) y code).run P w=.ok i.toNat w:=by
 simp [Instr.sliceBound,asIntOf,h1,h2]
theorem xd3 {t el : TypeId} {x : Operand} {lo hi mx : Option Operand} {n : Nat} {l u : Value} (ho : o.op = .slice t x lo hi mx) (hu : P.underlying t = some (.slice el)) (hn : zg3 P el = some n)
    (hl:(lo=none∧l=.int .i64 0)∨∃y,lo=some y∧l=ρ y) (hh:(hi=none∧mx=none∧∃a len cap,ρ x=.slice a len cap∧u=.int .i64 len)∨∃y,hi=some y∧u=ρ y)
    (hk:slcv none n (ρ x) l u (mx.map ρ)=some v):(execOp ρ o).run P w=.ok (.value v) w:=by
  unfold slcv at hk
  split at hk
  · rename_i a len cap kl l' ku u' h0 h1
    cases hm:mx.map ρ with
    | none =>
      simp only[hm]at hk
      split at hk
      · rename_i hr
        obtain⟨r1,r2,r3⟩:=hr
        cases hk
        have hmx:mx=none:=by cases mx<;>simp_all
        subst hmx
        rcases hl with⟨rfl,hl⟩|⟨y,rfl,hl⟩
        · cases hl
          rcases hh with⟨rfl,_,a',len',cap',hx,hu'⟩|⟨z,rfl,hz⟩
          · rw[h1]at hx;cases hx;cases hu'
            simp [execOp,ho,Instr.sliceAt,Instr.slice,x8 hu,h1,Instr.sliceBounds,x7 hn]
          · simp [execOp,ho,Instr.sliceAt,Instr.slice,x8 hu,h1,Instr.sliceBounds,x7 hn,← hz,Z8 r2 r3]
        · have r0:l'≤(u'.toNat:Int):=by omega
          rcases hh with⟨rfl,_,a',len',cap',hx,hu'⟩|⟨z,rfl,hz⟩
          · rw[h1]at hx;cases hx;cases hu'
            simp [execOp,ho,Instr.sliceAt,Instr.slice,x8 hu,h1,Instr.sliceBounds,x7 hn,← hl,Z8 r1 r2]
          · have r4:0≤u':=by omega
            simp [execOp,ho,Instr.sliceAt,Instr.slice,x8 hu,h1,Instr.sliceBounds,x7 hn,← hl,← hz,Z8 r1 r0,Z8 r4 r3]
      · cases hk
    | some m =>
      simp only[hm]at hk
      cases m with
      | int km m' =>
        simp only at hk
        split at hk
        · rename_i hr
          obtain⟨r1,r2,r3,r5⟩:=hr
          cases hk
          obtain⟨ym,rfl,hym⟩:∃ym,mx=some ym∧ρ ym=.int km m':=by cases mx<;>simp_all
          have r4:0≤u':=by omega
          have r6:0≤m':=by omega
          have r0:l'≤(u'.toNat:Int):=by omega
          have r7:u'≤(m'.toNat:Int):=by omega
          rcases hh with⟨_,hc,_⟩|⟨z,rfl,hz⟩
          · cases hc
          · rcases hl with⟨rfl,hl⟩|⟨y,rfl,hl⟩
            · cases hl
              simp [execOp,ho,Instr.sliceAt,Instr.slice,x8 hu,h1,Instr.sliceBounds,x7 hn,← hz,hym,Z8 r6 r5,Z8 r4 r7]
            · simp [execOp,ho,Instr.sliceAt,Instr.slice,x8 hu,h1,Instr.sliceBounds,x7 hn,← hl,← hz,hym,Z8 r6 r5,Z8 r4 r7,Z8 r1 r0]
        · cases hk
      | _=>simp at hk
  all_goals (first|contradiction|cases hk)
theorem xd4 {t el len : TypeId} {x : Operand} {lo hi : Option Operand} {n : Nat} {l u : Value} (ho : o.op = .slice t x lo hi none) (hu : P.underlying t = some (.array len el)) (hn : zg3 P el = some n)
    (hl:(lo=none∧l=.int .i64 0)∨∃y,lo=some y∧l=ρ y) (hh:(hi=none∧u=.int .i64 len)∨∃y,hi=some y∧u=ρ y)
    (hk:slcv (some len) n (ρ x) l u none=some v):(execOp ρ o).run P w=.ok (.value v) w:=by
  unfold slcv at hk
  split at hk
  · contradiction
  · rename_i len' a kl l' ku u' hc h1
    cases hc
    simp only at hk
    split at hk
    · rename_i hr
      obtain⟨r1,r2,r3⟩:=hr
      cases hk
      have r4:0≤u':=by omega
      rcases hl with⟨rfl,hl⟩|⟨y,rfl,hl⟩
      · cases hl
        rcases hh with⟨rfl,hu'⟩|⟨z,rfl,hz⟩
        · cases hu'
          simp [execOp,ho,Instr.sliceAt,x8 hu,h1,Instr.sureAddr,Instr.sliceBounds,x7 hn]
        · simp [execOp,ho,Instr.sliceAt,x8 hu,h1,Instr.sureAddr,Instr.sliceBounds,x7 hn,← hz,Z8 r4 r3]
      · rcases hh with⟨rfl,hu'⟩|⟨z,rfl,hz⟩
        · cases hu'
          simp [execOp,ho,Instr.sliceAt,x8 hu,h1,Instr.sureAddr,Instr.sliceBounds,x7 hn,← hl,Z8 r1 r2]
        · simp [execOp,ho,Instr.sliceAt,x8 hu,h1,Instr.sureAddr,Instr.sliceBounds,x7 hn,← hl,← hz,Z8 r4 r3,Z8 r1 (show l'≤(u'.toNat:Int) by omega)]
    · cases hk
  · cases hk
theorem xd5 {t el len : TypeId} {x z m : Operand} {lo : Option Operand} {n : Nat} {l : Value} (ho : o.op = .slice t x lo (some z) (some m)) (hu : P.underlying t = some (.array len el)) (hn : zg3 P el = some n)
    (hl:(lo=none∧l=.int .i64 0)∨∃y,lo=some y∧l=ρ y)
    (hk:slcv (some len) n (ρ x) l (ρ z) (some (ρ m))=some v):(execOp ρ o).run P w=.ok (.value v) w:=by
  unfold slcv at hk
  split at hk
  · contradiction
  · rename_i len' a kl l' ku u' hc h1 hz
    cases hc
    cases hm:ρ m with
    | int km m' =>
      rw[hm]at hk
      simp only at hk
      split at hk
      · rename_i hr
        obtain⟨r1,r2,r3,r5⟩:=hr
        cases hk
        have r4:0≤u':=by omega
        have r6:0≤m':=by omega
        have r0:l'≤(u'.toNat:Int):=by omega
        have r7:u'≤(m'.toNat:Int):=by omega
        rcases hl with⟨rfl,hl⟩|⟨y,rfl,hl⟩
        · cases hl
          simp [execOp,ho,Instr.sliceAt,x8 hu,h1,Instr.sureAddr,Instr.sliceBounds,x7 hn,hz,hm,Z8 r6 r5,Z8 r4 r7]
        · simp [execOp,ho,Instr.sliceAt,x8 hu,h1,Instr.sureAddr,Instr.sliceBounds,x7 hn,← hl,hz,hm,Z8 r6 r5,Z8 r4 r7,Z8 r1 r0]
      · cases hk
    | _=>rw[hm]at hk;simp at hk
  · cases hk
theorem s_fn{f:FuncId}{first caps:Array Operand}{vs:List Value}(ho:o.op=.makeFunc (.func f) first caps)(hf:first=#[])(hc:caps.toList.map ρ=vs):(execOp ρ o).run P w=.ok (.value (.func (.func f) #[] vs.toArray)) w:=by
 subst hf
 have:caps.map ρ=vs.toArray:=by apply Array.ext';simp [← hc]
 simp [execOp,ho,Instr.makeFunc,this]
theorem xd6 {t : TypeId} {parts : Array (Nat × Operand)} {fields : Array Field} {ps : List (Nat × Nat)} {z : Value} {qs : List (Nat × Value)} {cs : Array Value} (ho : o.op = .build t parts) (hz : zZ2 P t = some z) (hu : P.underlying t = some (.struct fields))
    (hp:z5c P fields.toList=some ps) (hl:parts.toList.length=qs.length) (hq:∀i (h1:i<parts.toList.length) (h2:i<qs.length),ps[(parts.toList[i]).1]?=some (qs[i].1,(qs[i].2).cells.size)∧ρ (parts.toList[i]).2=qs[i].2)
    (hf:zr9 z.cells.toList.toArray qs=some cs):(execOp ρ o).run P w=.ok (.value (.agg cs)) w:=by
  have h1:=yg0 (P:=P) fields.toList ps w hp
  have h2:(fields.mapM (fun f=>(do pure (f.offset,← sizeOf f.type):Sem (Nat×Nat)))).run P w=.ok ps.toArray w:=by
    rw[Array.mapM_eq_mapM_toList]
    simp only[Sem.run_map,h1,Result.andThen_ok]
  have h3:Instr.fill (ps.toArray[·]?) z.cells (parts.map fun(i,x)=>(i,ρ x)).toList=some cs:=by
    refine z04 _ qs _ _ (by simpa using hl) (fun i g1 g2=>?_) (by simpa using hf)
    have:=hq i (by simpa using g1) g2
    simpa using this
  simp only[execOp,ho,Instr.build,Sem.run_bind,zK2 hz,Result.andThen_ok,x8 hu,h2,h3,Sem.run_pure]
theorem xd7 {t el n len : TypeId} {parts : Array (Nat × Operand)} {z : Value} {qs : List (Nat × Value)} {cs : Array Value} (ho : o.op = .build t parts) (hz : zZ2 P t = some z) (hu : P.underlying t = some (.array len el)) (hn : zg3 P el = some n)
    (hl:parts.toList.length=qs.length) (hq:∀i (h1:i<parts.toList.length) (h2:i<qs.length),some ((parts.toList[i]).1*n,n)=some (qs[i].1,(qs[i].2).cells.size)∧ρ (parts.toList[i]).2=qs[i].2)
    (hf:zr9 z.cells.toList.toArray qs=some cs):(execOp ρ o).run P w=.ok (.value (.agg cs)) w:=by
  have h3:Instr.fill (fun i=>some (i*n,n)) z.cells (parts.map fun(i,x)=>(i,ρ x)).toList=some cs:=by
    refine z04 _ qs _ _ (by simpa using hl) (fun i g1 g2=>?_) (by simpa using hf)
    have:=hq i (by simpa using g1) g2
    simpa using this
  simp only[execOp,ho,Instr.build,Sem.run_bind,zK2 hz,Result.andThen_ok,x8 hu,x7 hn,h3,Sem.run_pure]
end
section
variable {P:Program} {tr:Tr} {ρ:Operand→Value} {e:List Value} {h:Heap}
theorem z76(hT:∀y z,tr y=some z→z.ev e h=some (ρ y)){d x:X}{q:Option Operand}(hx:optX tr d q=some x):(q=none∧x=d)∨∃y,q=some y∧x.ev e h=some (ρ y):=by
 cases q with
 | none=>simp [optX]at hx;exact .inl ⟨rfl,hx.symm⟩
 | some y=>exact .inr ⟨y,rfl,hT _ _ hx⟩
theorem z06{α:Type}{a:Array α}{x:α}(h:a.toList=[x]):a=#[x]:=by apply Array.ext';simpa using h
theorem zz2{α:Type}{a:Array α}{x y:α}(h:a.toList=[x,y]):a=#[x,y]:=by apply Array.ext';simpa using h
theorem y1x(hT:∀y z,tr y=some z→z.ev e h=some (ρ y)){o:Oper}{x:X}(hx:opX P tr o.op=some x){v:Value}(hv:x.ev e h=some v){w:World}(hw:kdOf o.op=0∨Ext h (hp w)):
    (execOp ρ o).run P w=.ok (.value v) w:=by
  cases ho:o.op with
  | move y =>
    rw[ho]at hx;simp only[opX]at hx
    rw[hT _ _ hx]at hv;cases hv
    simp [execOp,ho]
  | assign y =>
    rw[ho]at hx;simp only[opX]at hx
    rw[hT _ _ hx]at hv;cases hv
    simp [execOp,ho]
  | nilCheck y =>
    rw[ho]at hx;simp only[opX,Option.map_eq_some_iff]at hx
    obtain⟨a,ha,rfl⟩:=hx
    exact xc3 (h:=h) ho (ev_u (hT _ _ ha) hv)
  | binOp op t y z t' =>
    rw[ho]at hx;simp only[opX,Option.bind_eq_some_iff]at hx
    obtain⟨a,ha,c,hc,hx⟩:=hx
    split at hx
    · cases hx;exact xw7 ho (ev_b (hT _ _ ha) (hT _ _ hc) hv)
    · rename_i hu
      split at hx
      · cases hx;exact xc4 (neg:=false) rfl hu ho (ev_b (hT _ _ ha) (hT _ _ hc) hv)
      · cases hx;exact xc4 (neg:=true) rfl hu ho (ev_b (hT _ _ ha) (hT _ _ hc) hv)
      · cases hx
    · rename_i hu
      split at hx
      · cases hx;exact xc5 (neg:=false) rfl hu ho (ev_b (hT _ _ ha) (hT _ _ hc) hv)
      · cases hx;exact xc5 (neg:=true) rfl hu ho (ev_b (hT _ _ ha) (hT _ _ hc) hv)
      · cases hx
    · rename_i hu
      split at hx
      · cases hx;exact xc6 (neg:=false) rfl hu ho (ev_b (hT _ _ ha) (hT _ _ hc) hv)
      · cases hx;exact xc6 (neg:=true) rfl hu ho (ev_b (hT _ _ ha) (hT _ _ hc) hv)
      · cases hx
    · rename_i hu
      split at hx
      · cases hx;exact xc7 (neg:=false) rfl hu ho (ev_b (hT _ _ ha) (hT _ _ hc) hv)
      · cases hx;exact xc7 (neg:=true) rfl hu ho (ev_b (hT _ _ ha) (hT _ _ hc) hv)
      · cases hx
    · rename_i fields hu
      split at hx
      · rename_i hcond
        simp only[Bool.and_eq_true]at hcond
        split at hx
        · cases hx
          obtain⟨cs,ds,b,h1,h2,h3,h4,rfl⟩:=xc1 (ev_b (hT _ _ ha) (hT _ _ hc) hv)
          exact xc8 (neg:=false) rfl hu hcond.1 hcond.2 ho h1 h2 h3 h4
        · cases hx
          obtain⟨cs,ds,b,h1,h2,h3,h4,rfl⟩:=xc1 (ev_b (hT _ _ ha) (hT _ _ hc) hv)
          exact xc8 (neg:=true) rfl hu hcond.1 hcond.2 ho h1 h2 h3 h4
        · cases hx
      · cases hx
    · cases hx
  | unOp op t y =>
    rw[ho]at hx;simp only[opX,Option.map_eq_some_iff]at hx
    obtain⟨a,ha,rfl⟩:=hx
    exact s_un (h:=h) ho (ev_u (hT _ _ ha) hv)
  | convert src dst y =>
    rw[ho]at hx;simp only[opX,Option.bind_eq_some_iff]at hx
    obtain⟨a,ha,hx⟩:=hx
    split at hx
    · rename_i h1 h2;cases hx;exact xc9 (h:=h) ho h1 h2 (ev_u (hT _ _ ha) hv)
    · cases hx
  | fieldAddr s y f =>
    rw[ho]at hx;simp only[opX,Option.bind_eq_some_iff]at hx
    obtain⟨a,ha,hx⟩:=hx
    split at hx
    · rename_i fields hu
      simp only[Option.bind_eq_some_iff]at hx
      obtain⟨fd,hf,n,hn,hx⟩:=hx
      split at hx
      · cases hx
      · rename_i h0;cases hx;exact xw9 (h:=h) ho hu hf hn h0 (ev_u (hT _ _ ha) hv)
    · cases hx
  | indexAddr t y i =>
    rw[ho]at hx;simp only[opX,Option.bind_eq_some_iff]at hx
    obtain⟨a,ha,c,hc,hx⟩:=hx
    split at hx
    · rename_i hu
      simp only[Option.map_eq_some_iff]at hx
      obtain⟨n,hn,rfl⟩:=hx
      exact xx0 ho hu hn (ev_b (hT _ _ ha) (hT _ _ hc) hv)
    · rename_i hu
      simp only[Option.map_eq_some_iff]at hx
      obtain⟨n,hn,rfl⟩:=hx
      exact xd0 ho hu hn (ev_b (hT _ _ ha) (hT _ _ hc) hv)
    · cases hx
  | load t y =>
    rw[ho]at hx hw;simp only[opX,Option.bind_eq_some_iff]at hx
    obtain⟨a,ha,g,hg,hx⟩:=hx
    have hw:Ext h (hp w):=hw.resolve_left (by simp [kdOf])
    split at hx
    · rename_i g1;subst g1
      simp only[Option.map_eq_some_iff]at hx
      obtain⟨n,hn,rfl⟩:=hx
      exact xx2 ho hg hn (ev_u (hT _ _ ha) hv) hw
    · rename_i g1
      have:g=false:=by simpa using g1
      subst this
      cases hx;exact xx1 ho hg (ev_u (hT _ _ ha) hv) hw
  | field t y f =>
    rw[ho]at hx;simp only[opX,Option.bind_eq_some_iff]at hx
    obtain⟨a,ha,hx⟩:=hx
    split at hx
    · rename_i fields hu
      simp only[Option.bind_eq_some_iff]at hx
      obtain⟨fd,hf,g,hg,hx⟩:=hx
      split at hx
      · rename_i g1;subst g1
        simp only[Option.map_eq_some_iff]at hx
        obtain⟨n,hn,rfl⟩:=hx
        exact xd1 (h:=h) ho hu hf hg hn (ev_u (hT _ _ ha) hv)
      · rename_i g1
        have:g=false:=by simpa using g1
        subst this
        cases hx;exact xx3 (h:=h) ho hu hf hg (ev_u (hT _ _ ha) hv)
    · cases hx
  | index t y i =>
    rw[ho]at hx;simp only[opX,Option.bind_eq_some_iff]at hx
    obtain⟨a,ha,c,hc,hx⟩:=hx
    split at hx
    · rename_i hu
      simp only[Option.bind_eq_some_iff,Option.map_eq_some_iff]at hx
      obtain⟨n,hn,g,hg,rfl⟩:=hx
      exact xx4 ho hu hn hg (ev_b (hT _ _ ha) (hT _ _ hc) hv)
    · rename_i hu
      cases hx;exact xw8 ho hu (ev_b (hT _ _ ha) (hT _ _ hc) hv)
    · cases hx
  | extract y i =>
    rw[ho]at hx;simp only[opX,Option.map_eq_some_iff]at hx
    obtain⟨a,ha,rfl⟩:=hx
    exact xx5 (h:=h) ho (ev_u (hT _ _ ha) hv)
  | slice t y lo hi mx =>
    rw[ho]at hx;simp only[opX,Option.bind_eq_some_iff]at hx
    obtain⟨a,ha,l,hl,hx⟩:=hx
    have hl':=z76 hT hl
    have ha':=hT _ _ ha
    split at hx
    · rename_i hu
      simp only[Option.bind_eq_some_iff]at hx
      obtain⟨n,hn,u,hu',hx⟩:=hx
      have hh':=z76 hT hu'
      split at hx
      · cases hx
        simp only[X.ev,ha',Option.bind_some,Option.bind_eq_some_iff]at hv
        obtain⟨lv,hlv,uv,huv,hv⟩:=hv
        refine xd3 (l:=lv) (u:=uv) ho hu hn ?_ ?_ (by simpa using hv)
        · rcases hl' with⟨rfl,rfl⟩|⟨y',rfl,hy'⟩
          · simp [X.ev]at hlv;exact .inl ⟨rfl,hlv.symm⟩
          · rw[hy']at hlv;cases hlv;exact .inr ⟨y',rfl,rfl⟩
        · rcases hh' with⟨rfl,rfl⟩|⟨y',rfl,hy'⟩
          · obtain⟨b1,b2,b3,g1,g2⟩:=xb8 (ev_u ha' huv)
            exact .inl ⟨rfl,rfl,b1,b2,b3,g1,g2⟩
          · rw[hy']at huv;cases huv;exact .inr ⟨y',rfl,rfl⟩
      · rename_i m q
        simp only[Option.map_eq_some_iff]at hx
        obtain⟨mX,hm,rfl⟩:=hx
        have hm':=hT _ _ hm
        have hv':∃lv uv,l.ev e h=some lv∧u.ev e h=some uv∧slcv none n (ρ y) lv uv (some (ρ m))=some v:=by
          simp only[X.ev,ha',Option.bind_some,Option.bind_eq_some_iff]at hv
          obtain⟨lv,hlv,uv,huv,hv⟩:=hv
          refine⟨lv,uv,hlv,huv,?_⟩
          cases mX with
          | nl=>simp [X.ev]at hm'
          | _=>simpa [hm']using hv
        obtain⟨lv,uv,hlv,huv,hv2⟩:=hv'
        refine xd3 (l:=lv) (u:=uv) ho hu hn ?_ ?_ (by simpa using hv2)
        · rcases hl' with⟨rfl,rfl⟩|⟨y',rfl,hy'⟩
          · simp [X.ev]at hlv;exact .inl ⟨rfl,hlv.symm⟩
          · rw[hy']at hlv;cases hlv;exact .inr ⟨y',rfl,rfl⟩
        · rcases hh' with⟨hq,_⟩|⟨y',hy1,hy'⟩
          · cases hq
          · cases hy1
            rw[hy']at huv;cases huv;exact .inr ⟨_,rfl,rfl⟩
      · cases hx
    · rename_i len el hu
      simp only[Option.bind_eq_some_iff]at hx
      obtain⟨n,hn,u,hu',hx⟩:=hx
      have hh':=z76 hT hu'
      split at hx
      · cases hx
        simp only[X.ev,ha',Option.bind_some,Option.bind_eq_some_iff]at hv
        obtain⟨lv,hlv,uv,huv,hv⟩:=hv
        refine xd4 (l:=lv) (u:=uv) ho hu hn ?_ ?_ (by simpa using hv)
        · rcases hl' with⟨rfl,rfl⟩|⟨y',rfl,hy'⟩
          · simp [X.ev]at hlv;exact .inl ⟨rfl,hlv.symm⟩
          · rw[hy']at hlv;cases hlv;exact .inr ⟨y',rfl,rfl⟩
        · rcases hh' with⟨rfl,rfl⟩|⟨y',rfl,hy'⟩
          · simp [X.ev]at huv;exact .inl ⟨rfl,huv.symm⟩
          · rw[hy']at huv;cases huv;exact .inr ⟨y',rfl,rfl⟩
      · rename_i m q
        simp only[Option.map_eq_some_iff]at hx
        obtain⟨mX,hm,rfl⟩:=hx
        have hm':=hT _ _ hm
        have hv':∃lv uv,l.ev e h=some lv∧u.ev e h=some uv∧slcv (some len) n (ρ y) lv uv (some (ρ m))=some v:=by
          simp only[X.ev,ha',Option.bind_some,Option.bind_eq_some_iff]at hv
          obtain⟨lv,hlv,uv,huv,hv⟩:=hv
          refine⟨lv,uv,hlv,huv,?_⟩
          cases mX with
          | nl=>simp [X.ev]at hm'
          | _=>simpa [hm']using hv
        obtain⟨lv,uv,hlv,huv,hv2⟩:=hv'
        rcases hh' with⟨hq,_⟩|⟨y',hy1,hy'⟩
        · cases hq
        · cases hy1
          rw[hy']at huv;cases huv
          refine xd5 (l:=lv) ho hu hn ?_ (by simpa using hv2)
          rcases hl' with⟨rfl,rfl⟩|⟨y'',rfl,hy''⟩
          · simp [X.ev]at hlv;exact .inl ⟨rfl,hlv.symm⟩
          · rw[hy'']at hlv;cases hlv;exact .inr ⟨y'',rfl,rfl⟩
      · cases hx
    · cases hx
  | makeFunc fn first caps =>
    rw[ho]at hx
    cases fn with
    | func f =>
      simp only[opX]at hx
      split at hx
      · rename_i hf
        simp only[Option.map_eq_some_iff]at hx
        obtain⟨l,hl,rfl⟩:=hx
        have:=z05 hT _ _ hl
        simp only[X.ev,this,Option.map_some,Option.some.injEq]at hv
        subst hv
        exact s_fn ho (by simpa using hf) rfl
      · cases hx
    | _=>simp [opX]at hx
  | build t parts =>
    rw[ho]at hx;simp only[opX,Option.bind_eq_some_iff]at hx
    obtain⟨z,hz,hx⟩:=hx
    split at hx
    · rename_i fields hu
      simp only[Option.bind_eq_some_iff,Option.map_eq_some_iff]at hx
      obtain⟨ps,hps,l,hl,rfl⟩:=hx
      simp only[X.ev,Option.bind_eq_some_iff,Option.map_eq_some_iff]at hv
      obtain⟨qs,hq,cs,hcs,rfl⟩:=hv
      obtain⟨g1,g2⟩:=zO6 hT _ _ _ hl hq
      exact xd6 ho hz hu hps g1 g2 hcs
    · rename_i hu
      simp only[Option.bind_eq_some_iff,Option.map_eq_some_iff]at hx
      obtain⟨n,hn,l,hl,rfl⟩:=hx
      simp only[X.ev,Option.bind_eq_some_iff,Option.map_eq_some_iff]at hv
      obtain⟨qs,hq,cs,hcs,rfl⟩:=hv
      obtain⟨g1,g2⟩:=zO6 hT _ _ _ hl hq
      exact xd7 ho hz hu hn g1 g2 hcs
    · cases hx
  | call c =>
    rw[ho]at hx
    obtain⟨callee,args,ats⟩:=c
    cases callee with
    | builtin b =>
      cases b<;>simp only[opX]at hx<;>try (cases hx;done)
      ·
        split at hx
        · rename_i y t h1 h2
          have ha:=z06 h1
          have ht:=z06 h2
          split at hx
          · rename_i hu
            simp only[Option.map_eq_some_iff]at hx
            obtain⟨a,hy,rfl⟩:=hx
            exact xx6 (h:=h) ho rfl ha ht hu (ev_u (hT _ _ hy) hv)
          · rename_i hu
            cases hx
            simp [X.ev]at hv;subst hv
            exact xd2 ho rfl ha ht hu
          · cases hx
        · cases hx
      · split at hx
        · rename_i y z h1
          have ha:=zz2 h1
          simp only[Option.bind_eq_some_iff,Option.map_eq_some_iff]at hx
          obtain⟨a,hy,c,hz,rfl⟩:=hx
          exact xx7 ho rfl ha (ev_b (hT _ _ hy) (hT _ _ hz) hv)
        · cases hx
      · split at hx
        · rename_i y z h1
          have ha:=zz2 h1
          simp only[Option.bind_eq_some_iff,Option.map_eq_some_iff]at hx
          obtain⟨a,hy,c,hz,rfl⟩:=hx
          exact xx8 ho rfl ha (ev_b (hT _ _ hy) (hT _ _ hz) hv)
        · cases hx
    | value f=>simp [opX]at hx
    | invoke r m=>simp [opX]at hx
  | _=>rw[ho]at hx;simp [opX]at hx
end
def effX(P:Program)(tr:Tr):Op→Option E
 | .alloc t=>(zZ2 P t).map fun z=>.alloc t z.cells.toList
 | .box t x=>(tr x).map (.box t)
 | .makeSlice t l c=>(tr l).bind fun a=>(tr c).bind fun b =>
  match P.underlying t with
  | some (.slice el)=>(zg3 P el).bind fun n=>(yf9 P el).bind fun by'=>(zZ2 P el).map fun z=>.mk el n by' z.cells.toList a b
  | _=>none
 | .buildSlice t len parts =>
  match P.underlying t with
  | some (.slice el)=>(zg3 P el).bind fun n=>(zZ2 P el).bind fun z=>if len*n≤16777216 then(z57 tr (fun i=>some (i*n,n)) parts.toList).map fun l=>.lit el n len z.cells.toList l else none
  | _=>none
 | .store t p v=>(tr p).bind fun a=>(tr v).bind fun b=>(zg3 P t).map fun n=>.st n a b
 | .call {callee:=.builtin .append,args,argTypes} =>
  (match args.toList,argTypes.toList with
   | [s,x],[t,t'] =>
    (match P.underlying t,P.underlying t' with
    | some (.slice el),some (.slice _)=>(tr s).bind fun a=>(tr x).bind fun b=>(zg3 P el).bind fun n=>(yf9 P el).bind fun by'=>(zZ2 P el).bind fun z=>if z.cells.size=n then some (.app el n by' z.cells.toList a b)else none
    | _,_=>none)
   | _,_=>none)
 | .call {callee:=.builtin .copy,args,argTypes} =>
  (match args.toList,argTypes.toList with
   | [s,x],[t,_] =>
    (match P.underlying t with
    | some (.slice el)=>(tr s).bind fun a=>(tr x).bind fun b=>(zg3 P el).map fun n=>.cpy n a b
    | _=>none)
   | _,_=>none)
 | .call {callee:=.builtin .clear,args,argTypes} =>
  (match args.toList,argTypes.toList with
   | [s],[t] =>
    (match P.underlying t with
    | some (.slice el)=>(tr s).bind fun a=>(zZ2 P el).map fun z=>.clr z.cells.toList a
    | _=>none)
   | _,_=>none)
 | _=>none
def repA{α:Type}(n:Nat)(z:List α):List α:=(List.replicate n z).flatten
theorem z26{α:Type}(n:Nat)(z:List α):(repA n z).length=n*z.length:=by
 unfold repA;induction n with
 | zero=>simp
 | succ n ih=>rw[List.replicate_succ,List.flatten_cons,List.length_append,ih,Nat.add_mul];omega
theorem yM8{z:List Value}:∀(n i:Nat),i<n*z.length→(repA n z)[i]?=z[i % z.length]?
 | 0,i,h=>by simp at h
 | n+1,i,h=>by
  unfold repA
  rw[List.replicate_succ,List.flatten_cons]
  by_cases hi:i<z.length
  ·rw[List.getElem?_append_left hi,Nat.mod_eq_of_lt hi]
  ·rw[List.getElem?_append_right (by omega)]
   have:=yM8 (z:=z) n (i-z.length) (by rw[Nat.add_mul]at h;omega)
   unfold repA at this
   rw[this,← Nat.mod_eq_sub_mod (by omega)]
theorem yk4(z:List Value)(n:Nat):(madeCells z.toArray (n*z.length)).toList=repA n z:=by
 apply List.ext_getElem?
 intro i
 by_cases hi:i<n*z.length
 ·rw[yM8 n i hi]
  have hz:0<z.length:=Nat.pos_of_ne_zero fun h=>by rw[h]at hi;omega
  have hm:=Nat.mod_lt i hz
  simp [madeCells,hi,hm]
 ·rw[List.getElem?_eq_none (by simp [madeCells];omega),List.getElem?_eq_none (by rw[z26];omega)]
section
variable {P:Program} {tr:Tr} {e:List Value} {h:Heap} {R:Value→Heap→Prop} {K:Act→World→Prop} {o:Oper} {a:Act} {w:World}
theorem yM9{v:Value}{w':World}(hr:(execOp a.eval o).run P w=.ok (.value v) w')(hk:K (a.put o.dst v) w'):o.wp P a w K (fun _ _ _=>False):=by
 unfold Oper.wp;rw[hr];exact hk
theorem y8X{t n:Nat}(h:zg3 P t=some n):∃i,P.info? t=some i∧i.size=n:=by
 unfold zg3 at h;simpa using h
theorem yN0{t n:Nat}(h:yf9 P t=some n):∃i,P.info? t=some i∧i.bytes=n:=by
 unfold yf9 at h;simpa using h
theorem y5K{t:Nat}{z:Value}(h:zZ2 P t=some z):∃i,P.info? t=some i∧i.zero=some z:=by
 unfold zZ2 at h;simpa [Option.bind_eq_some_iff]using h
theorem zq9{size n:Nat}{x:Value}{cs:List Value}(h:cellsOf (hp w) size n x=some cs):(Builtin.firstCells size n x).run P w=.ok cs.toArray w:=by
 unfold cellsOf at h
 split at h
 ·rename_i h0
  split at h
  ·rename_i a l c
   cases h
   cases a with
   | none=>simp [Builtin.firstCells]
   | some a=>simp [Builtin.firstCells,h0,loadCells,loadCellsFrom]
  ·cases h
 ·split at h
  ·obtain⟨hl,hc⟩:=yk3 h
   have:=run_loadCells_list (P:=P) w ⟨_,_,none⟩ cs hc
   rw[hl]at this
   simpa [Builtin.firstCells]using this
  ·cases h;simp [Builtin.firstCells]
  ·cases h
theorem yG3{a:Option Addr}{off:Nat}{vs:List Value}{h':Heap}(hw:wr0 (hp w) a off vs=some h'):
    ∃w',(match a with|some a=>storeCells (a.add off) vs|none=>(pure ():Sem Unit)).run P w=.ok () w'∧hp w'=h'∧Rest w w':=by
  cases vs with
  | nil =>
    simp only[wr0,Option.some.injEq]at hw
    exact⟨w,by cases a<;>simp [storeCells],hw,Rest.refl w⟩
  | cons v vs =>
    simp only[wr0]at hw
    split at hw
    · rename_i b o
      obtain⟨w',h1,h2,h3⟩:=zo7 P (v :: vs) w b (o+off) 0 h' (by simpa using hw)
      exact⟨w',by simpa [zh2]using h1,h2,h3⟩
    · cases hw
def Made(P:Program)(o:Oper)(a:Act)(h:Heap)(R:Value→Heap→Prop):Prop:=∃s O,Mkr P o a s O∧∀b,h b=none→R (mkV s b) (upd h b O)
def xd8(P:Program)(o:Oper)(a:Act)(h:Heap)(R:Value→Heap→Prop):Prop:=∃b off vs h',Str P o a b off vs∧wr h b off vs=some h'∧R undef h'
def Did(P:Program)(o:Oper)(a:Act)(h:Heap)(R:Value→Heap→Prop):Prop :=
 ∀w,hp w=h→o.wp P a w (fun a' w'=>Rest w w'∧∃v,a'=a.put o.dst v∧R v (hp w')) (fun _ _ _=>False)
theorem y8Y{t:TypeId}{z:Value}(ho:o.op=.alloc t)(hz:zZ2 P t=some z)(hok:E.ok e h R (.alloc t z.cells.toList)):Made P o a h R:=by
 refine⟨none,.cells z.cells t,fun w=>?_,fun b hb=>by simpa [mkV]using hok b hb⟩
 simp [execOp,ho,Instr.alloc,zK2 hz,newVar,newRow,mkV]
theorem xx9{t:TypeId}{y:Operand}{x:X}(ho:o.op=.box t y)(hx:x.ev e h=some (a.eval y))(hok:E.ok e h R (.box t x)):Made P o a h R:=by
 obtain⟨v,hv,hR⟩:=hok
 rw[hx]at hv;cases hv
 refine⟨none,.cells (a.eval y).cells t,fun w=>?_,hR⟩
 simp [execOp,ho,Instr.box,newVar,newRow,mkV]
theorem e_mk {t el : TypeId} {l c : Operand} {n b : Nat} {z : Value} {lx cx : X} (ho : o.op = .makeSlice t l c) (hu : P.underlying t = some (.slice el)) (hn : zg3 P el = some n) (hb : yf9 P el = some b) (hz : zZ2 P el = some z)
    (hl:lx.ev e h=some (a.eval l)) (hc:cx.ev e h=some (a.eval c)) (hok:E.ok e h R (.mk el n b z.cells.toList lx cx)):Made P o a h R:=by
  obtain⟨kl,kc,li,ci,h1,h2,h3,h4,h5,h6,hR⟩:=hok
  rw[hl]at h1;rw[hc]at h2
  obtain⟨i,hi,rfl⟩:=y8X hn
  obtain⟨i',hi',rfl⟩:=yN0 hb
  obtain⟨i'',hi'',hz'⟩:=y5K hz
  rw[hi]at hi' hi'';cases hi';cases hi''
  refine⟨some (li.toNat,ci.toNat),.cells (madeCells z.cells (ci.toNat*i.size)) el,fun w=>?_,fun b hb=>by simpa [mkV]using hR b hb⟩
  have hr:=run_make (P:=P) w t el i z hu hi hz' kl kc li ci h3 h4 h5 h6
  simp only[Option.some.injEq]at h1 h2
  simp only[execOp,ho,h1,h2,Sem.run_bind,hr,Result.andThen_ok,Sem.run_pure,mkV]
theorem xy0 {t el : TypeId} {len : Nat} {parts : Array (Nat × Operand)} {n : Nat} {z : Value} {px : X} (hT : ∀ y z, tr y = some z → z.ev e h = some (a.eval y)) (ho : o.op = .buildSlice t len parts) (hu : P.underlying t = some (.slice el)) (hn : zg3 P el = some n)
    (hz:zZ2 P el=some z) (hle:len*n≤16777216) (hp:z57 tr (fun i=>some (i*n,n)) parts.toList=some px) (hok:E.ok e h R (.lit el n len z.cells.toList px)):Made P o a h R:=by
  obtain⟨vs,cs,h1,h2,hR⟩:=hok
  obtain⟨g1,g2⟩:=zO6 hT _ _ _ hp h1
  have h3:Instr.fill (fun i=>some (i*n,n)) (madeCells z.cells (len*n)) (parts.map fun(i,x)=>(i,a.eval x)).toList=some cs:=by
    refine z04 _ vs _ _ (by simpa using g1) (fun i k1 k2=>?_) (by simpa using h2)
    have:=g2 i (by simpa using k1) k2
    simpa using this
  refine⟨some (len,len),.cells cs el,fun w=>?_,fun b hb=>hR b hb⟩
  have hlim:¬(len*n>2 ^ 24):=by simp;omega
  by_cases h0:len*n=0
  · have h3' : Instr.fill (fun i => some (i * n, n)) ((Array.range 0).map ((#[] : Array Value)[· % (#[] : Array Value).size]!)) (parts.map fun (i, x) => (i, a.eval x)).toList = some cs := by
      have:madeCells z.cells (len*n)=(Array.range 0).map ((#[]:Array Value)[· % (#[]:Array Value).size]!):=by simp [madeCells,h0]
      rw[this]at h3;exact h3
    have hlim':¬(0>2 ^ 24):=by simp
    simp only[execOp,ho,Instr.buildSlice,Sem.run_bind,x8 hu,Result.andThen_ok,x7 hn,h0,hlim',if_false,if_true,Sem.run_pure]
    simp only[h3',newRow,Sem.run_bind,run_newObj,Result.andThen_ok,Sem.run_pure,mkV,World.alloc]
  · have h3':Instr.fill (fun i=>some (i*n,n)) ((Array.range (len*n)).map (z.cells[· % z.cells.size]!)) (parts.map fun(i,x)=>(i,a.eval x)).toList=some cs:=h3
    simp only[execOp,ho,Instr.buildSlice,Sem.run_bind,x8 hu,Result.andThen_ok,x7 hn,hlim,if_false,h0,zK2 hz,Sem.run_pure]
    simp only[h3',newRow,Sem.run_bind,run_newObj,Result.andThen_ok,Sem.run_pure,mkV,World.alloc]
theorem e_st{t:TypeId}{p v:Operand}{n:Nat}{px vx:X}(ho:o.op=.store t p v)(hn:zg3 P t=some n)(hp:px.ev e h=some (a.eval p))(hv:vx.ev e h=some (a.eval v))(hok:E.ok e h R (.st n px vx)):xd8 P o a h R:=by
 obtain⟨b,q,x,h',h1,h2,h3,h4,hR⟩:=hok
 rw[hp]at h1;rw[hv]at h2
 simp only[Option.some.injEq]at h1 h2
 refine⟨b,q,x.cells.toList,h',⟨t,p,v,ho,h1,by rw[h2],by rw[h2,h3];exact hn⟩,h4,hR⟩
theorem yt4{z:Array Value}{n size:Nat}(h:z.size=size):Builtin.zeroCells z n=madeCells z.toList.toArray (n*size):=by
 subst h;simp [Builtin.zeroCells,madeCells]
theorem xy1 {t t' el el' : TypeId} {s x : Operand} {c : Call} {n b : Nat} {z : Value} {sx xx : X} (ho : o.op = .call c) (hc : c.callee = .builtin .append) (ha : c.args = #[s, x]) (ht : c.argTypes = #[t, t']) (hu : P.underlying t = some (.slice el)) (hu' : P.underlying t' = some (.slice el'))
    (hn:zg3 P el=some n) (hb:yf9 P el=some b) (hz:zZ2 P el=some z) (hzs:z.cells.size=n) (hs:sx.ev e h=some (a.eval s)) (hx:xx.ev e h=some (a.eval x)) (hok:E.ok e h R (.app el n b z.cells.toList sx xx)):Did P o a h R:=by
  intro w hw
  subst hw
  obtain⟨ad,sl,sc,y,yl,yc,news,h1,h2,h3,h4,h5,h6,h7⟩:=hok
  rw[hs]at h1;rw[hx]at h2
  simp only[Option.some.injEq]at h1 h2
  have hf:=zq9 (P:=P) h3
  obtain⟨i,hi,hbi⟩:=yN0 hb
  have hti:∀w:World,(typeInfo el).run P w=.ok i w:=fun w=>by simp [typeInfo,hi]
  by_cases hroom:sl+yl≤sc
  · obtain⟨h',hw,hR⟩:=h6 hroom
    obtain⟨w',hst,hh',hrest⟩:=yG3 (P:=P) hw
    refine yM9 (w':=w') (v:=.slice ad (sl+yl) sc) ?_ ⟨hrest,_,rfl,by rw[hh'];exact hR⟩
    cases ad with
    | none =>
      simp only[Sem.run_pure,Result.ok.injEq,true_and]at hst
      subst hst
      simp [execOp,ho,resolve,hc,ha,ht,h1,h2,invoke,builtin,Builtin.append_,x8 hu,x8 hu',x7 hn,Builtin.lenOf,hroom,hf]
    | some q =>
      simp only at hst
      simp [execOp,ho,resolve,hc,ha,ht,h1,h2,invoke,builtin,Builtin.append_,x8 hu,x8 hu',x7 hn,Builtin.lenOf,hroom,hf,hst]
  · obtain⟨olds,ho1,ho2⟩:=h7 (by omega)
    have hcap:∃cap:Nat,cap=(Question.appendCap (sl+yl) sc el).cut (w.tape w.drawn (.appendCap (sl+yl) sc el))∧sl+yl≤cap∧cap≤9223372036854775807:=by
      refine⟨_,rfl,by simp [Question.cut],?_⟩
      have hlt:=Nat.mod_lt (w.tape w.drawn (.appendCap (sl+yl) sc el)) (show 0<2 ^ 63-(sl+yl) by omega)
      simp only[Question.cut]
      omega
    obtain⟨cap,hcp,c1,c2⟩:=hcap
    have hR:=ho2 cap w.heap.size (by simp [hp]) c1 c2
    have hfit:=growslice_fits (need:=sl+yl) (old:=sc) (bytes:=b) (by omega) h4
    have hold:=zq9 (P:=P) (w:=w.drew) (size:=n) (n:=sl) (x:=.slice ad sl sc) (cs:=olds) ho1
    have hnew:=zq9 (P:=P) (w:=w.drew) (size:=n) (n:=yl) (x:=.slice y yl yc) (cs:=news) h3
    have hmax:¬(IntKind.i64.max<((sl+yl:Nat):Int)):=by simp [IntKind.max,IntKind.bits,IntKind.signed];omega
    have hnfit:¬(281474976710656<Builtin.nextslicecap (sl+yl) sc*b):=by omega
    refine yM9 (w':=w.drew.alloc (.cells ((olds++news).toArray++madeCells z.cells.toList.toArray ((cap-(sl+yl))*n)) el)) (v:=.slice (some ⟨w.heap.size,0,none⟩) (sl+yl) cap) ?_ ⟨⟨rfl,rfl,rfl⟩,_,rfl,by rw[z7G];exact hR⟩
    simp only[execOp,ho,resolve,hc,ha,ht,List.map_toArray,List.map_cons,List.map_nil,h1,h2,Sem.run_bind,Sem.run_pure,Result.andThen_ok,invoke,builtin]
    simp only[Builtin.append_,List.getElem?_toArray,List.getElem?_cons_zero,List.getElem?_cons_succ,Sem.run_bind,x8 hu,x8 hu',x7 hn,Result.andThen_ok,Sem.run_pure,Builtin.lenOf,Bool.false_eq_true,if_false,hroom,hmax,false_and,hti,hbi,Nat.reducePow,gt_iff_lt,hnfit,
      run_choose,Question.forced,run_askRoom,Bool.not_false,if_true]
    rw[← hcp]
    have hd:({w with drawn:=w.drawn+1}:World)=w.drew:=rfl
    simp only[hd,hold,hnew,Result.andThen_ok,zK2 hz,newRow,Sem.run_bind,run_newObj,Sem.run_pure,yt4 hzs]
    simp
    rfl
theorem xy2 {t t' el : TypeId} {s x : Operand} {c : Call} {n : Nat} {sx xx : X} (ho : o.op = .call c) (hc : c.callee = .builtin .copy) (ha : c.args = #[s, x]) (ht : c.argTypes = #[t, t']) (hu : P.underlying t = some (.slice el)) (hn : zg3 P el = some n)
    (hs:sx.ev e h=some (a.eval s)) (hx:xx.ev e h=some (a.eval x)) (hok:E.ok e h R (.cpy n sx xx)):Did P o a h R:=by
  intro w hw
  subst hw
  obtain⟨ad,dl,dc,b,sl,sc,cs,h1,h2,h3,h',hw,hR⟩:=hok
  rw[hs]at h1;rw[hx]at h2
  simp only[Option.some.injEq]at h1 h2
  have hf:=zq9 (P:=P) h3
  have hmin:Nat.min sl dl=min sl dl:=rfl
  obtain⟨w',hst,hh',hrest⟩:=yG3 (P:=P) hw
  refine yM9 (w':=w') (v:=.int .i64 (min sl dl:Nat)) ?_ ⟨hrest,_,rfl,by rw[hh'];exact hR⟩
  cases ad with
  | none =>
    simp only[Sem.run_pure,Result.ok.injEq,true_and]at hst
    subst hst
    simp [execOp,ho,resolve,hc,ha,ht,h1,h2,invoke,builtin,Builtin.copy_,x8 hu,x7 hn,Builtin.lenOf,hmin,hf,goInt]
  | some q =>
    have hq:q.add 0=q:=by simp [Addr.add]
    simp only[hq]at hst
    simp [execOp,ho,resolve,hc,ha,ht,h1,h2,invoke,builtin,Builtin.copy_,x8 hu,x7 hn,Builtin.lenOf,hmin,hf,goInt,hst]
theorem xy3 {t el : TypeId} {s : Operand} {c : Call} {z : Value} {sx : X} (ho : o.op = .call c) (hc : c.callee = .builtin .clear) (ha : c.args = #[s]) (ht : c.argTypes = #[t]) (hu : P.underlying t = some (.slice el)) (hz : zZ2 P el = some z)
    (hs:sx.ev e h=some (a.eval s)) (hok:E.ok e h R (.clr z.cells.toList sx)):Did P o a h R:=by
  intro w hw
  subst hw
  obtain⟨ad,n,cp,h',h1,h2,hR⟩:=hok
  rw[hs]at h1
  simp only[Option.some.injEq]at h1
  have hzc:(Builtin.zeroCells z.cells n).toList=(List.replicate n z.cells.toList).flatten:=by
    rw[yt4 (size:=z.cells.size) rfl,show z.cells.size=z.cells.toList.length by simp,yk4];rfl
  obtain⟨w',hst,hh',hrest⟩:=yG3 (P:=P) h2
  refine yM9 (w':=w') (v:=undef) ?_ ⟨hrest,_,rfl,by rw[hh'];exact hR⟩
  cases n with
  | zero =>
    have:w'=w:=by
      simp at hst
      cases ad<;>simp [storeCells]at hst<;>exact hst.symm
    subst this
    cases ad<;>simp [execOp,ho,resolve,hc,ha,ht,h1,invoke,builtin,Builtin.clear_,x8 hu,undef]
  | succ n =>
    cases ad with
    | none =>
      simp only[Sem.run_pure,Result.ok.injEq,true_and]at hst
      subst hst
      simp [execOp,ho,resolve,hc,ha,ht,h1,invoke,builtin,Builtin.clear_,x8 hu,undef]
    | some q =>
      have hq:q.add 0=q:=by simp [Addr.add]
      simp only[hq]at hst
      simp [execOp,ho,resolve,hc,ha,ht,h1,invoke,builtin,Builtin.clear_,x8 hu,zK2 hz,hzc,hst,undef]
theorem y0M(hT:∀y z,tr y=some z→z.ev e h=some (a.eval y))(hk:kdOf o.op=3){f:E}(hx:effX P tr o.op=some f)(hok:f.ok e h R):Made P o a h R:=by
 cases ho:o.op with
 | alloc t =>
  rw[ho]at hx;simp only[effX,Option.map_eq_some_iff]at hx
  obtain⟨z,hz,rfl⟩:=hx
  exact y8Y ho hz hok
 | box t y =>
  rw[ho]at hx;simp only[effX,Option.map_eq_some_iff]at hx
  obtain⟨x,hy,rfl⟩:=hx
  exact xx9 ho (hT _ _ hy) hok
 | makeSlice t l c =>
  rw[ho]at hx;simp only[effX,Option.bind_eq_some_iff]at hx
  obtain⟨lx,hl,cx,hc,hx⟩:=hx
  split at hx
  ·rename_i hu
   simp only[Option.bind_eq_some_iff,Option.map_eq_some_iff]at hx
   obtain⟨n,hn,b,hb,z,hz,rfl⟩:=hx
   exact e_mk ho hu hn hb hz (hT _ _ hl) (hT _ _ hc) hok
  ·cases hx
 | buildSlice t len parts =>
  rw[ho]at hx;simp only[effX]at hx
  split at hx
  ·rename_i hu
   simp only[Option.bind_eq_some_iff]at hx
   obtain⟨n,hn,z,hz,hx⟩:=hx
   split at hx
   ·rename_i hle
    simp only[Option.map_eq_some_iff]at hx
    obtain⟨px,hp,rfl⟩:=hx
    exact xy0 hT ho hu hn hz hle hp hok
   ·cases hx
  ·cases hx
 | call c=>rw[ho]at hk;unfold kdOf at hk;split at hk<;>first|contradiction|cases hk
 | _=>rw[ho]at hk;simp [kdOf]at hk
theorem yG4(hT:∀y z,tr y=some z→z.ev e h=some (a.eval y))(hk:kdOf o.op=4){f:E}(hx:effX P tr o.op=some f)(hok:f.ok e h R):xd8 P o a h R:=by
 cases ho:o.op with
 | store t p v =>
  rw[ho]at hx;simp only[effX,Option.bind_eq_some_iff,Option.map_eq_some_iff]at hx
  obtain⟨px,hp,vx,hv,n,hn,rfl⟩:=hx
  exact e_st ho hn (hT _ _ hp) (hT _ _ hv) hok
 | call c=>rw[ho]at hk;unfold kdOf at hk;split at hk<;>first|contradiction|cases hk
 | _=>rw[ho]at hk;simp [kdOf]at hk
theorem y1y(hT:∀y z,tr y=some z→z.ev e h=some (a.eval y))(hk:kdOf o.op=2){f:E}(hx:effX P tr o.op=some f)(hok:f.ok e h R):Did P o a h R:=by
 cases ho:o.op with
 | call c =>
  rw[ho]at hx
  obtain⟨callee,args,ats⟩:=c
  cases callee with
  | builtin b =>
   cases b<;>simp only[effX]at hx<;>try (cases hx;done)
   ·split at hx
    ·rename_i s x t t' h1 h2
     split at hx
     ·rename_i hu hu'
      simp only[Option.bind_eq_some_iff]at hx
      obtain⟨sx,hs,xx,hxx,n,hn,b,hb,z,hz,hx⟩:=hx
      split at hx
      ·rename_i hzs
       cases hx
       exact xy1 ho rfl (zz2 h1) (zz2 h2) hu hu' hn hb hz hzs (hT _ _ hs) (hT _ _ hxx) hok
      ·cases hx
     ·cases hx
    ·cases hx
   ·split at hx
    ·rename_i s t h1 h2
     split at hx
     ·rename_i hu
      simp only[Option.bind_eq_some_iff,Option.map_eq_some_iff]at hx
      obtain⟨sx,hs,z,hz,rfl⟩:=hx
      exact xy3 ho rfl (z06 h1) (z06 h2) hu hz (hT _ _ hs) hok
     ·cases hx
    ·cases hx
   ·split at hx
    ·rename_i s x t t' h1 h2
     split at hx
     ·rename_i hu
      simp only[Option.bind_eq_some_iff,Option.map_eq_some_iff]at hx
      obtain⟨sx,hs,xx,hxx,n,hn,rfl⟩:=hx
      exact xy2 ho rfl (zz2 h1) (zz2 h2) hu hn (hT _ _ hs) (hT _ _ hxx) hok
     ·cases hx
    ·cases hx
  | value f=>simp [effX]at hx
  | invoke r m=>simp [effX]at hx
 | _=>first|(rw[ho]at hk;simp [kdOf]at hk;done)|(rw[ho]at hx;simp [effX]at hx;done)
end
structure Ent where
 slot:Nat
 full:X
 bare:Option ((Nat×Bool)×X)
def X.has(i:Nat):X→Bool
 | .var j=>i == j
 | .lit _=>false
 | .u _ a=>a.has i
 | .b _ a c=>a.has i || c.has i
 | .ite c a d=>c.has i || a.has i || d.has i
 | .slc _ _ a l q m=>a.has i || l.has i || q.has i || m.has i
 | .fn _ c=>c.has i
 | .bld _ p=>p.has i
 | .nl=>false
 | .cn a r=>a.has i || r.has i
 | .pl _ _ a r=>a.has i || r.has i
def X.mem:X→Bool
 | .var _=>false
 | .lit _=>false
 | .u .ld1 _=>true
 | .u (.lda _) _=>true
 | .u _ a=>a.mem
 | .b _ a c=>a.mem || c.mem
 | .ite c a d=>c.mem || a.mem || d.mem
 | .slc _ _ a l q m=>a.mem || l.mem || q.mem || m.mem
 | .fn _ c=>c.mem
 | .bld _ p=>p.mem
 | .nl=>false
 | .cn a r=>a.mem || r.mem
 | .pl _ _ a r=>a.mem || r.mem
def Ent.all(p:X→Bool)(n:Ent):Bool:=p n.full && (match n.bare with|some (_,x)=>p x|none=>true)
def look(σ:List Ent)(t:Nat):Option Ent:=σ.find? (fun n=>n.slot == t)
def z2s(t:Nat):Nat→List Nat→Option Nat
 | _,[]=>none
 | k,x :: r=>if x == t then some k else z2s t (k+1) r
def pos(V:List Nat)(t:Nat):Option Nat:=z2s t 0 V
def z1n(ops:Array Oper)(j:Nat):Option Nat:=(ops[j]?).bind (·.dst)
def zj7(ops:Array Oper)(d:Nat)(σ:List Ent):List Ent :=
 σ.filter fun n=>!(n.slot == d) && (match n.bare with|some ((j,_),_)=>!(z1n ops j == some d)|none=>true)
def z5d(k:Nat)(σ:List Ent):List Ent:=σ.filter fun n=>n.all fun x=>!x.has k
def yG5(σ:List Ent):List Ent:=σ.filter fun n=>n.all fun x=>!x.mem
def trans(V:List Nat)(σ:List Ent)(ok:List (Nat×Bool)):Tr
 | .const v=>some (.lit v)
 | .func f=>some (.lit (.func (.func f) #[] #[]))
 | .global g=>some (.lit (.pointer (some ⟨g,0,none⟩)))
 | .tmp t =>
  match look σ t with
  | some n=>(match n.bare with
   | some (g,x)=>if ok.contains g then some x else some n.full
   | none=>some n.full)
  | none=>(pos V t).map .var
def gent(V:List Nat)(σ:List Ent)(t:Nat):Option Ent :=
 match look σ t with
 | some n=>some n
 | none=>(pos V t).map fun i=>⟨t,.var i,none⟩
def yt5(ops:Array Oper)(V:List Nat)(σ:List Ent):Nat→Nat×Bool→X→Option X
 | 0,_,_=>none
 | f+1,(j,w),x=>(z1n ops j).bind fun d=>(gent V σ d).bind fun n =>
  match n.bare with
  | none=>some (if w then .ite n.full x (.lit undef)else .ite n.full (.lit undef) x)
  | some (g,c)=>yt5 ops V σ f g (if w then .ite c x (.lit undef)else .ite c (.lit undef) x)
inductive GS where
 | run
 | skip
 | opn (g:Nat×Bool)
 | bad
def yt6(ops:Array Oper)(V:List Nat)(σ:List Ent):Option (Nat×Bool)→GS
 | none=>.run
 | some (j,w) =>
  match(z1n ops j).bind (gent V σ)with
  | none=>.bad
  | some n=>(match n.full with
   | .lit (.bool b)=>if b == w then .run else .skip
   | .lit (.tuple vs)=>if vs.isEmpty then .skip else .bad
   | _=>.opn (j,w))
def gidx(ops:Array Oper)(t:Nat):Nat→Option Nat
 | 0=>none
 | i+1=>if z1n ops i == some t then some i else gidx ops t i
def y1z(P:Program)(ops:Array Oper)(V:List Nat)(σ:List Ent)(ok:List (Nat×Bool)):Op→Option X
 | .pick c a b=>(trans V σ ok c).bind fun cx =>
  match cx with
  | .lit (.bool t)=>trans V σ ok (if t then a else b)
  | cx =>
   (match c with
    | .tmp t=>(gidx ops t ops.size).bind fun j=>(trans V σ ((j,true) :: ok) a).bind fun ax=>(trans V σ ((j,false) :: ok) b).map fun bx=>.ite cx ax bx
    | _=>none)
 | op=>opX P (trans V σ ok) op
def yN1(ops:Array Oper)(d:Nat)(b:Bool)(σ:List Ent):List Ent :=
 ⟨d,.lit (.bool b),none⟩ :: (σ.filter fun n=>!(n.slot == d)).map fun n =>
  match n.bare with
  | some ((j,w),x)=>if z1n ops j == some d then(if w == b then⟨n.slot,x,none⟩else⟨n.slot,.lit undef,none⟩)else n
  | none=>n
def base(ops:Array Oper)(V:List Nat)(σ:List Ent):Nat→Nat→Option (Nat×X)
 | 0,_=>none
 | f+1,j=>(z1n ops j).bind fun d=>(gent V σ d).bind fun n =>
  match n.bare with
  | none=>some (d,n.full)
  | some ((j',_),_)=>base ops V σ f j'
def xd9(P:Program)(tr:Tr)(kp:Bool)(d:Option Nat)(c:Call)(k:S):Option S :=
 match c.callee with
 | .value (.func f)=>if zs0 P f then(yG1 tr c.args.toList).map fun as=>.call kp d f as k else none
 | .value x=>(tr x).bind fun fx=>(yG1 tr c.args.toList).map fun as=>.callv kp d fx as k
 | _=>none
def y8Z(m:Nat):Option Nat→Bool
 | some d=>decide (d<m)
 | none=>true
def z77(ops:Array Oper)(V:List Nat):Option Nat→List Ent→List Ent
 | none,σ=>σ
 | some d,σ=>match pos V d with
  | some k=>z5d k (zj7 ops d σ)
  | none=>zj7 ops d σ
def zf2(P:Program)(ops:Array Oper)(m:Nat)(V:List Nat)(kp:Nat→Bool)(leaf:List Ent→Option S):Nat→List Ent→List Nat→Option S
 | 0,_,_=>none
 | _+1,σ,[]=>leaf σ
 | f+1,σ,i :: rest =>
  (ops[i]?).bind fun o =>
  if y8Z m o.dst then
  match yt6 ops V σ o.guard with
  | .bad=>none
  | .skip=>(match o.dst with
   | none=>zf2 P ops m V kp leaf f σ rest
   | some d=>(match pos V d with
    | some k=>(zf2 P ops m V kp leaf f (z5d k (zj7 ops d σ)) rest).map (.set k (.lit undef))
    | none=>zf2 P ops m V kp leaf f (⟨d,.lit undef,none⟩ :: zj7 ops d σ) rest))
  | .run =>
   if 2≤kdOf o.op then
    (zf2 P ops m V kp leaf f (if kdOf o.op=3 then z77 ops V o.dst σ else yG5 (z77 ops V o.dst σ)) rest).bind fun k =>
    match effX P (trans V σ []) o.op with
    | some e=>some (.eff (kp i) (o.dst.bind (pos V)) e k)
    | none=>(match o.op with
     | .call c=>xd9 P (trans V σ []) (kp i) (o.dst.bind (pos V)) c k
     | .panic _=>some .stop
     | _=>none)
   else
    (y1z P ops V σ [] o.op).bind fun x =>
    match o.dst with
    | none=>(zf2 P ops m V kp leaf f σ rest).map (.chk x)
    | some d=>(match pos V d with
     | some k=>(zf2 P ops m V kp leaf f (z5d k (zj7 ops d σ)) rest).map (.set k x)
     | none=>(zf2 P ops m V kp leaf f (⟨d,x,none⟩ :: zj7 ops d σ) rest).map (.chk x))
  | .opn g =>
   if 2≤kdOf o.op then
    (base ops V σ (ops.size+1) g.1).bind fun(d,c) =>
    (zf2 P ops m V kp leaf f (yN1 ops d true σ) (i :: rest)).bind fun s1 =>
    (zf2 P ops m V kp leaf f (yN1 ops d false σ) (i :: rest)).map fun s2=>.ite c s1 s2
   else
    (y1z P ops V σ [g] o.op).bind fun x=>(yt5 ops V σ (ops.size+1) g x).bind fun y =>
    match o.dst with
    | none=>(zf2 P ops m V kp leaf f σ rest).map (.chk y)
    | some d=>(match pos V d with
     | some k=>(zf2 P ops m V kp leaf f (z5d k (zj7 ops d σ)) rest).map (.set k y)
     | none=>(zf2 P ops m V kp leaf f (⟨d,y,if z1n ops g.1 == some d then none else some (g,x)⟩ :: zj7 ops d σ) rest).map (.chk y))
  else none
def kdAt(ops:Array Oper)(i:Nat):Nat:=match ops[i]? with|some o=>kdOf o.op|none=>0
def y1A(bm:List Nat)(left:List Nat)(i:Nat):Bool:=left.all fun j=>!((bm.getD i 0).testBit j)
def xe0(ops:Array Oper)(bm left:List Nat):Option Nat :=
 match left.find? (fun i=>decide (kdAt ops i<2) && y1A bm left i)with
 | some i=>some i
 | none=>match left.find? (fun i=>kdAt ops i == 3 && y1A bm left i)with
  | some i=>some i
  | none=>left.find? (y1A bm left)
def y1B(ops:Array Oper)(bm:List Nat):Nat→List Nat→List Nat
 | 0,_=>[]
 | f+1,left=>match xe0 ops bm left with
  | none=>[]
  | some i=>i :: y1B ops bm f (left.erase i)
def kpOf(ops:Array Oper)(bm:List Nat):List Nat→List Nat→List Nat
 | _,[]=>[]
 | pre,i :: r=>(if kdAt ops i == 2 && pre.any (fun j=>kdAt ops j == 1 && !((bm.getD i 0).testBit j))then[i]else[])++kpOf ops bm (i :: pre) r
def klOf(nk:Bool)(ops:Array Oper)(bm:List Nat)(l:List Nat):List Nat:=if nk then[]else kpOf ops bm [] l
def xe1(ops:Array Oper)(bm:List Nat)(kl:List Nat)(i:Nat):List Nat→Option (Nat×Nat)
 | []=>none
 | j :: r=>if yM6 ops bm (kdAt ops) (fun k=>kl.contains k) i j then xe1 ops bm kl i r else some (i,j)
def yN2(ops:Array Oper)(bm:List Nat)(kl:List Nat):List Nat→Option (Nat×Nat)
 | []=>none
 | i :: r=>match xe1 ops bm kl i r with
  | some p=>some p
  | none=>yN2 ops bm kl r
def z07(P:Program)(m:Nat)(V:List Nat)(nk:Bool)(ops:Array Oper)(leaf:List Ent→Option S):Nat→List (Nat×Nat)→Option S
 | 0,_=>none
 | f+1,ex =>
  let bm:=y5I ex [] ops.toList
  let l:=y1B ops bm ops.size (List.range ops.size)
  let kl:=klOf nk ops bm l
  if yF9 ops ex (kdAt ops) (fun i=>kl.contains i) l then zf2 P ops m V (fun i=>kl.contains i) leaf (8*ops.size+8) [] l
  else match yN2 ops bm kl l with
   | none=>none
   | some (i,j)=>if i=j then none else(z07 P m V nk ops leaf f ((i,j) :: ex)).bind fun a=>(z07 P m V nk ops leaf f ((j,i) :: ex)).map fun b=>.both a b
def zo8(P:Program)(m:Nat)(V:List Nat)(nk:Bool)(ops:Array Oper)(draw:Bool)(leaf:List Ent→Option S):Option S :=
 if draw then z07 P m V nk ops leaf 16 []
 else zf2 P ops m V (fun _=>false) leaf (8*ops.size+8) [] (List.range ops.size)
def S.app:S→S→S
 | .nxt,k=>k
 | .set i x s,k=>.set i x (s.app k)
 | .chk x s,k=>.chk x (s.app k)
 | .eff p d e s,k=>.eff p d e (s.app k)
 | .call p d f as s,k=>.call p d f as (s.app k)
 | .callv p d f as s,k=>.callv p d f as (s.app k)
 | s,k=>.seq s k
def comp(P:Program)(m:Nat)(V:List Nat)(nk:Bool):Code→Option S
 | .skip=>some .nxt
 | .label _=>some .nxt
 | .region _ ops d=>zo8 P m V nk ops d (fun _=>some .nxt)
 | .seq (.region _ ops d) (.cond c x y)=>(comp P m V nk x).bind fun A=>(comp P m V nk y).bind fun B =>
  (match c with
   | .tmp t=>(match pos V t with
    | some k=>(zo8 P m V nk ops d (fun _=>some .nxt)).map fun r=>r.app (.ite (.var k) A B)
    | none=>zo8 P m V nk ops d (fun σ=>(trans V σ [] (.tmp t)).map fun q=>.ite q A B))
   | c=>zo8 P m V nk ops d (fun σ=>(trans V σ [] c).map fun q=>.ite q A B))
 | .seq a b=>(comp P m V nk a).bind fun A=>(comp P m V nk b).map fun B=>A.app B
 | .cond c x y=>(comp P m V nk x).bind fun A=>(comp P m V nk y).bind fun B=>(trans V [] [] c).map fun q=>.ite q A B
 | .block id c=>(comp P m V nk c).map (.blk id)
 | .loop c=>(comp P m V nk c).map .loop
 | .scope c=>comp P m V nk c
 | .exit id=>some (.exit id)
 | .ret=>some .ret
 | _=>none
def y80:Value→Value→Bool
 | .int k a,.int k' b=>k == k' && a == b
 | .bool a,.bool b=>a == b
 | .pointer none,.pointer none=>true
 | .slice none a b,.slice none c d=>a == c && b == d
 | _,_=>false
def K1.eq:K1→K1→Bool
 | .len,.len | .nilc,.nilc | .ld1,.ld1=>true
 | .fld a,.fld b | .lda a,.lda b | .prt a,.prt b | .ext a,.ext b=>a == b
 | .prta a n,.prta b k=>a == b && n == k
 | .conv k,.conv k'=>k == k'
 | .un .not,.un .not=>true
 | .un .neg,.un .neg=>true
 | _,_=>false
def K2.eq:K2→K2→Bool
 | .bin .add,.bin .add | .bin .sub,.bin .sub | .bin .mul,.bin .mul | .bin .quo,.bin .quo | .bin .rem,.bin .rem=>true
 | .bin .eql,.bin .eql | .bin .neq,.bin .neq | .bin .lss,.bin .lss | .bin .leq,.bin .leq | .bin .gtr,.bin .gtr | .bin .geq,.bin .geq=>true
 | .bin .shl,.bin .shl | .bin .shr,.bin .shr | .bin .and,.bin .and | .bin .or,.bin .or=>true
 | .eqb a,.eqb b | .eqp a,.eqp b | .eqs a,.eqs b | .eqf a,.eqf b=>a == b
 | .eqi a n,.eqi b k=>a == b && n == k
 | .idx a,.idx b=>a == b
 | .idxa a n,.idxa b k=>a == b && n == k
 | .ixv a n g,.ixv b k g'=>a == b && n == k && g == g'
 | .mx,.mx | .mn,.mn | .ixs,.ixs=>true
 | _,_=>false
def X.eq:X→X→Bool
 | .var i,.var j=>i == j
 | .lit a,.lit d=>y80 a d
 | .u k a,.u k' d=>k.eq k' && a.eq d
 | .b k a c,.b k' a' c'=>k.eq k' && a.eq a' && c.eq c'
 | .ite c a d,.ite c' a' d'=>c.eq c' && a.eq a' && d.eq d'
 | _,_=>false
def y6Q(cov:X→X→Bool)(x y:X):Bool :=
 match x,y with
 | .ite c a b,.ite c' a' b'=>c.eq c' && cov a a' && cov b b'
 | _,_=>false
def cov:Nat→X→X→Bool
 | 0,_,_=>false
 | f+1,x,y =>
  (match x with | .var _=>true | .lit _=>true|_=>false) || x.eq y || y6Q (cov f) x y ||
  (match y with
   | .u _ a=>cov f x a
   | .b _ a c=>cov f x a || cov f x c
   | .ite c _ _=>cov f x c
   | .slc _ _ a l u _=>cov f x a || cov f x l || cov f x u
   | .fn _ c=>cov f x c
   | .bld _ p=>cov f x p
   | .cn a r=>cov f x a || cov f x r
   | .pl _ _ a r=>cov f x a || cov f x r
   | _=>false)
def S.first:S→List X
 | .set _ x _=>[x]
 | .chk x _=>[x]
 | .ite c _ _=>[c]
 | .call _ _ _ as _=>[as]
 | .callv _ _ f as _=>[f,as]
 | .eff _ _ (.box _ x) _=>[x]
 | .eff _ _ (.st _ p v) _=>[p,v]
 | .eff _ _ (.mk _ _ _ _ l c) _=>[l,c]
 | .eff _ _ (.app _ _ _ _ s x) _=>[s,x]
 | .eff _ _ (.lit _ _ _ _ ps) _=>[ps]
 | .seq a _=>a.first
 | _=>[]
def chkO(x:X)(k:S):S:=if k.first.any (cov 40 x)then k else .chk x k
def S.opt:S→S
 | .nxt=>.nxt
 | .set i x s=>.set i x s.opt
 | .chk x s=>chkO x s.opt
 | .eff p d e s=>.eff p d e s.opt
 | .call p d f as s=>.call p d f as s.opt
 | .callv p d f as s=>.callv p d f as s.opt
 | .ite c a b=>.ite c a.opt b.opt
 | .both a b=>.both a.opt b.opt
 | .seq a b=>.seq a.opt b.opt
 | .blk id a=>.blk id a.opt
 | .loop a=>.loop a.opt
 | .exit id=>.exit id
 | .ret=>.ret
 | .stop=>.stop
def resX(P:Program)(V:List Nat):List ResultVar→Option (List X)
 | []=>some []
 | .tmp t :: r=>(pos V t).bind fun i=>(resX P V r).map fun l=>.var i :: l
 | .cell t ty :: r=>(pos V t).bind fun i=>(aggT P ty).bind fun g=>(zg3 P ty).bind fun n=>(resX P V r).map fun l=>.u (if g then .lda n else .ld1) (.var i) :: l
def zC2:List Nat→Bool
 | []=>true
 | x :: r=>!r.contains x && zC2 r
structure Fun where
 body:S
 res:List X
def yt7(P:Program)(fn:Func)(V:List Nat)(nk:Bool:=false):Option Fun :=
 if zC2 V && V.all (fun t=>decide (t<fn.ntmps))then
  fn.body.bind fun c=>(comp P fn.ntmps V nk c).bind fun s=>(resX P V fn.results.toList).map fun r=>⟨s.opt,r⟩
 else none
theorem X.ev_set_all(k:Nat)(v:Value)(e:List Value)(h:Heap)(x:X):x.has k=false→x.ev (e.set k v) h=x.ev e h∧x.evs (e.set k v) h=x.evs e h∧x.evp (e.set k v) h=x.evp e h:=by
 induction x with
 | var i =>
  intro hx
  have hne:k≠i:=by simpa [X.has]using hx
  exact⟨by simp [X.ev,List.getElem?_set_ne hne],by simp [X.evs],by simp [X.evp]⟩
 | lit w=>intro _;exact⟨by simp [X.ev],by simp [X.evs],by simp [X.evp]⟩
 | u k' a ih=>intro hx;have:=ih (by simpa [X.has]using hx);exact⟨by simp [X.ev,this.1],by simp [X.evs],by simp [X.evp]⟩
 | b k' a c iha ihc =>
  intro hx
  simp only[X.has,Bool.or_eq_false_iff]at hx
  exact⟨by simp [X.ev,(iha hx.1).1,(ihc hx.2).1],by simp [X.evs],by simp [X.evp]⟩
 | ite c a d ihc iha ihd =>
  intro hx
  simp only[X.has,Bool.or_eq_false_iff]at hx
  exact⟨by simp [X.ev,(iha hx.1.2).1,(ihc hx.1.1).1,(ihd hx.2).1],by simp [X.evs],by simp [X.evp]⟩
 | slc arr n a l q m iha ihl ihq ihm =>
  intro hx
  simp only[X.has,Bool.or_eq_false_iff]at hx
  refine⟨?_,by simp [X.evs],by simp [X.evp]⟩
  cases m<;>simp [X.ev,(iha hx.1.1.1).1,(ihl hx.1.1.2).1,(ihq hx.1.2).1]<;>(have:=(ihm hx.2).1;simp [X.ev]at this;simp [this])
 | fn f c ih=>intro hx;have:=ih (by simpa [X.has]using hx);exact⟨by simp [X.ev,this.2.1],by simp [X.evs],by simp [X.evp]⟩
 | bld z p ih=>intro hx;have:=ih (by simpa [X.has]using hx);exact⟨by simp [X.ev,this.2.2],by simp [X.evs],by simp [X.evp]⟩
 | nl=>intro _;exact⟨by simp [X.ev],by simp [X.evs],by simp [X.evp]⟩
 | cn a r iha ihr =>
  intro hx
  simp only[X.has,Bool.or_eq_false_iff]at hx
  exact⟨by simp [X.ev],by simp [X.evs,(iha hx.1).1,(ihr hx.2).2.1],by simp [X.evp]⟩
 | pl o n a r iha ihr =>
  intro hx
  simp only[X.has,Bool.or_eq_false_iff]at hx
  exact⟨by simp [X.ev],by simp [X.evs],by simp [X.evp,(iha hx.1).1,(ihr hx.2).2.2]⟩
theorem yN3{k:K1}(x:Value)(h h':Heap)(hk:∀a,(X.u k a).mem=a.mem):k1v k x h'=k1v k x h:=by
 have hk0:=hk (.var 0)
 cases k<;>(try (simp [X.mem]at hk0;done))<;>(cases x with
  | func fn p q=>cases fn<;>rfl
  | pointer a=>rcases a with _|⟨b,o,_|s⟩<;>rfl
  | _=>rfl)
theorem X.ev_mem_all(e:List Value)(h h':Heap)(x:X):x.mem=false→x.ev e h'=x.ev e h∧x.evs e h'=x.evs e h∧x.evp e h'=x.evp e h:=by
 induction x with
 | var i=>intro _;exact⟨by simp [X.ev],by simp [X.evs],by simp [X.evp]⟩
 | lit w=>intro _;exact⟨by simp [X.ev],by simp [X.evs],by simp [X.evp]⟩
 | u k' a ih =>
  intro hx
  refine⟨?_,by simp [X.evs],by simp [X.evp]⟩
  cases k'<;>(try (simp [X.mem]at hx;done))<;>(have:=ih (by simpa [X.mem]using hx);simp only[X.ev,this.1];first|done|(congr 1;done)|(congr 1;funext y;exact yN3 y h h' (fun a=>by simp [X.mem])))
 | b k' a c iha ihc =>
  intro hx
  simp only[X.mem,Bool.or_eq_false_iff]at hx
  exact⟨by simp [X.ev,(iha hx.1).1,(ihc hx.2).1],by simp [X.evs],by simp [X.evp]⟩
 | ite c a d ihc iha ihd =>
  intro hx
  simp only[X.mem,Bool.or_eq_false_iff]at hx
  exact⟨by simp [X.ev,(iha hx.1.2).1,(ihc hx.1.1).1,(ihd hx.2).1],by simp [X.evs],by simp [X.evp]⟩
 | slc arr n a l q m iha ihl ihq ihm =>
  intro hx
  simp only[X.mem,Bool.or_eq_false_iff]at hx
  refine⟨?_,by simp [X.evs],by simp [X.evp]⟩
  have h4:=(ihm hx.2).1
  cases m<;>simp only[X.ev,(iha hx.1.1.1).1,(ihl hx.1.1.2).1,(ihq hx.1.2).1]<;>(simp only[X.ev]at h4;simp only[h4])
 | fn f c ih=>intro hx;have:=ih (by simpa [X.mem]using hx);exact⟨by simp [X.ev,this.2.1],by simp [X.evs],by simp [X.evp]⟩
 | bld z p ih=>intro hx;have:=ih (by simpa [X.mem]using hx);exact⟨by simp [X.ev,this.2.2],by simp [X.evs],by simp [X.evp]⟩
 | nl=>intro _;exact⟨by simp [X.ev],by simp [X.evs],by simp [X.evp]⟩
 | cn a r iha ihr =>
  intro hx
  simp only[X.mem,Bool.or_eq_false_iff]at hx
  exact⟨by simp [X.ev],by simp [X.evs,(iha hx.1).1,(ihr hx.2).2.1],by simp [X.evp]⟩
 | pl o n a r iha ihr =>
  intro hx
  simp only[X.mem,Bool.or_eq_false_iff]at hx
  exact⟨by simp [X.ev],by simp [X.evs],by simp [X.evp,(iha hx.1).1,(ihr hx.2).2.2]⟩
theorem y81{h h':Heap}(he:Ext h h'){k:K1}{x v:Value}(hk:k1v k x h=some v):k1v k x h'=some v:=by
 cases k with
 | ld1=>obtain⟨b,o,rfl,hr⟩:=y8V hk;simp [k1v,zz5 he hr]
 | lda n=>obtain⟨b,o,vs,rfl,hr,rfl⟩:=y8W hk;simp [k1v,zz5 he hr]
 | _=>rw[yN3 x h h' (fun a=>by simp [X.mem])];exact hk
theorem X.ev_ext_all{h h':Heap}(he:Ext h h')(e:List Value)(x:X):(∀v,x.ev e h=some v→x.ev e h'=some v)∧(∀v,x.evs e h=some v→x.evs e h'=some v)∧(∀v,x.evp e h=some v→x.evp e h'=some v):=by
 induction x with
 | var i=>exact⟨by simp [X.ev],by simp [X.evs],by simp [X.evp]⟩
 | lit w=>exact⟨by simp [X.ev],by simp [X.evs],by simp [X.evp]⟩
 | u k a ih =>
  refine⟨fun v hv=>?_,by simp [X.evs],by simp [X.evp]⟩
  simp only[X.ev,Option.bind_eq_some_iff]at hv ⊢
  obtain⟨y,hy,hk⟩:=hv
  exact⟨y,ih.1 _ hy,y81 he hk⟩
 | b k a c iha ihc =>
  refine⟨fun v hv=>?_,by simp [X.evs],by simp [X.evp]⟩
  simp only[X.ev,Option.bind_eq_some_iff]at hv ⊢
  obtain⟨y,hy,z,hz,hk⟩:=hv
  exact⟨y,iha.1 _ hy,z,ihc.1 _ hz,hk⟩
 | ite c a d ihc iha ihd =>
  refine⟨fun v hv=>?_,by simp [X.evs],by simp [X.evp]⟩
  simp only[X.ev,Option.bind_eq_some_iff]at hv ⊢
  obtain⟨y,hy,hk⟩:=hv
  refine⟨y,ihc.1 _ hy,?_⟩
  split at hk
  ·exact iha.1 _ hk
  ·exact ihd.1 _ hk
  ·cases hk
 | slc arr n a l q m iha ihl ihq ihm =>
  refine⟨fun v hv=>?_,by simp [X.evs],by simp [X.evp]⟩
  cases m<;>simp only[X.ev,Option.bind_eq_some_iff]at hv ihm ⊢ <;>
   (obtain⟨y,hy,z,hz,u,hu,hk⟩:=hv;refine⟨y,iha.1 _ hy,z,ihl.1 _ hz,u,ihq.1 _ hu,?_⟩)<;>first
   | exact hk
   | (obtain⟨m,hm,hk⟩:=hk;exact⟨m,ihm.1 _ hm,hk⟩)
   | (cases hk;done)
   | (simp at hk;done)
   | (obtain⟨m,hm,hk⟩:=hk;refine⟨m,?_,hk⟩;have:=ihm.1 m;simp only[Option.bind_eq_some_iff]at this;exact this hm)
 | fn f c ih =>
  refine⟨fun v hv=>?_,by simp [X.evs],by simp [X.evp]⟩
  simp only[X.ev,Option.map_eq_some_iff]at hv ⊢
  obtain⟨y,hy,hk⟩:=hv
  exact⟨y,ih.2.1 _ hy,hk⟩
 | bld z p ih =>
  refine⟨fun v hv=>?_,by simp [X.evs],by simp [X.evp]⟩
  simp only[X.ev,Option.bind_eq_some_iff]at hv ⊢
  obtain⟨y,hy,hk⟩:=hv
  exact⟨y,ih.2.2 _ hy,hk⟩
 | nl=>exact⟨by simp [X.ev],by simp [X.evs],by simp [X.evp]⟩
 | cn a r iha ihr =>
  refine⟨by simp [X.ev],fun v hv=>?_,by simp [X.evp]⟩
  simp only[X.evs,Option.bind_eq_some_iff,Option.map_eq_some_iff]at hv ⊢
  obtain⟨y,hy,z,hz,hk⟩:=hv
  exact⟨y,iha.1 _ hy,z,ihr.2.1 _ hz,hk⟩
 | pl o n a r iha ihr =>
  refine⟨by simp [X.ev],by simp [X.evs],fun v hv=>?_⟩
  simp only[X.evp,Option.bind_eq_some_iff]at hv ⊢
  obtain⟨y,hy,hk⟩:=hv
  refine⟨y,iha.1 _ hy,?_⟩
  split at hk
  ·rename_i hs
   rw[if_pos hs]
   simp only[Option.map_eq_some_iff]at hk ⊢
   obtain⟨z,hz,hk⟩:=hk
   exact⟨z,ihr.2.2 _ hz,hk⟩
  ·cases hk
def x4(V:List Nat)(a:Act):List Value:=V.map fun t=>a.tmps.getD t undef
section
variable {P:Program} {ops:Array Oper} {V:List Nat} {σ:List Ent} {a:Act} {h:Heap} {m:Nat}
structure Okay(ops:Array Oper)(V:List Nat)(a:Act)(h:Heap)(n:Ent):Prop where
 full:n.full.ev (x4 V a) h=some (a.tmps.getD n.slot undef)
 bare:∀g x,n.bare=some (g,x)→(yielded ops a.tmps g.1=some g.2→x.ev (x4 V a) h=some (a.tmps.getD n.slot undef))∧(yielded ops a.tmps g.1≠some g.2→a.tmps.getD n.slot undef=undef)
def Inv(ops:Array Oper)(V:List Nat)(σ:List Ent)(a:Act)(h:Heap):Prop:=∀n∈σ,Okay ops V a h n
theorem zo9{j d:Nat}{b:Bool}(hd:z1n ops j=some d):yielded ops a.tmps j=some b↔a.tmps.getD d undef=.bool b:=by
 unfold yielded
 unfold z1n at hd
 rw[hd]
 simp only[Option.bind_some,Array.getD_eq_getD_getElem?]
 cases ht:a.tmps[d]? with
 | none=>simp [undef]
 | some v=>cases v<;>simp
theorem yN4{t:Nat}{n:Ent}(hl:look σ t=some n):n∈σ∧n.slot=t:=by
 unfold look at hl
 exact⟨List.mem_of_find?_eq_some hl,by simpa using List.find?_some hl⟩
theorem z59{t:Nat}:∀(V:List Nat) (k i:Nat),z2s t k V=some i→k≤i∧V[i-k]?=some t
 | [],k,i,h=>by simp [z2s]at h
 | x :: r,k,i,h=>by
  simp only[z2s]at h
  split at h
  ·rename_i hx
   cases h
   simp at hx
   simp [hx]
  ·obtain⟨h1,h2⟩:=z59 r (k+1) i h
   refine⟨by omega,?_⟩
   rw[show i-k=(i-(k+1))+1 from by omega]
   simpa using h2
theorem yk5{t i:Nat}(h:pos V t=some i):V[i]?=some t:=by simpa using (z59 V 0 i h).2
theorem z6a{t:Nat}:∀(V:List Nat) (k:Nat),z2s t k V=none→t ∉ V
 | [],k,h=>by simp
 | x :: r,k,h=>by
  simp only[z2s]at h
  split at h
  ·cases h
  ·rename_i hx
   have:=z6a r _ h
   simp at hx
   simp [this,Ne.symm hx]
theorem z2t{t i:Nat}(h:pos V t=some i):(x4 V a).getD i undef=a.tmps.getD t undef:=by
 have:=yk5 h
 simp [x4,this]
theorem y5L{t i:Nat}(hq:pos V t=some i):Okay ops V a h ⟨t,.var i,none⟩:=by
 refine⟨?_,fun g x hb=>by cases hb⟩
 show some ((x4 V a).getD i undef)=_
 rw[z2t hq]
theorem z27(hI:Inv ops V σ a h){t:Nat}{n:Ent}(hg:gent V σ t=some n):Okay ops V a h n∧n.slot=t:=by
 unfold gent at hg
 split at hg
 ·rename_i n' hl
  cases hg
  obtain⟨h1,h2⟩:=yN4 hl
  exact⟨hI _ h1,h2⟩
 ·obtain⟨i,hi,rfl⟩:=Option.map_eq_some_iff.1 hg
  exact⟨y5L hi,rfl⟩
theorem zg4(hI:Inv ops V σ a h){ok:List (Nat×Bool)}(hok:∀g∈ok,yielded ops a.tmps g.1=some g.2)(y:Operand)(z:X)(ht:trans V σ ok y=some z):
    z.ev (x4 V a) h=some (a.eval y):=by
  cases y with
  | const v=>simp [trans]at ht;subst ht;simp [X.ev,Act.eval]
  | func f=>simp [trans]at ht;subst ht;simp [X.ev,Act.eval]
  | global g=>simp [trans]at ht;subst ht;simp [X.ev,Act.eval]
  | tmp t =>
    simp only[trans]at ht
    split at ht
    · rename_i n hl
      obtain⟨hm,hs⟩:=yN4 hl
      have hn:=hI n hm
      split at ht
      · rename_i g x hb
        split at ht
        · rename_i hc
          have:=(hn.bare g x hb).1 (hok g (by simpa using hc))
          rw[← Option.some.inj ht,this,hs];rfl
        · cases ht;rw[hn.full,hs];rfl
      · cases ht;rw[hn.full,hs];rfl
    · obtain⟨i,hi,rfl⟩:=Option.map_eq_some_iff.1 ht
      show some ((x4 V a).getD i undef)=_
      rw[z2t hi];rfl
theorem yN5{y c:X}{w:Bool}{e:List Value}{v vd:Value}(hc:c.ev e h=some vd)(hv:(if w then X.ite c y (.lit undef)else X.ite c (.lit undef) y).ev e h=some v):
    (vd=.bool w→y.ev e h=some v)∧(vd≠.bool w→v=undef):=by
  cases w<;>simp only[Bool.false_eq_true,if_false,if_true,X.ev,hc,Option.bind_some]at hv<;>split at hv<;>simp_all
theorem zZ3(hI:Inv ops V σ a h):∀(f:Nat) (g:Nat×Bool) (x y:X) (v:Value),yt5 ops V σ f g x=some y→y.ev (x4 V a) h=some v →
    (yielded ops a.tmps g.1=some g.2→x.ev (x4 V a) h=some v)∧(yielded ops a.tmps g.1≠some g.2→v=undef)
  | 0,_,_,_,_,hg,_=>by simp [yt5]at hg
  | f+1,(j,w),x,y,v,hg,hv=>by
    simp only[yt5,Option.bind_eq_some_iff]at hg
    obtain⟨d,hd,n,hn,hg⟩:=hg
    obtain⟨hok,hs⟩:=z27 hI hn
    have hy:∀b,yielded ops a.tmps j=some b↔a.tmps.getD d undef=.bool b:=fun b=>zo9 hd
    split at hg
    · cases hg
      have hf:=hok.full
      rw[hs]at hf
      obtain⟨h1,h2⟩:=yN5 hf hv
      exact⟨fun h=>h1 ((hy w).1 h),fun h=>h2 (fun hc=>h ((hy w).2 hc))⟩
    · rename_i g' c hb
      obtain⟨h1,h2⟩:=zZ3 hI f g' _ y v hg hv
      obtain⟨b1,b2⟩:=hok.bare _ _ hb
      rw[hs]at b1 b2
      by_cases hg':yielded ops a.tmps g'.1=some g'.2
      · obtain⟨k1,k2⟩:=yN5 (b1 hg') (h1 hg')
        exact⟨fun h=>k1 ((hy w).1 h),fun h=>k2 (fun hc=>h ((hy w).2 hc))⟩
      · have hu:=b2 hg'
        refine⟨fun h=>?_,fun _=>h2 hg'⟩
        have:=(hy w).1 h
        rw[hu]at this;cases this
theorem z08{o:Oper}{j:Nat}{w:Bool}(hg:o.guard=some (j,w)):Region.wanted o (yielded ops a.tmps)=true↔yielded ops a.tmps j=some w:=by
 simp [Region.wanted,hg]
theorem y1C(hI:Inv ops V σ a h){o:Oper}(hg:yt6 ops V σ o.guard=.run):Region.wanted o (yielded ops a.tmps)=true:=by
 cases hgd:o.guard with
 | none=>simp [Region.wanted,hgd]
 | some g =>
  obtain⟨j,w⟩:=g
  rw[hgd]at hg
  simp only[yt6]at hg
  rw[z08 hgd]
  split at hg
  ·cases hg
  ·rename_i n hn
   simp only[Option.bind_eq_some_iff]at hn
   obtain⟨d,hd,hn⟩:=hn
   obtain⟨hok,hs⟩:=z27 hI hn
   split at hg
   ·rename_i b hb
    split at hg
    ·rename_i hbw
     have hf:=hok.full
     rw[hb]at hf
     simp only[X.ev,Option.some.injEq]at hf
     rw[zo9 hd,← hs,← hf]
     simpa using hbw
    ·cases hg
   ·split at hg<;>cases hg
   ·cases hg
theorem y0N(hI:Inv ops V σ a h){o:Oper}(hg:yt6 ops V σ o.guard=.skip):Region.wanted o (yielded ops a.tmps)=false:=by
 cases hgd:o.guard with
 | none=>rw[hgd]at hg;simp [yt6]at hg
 | some g =>
  obtain⟨j,w⟩:=g
  rw[hgd]at hg
  simp only[yt6]at hg
  have:¬(yielded ops a.tmps j=some w)→Region.wanted o (yielded ops a.tmps)=false:=fun hn=>by
   cases hw:Region.wanted o (yielded ops a.tmps)with
   | false=>rfl
   | true=>exact absurd ((z08 hgd).1 hw) hn
  apply this
  split at hg
  ·cases hg
  ·rename_i n hn
   simp only[Option.bind_eq_some_iff]at hn
   obtain⟨d,hd,hn⟩:=hn
   obtain⟨hok,hs⟩:=z27 hI hn
   rw[zo9 hd,← hs]
   have hf:=hok.full
   split at hg
   ·rename_i b hb
    rw[hb]at hf
    simp only[X.ev,Option.some.injEq]at hf
    split at hg
    ·cases hg
    ·rename_i hbw
     rw[← hf];simpa using hbw
   ·rename_i vs hb
    rw[hb]at hf
    simp only[X.ev,Option.some.injEq]at hf
    rw[← hf];simp
   ·cases hg
theorem y1D{g:Nat×Bool}{gd:Option (Nat×Bool)}(hg:yt6 ops V σ gd=.opn g):gd=some g:=by
 unfold yt6 at hg
 split at hg
 ·cases hg
 ·split at hg
  ·cases hg
  ·split at hg
   ·split at hg<;>cases hg
   ·split at hg<;>cases hg
   ·cases hg;rfl
theorem yt8{t j:Nat}:∀(n:Nat),gidx ops t n=some j→z1n ops j=some t
 | 0,h=>by simp [gidx]at h
 | n+1,h=>by
  simp only[gidx]at h
  split at h
  ·rename_i hd;cases h;simpa using hd
  ·exact yt8 n h
theorem z78 (hI : Inv ops V σ a h) {ok : List (Nat × Bool)} (hok : ∀ g ∈ ok, yielded ops a.tmps g.1 = some g.2) {o : Oper} {x : X} (hx : y1z P ops V σ ok o.op = some x) {v : Value} (hv : x.ev (x4 V a) h = some v)
    {w:World} (hw:kdOf o.op=0∨Ext h (hp w)):(execOp a.eval o).run P w=.ok (.value v) w:=by
  cases ho:o.op with
  | pick c p q =>
    rw[ho]at hx
    simp only[y1z,Option.bind_eq_some_iff]at hx
    obtain⟨cx,hc,hx⟩:=hx
    have hcv:=zg4 hI hok _ _ hc
    have fin:∀t:Bool,a.eval c=.bool t→v=(if t then a.eval p else a.eval q)→(execOp a.eval o).run P w=.ok (.value v) w:=by
      intro t h1 h2
      cases t<;>simp [execOp,ho,h1,asBool,h2]
    split at hx
    · rename_i t
      simp only[X.ev,Option.some.injEq]at hcv
      have:=zg4 hI hok _ _ hx
      rw[this]at hv
      refine fin t hcv.symm ?_
      cases t<;>simpa using hv.symm
    · split at hx
      · rename_i t
        simp only[Option.bind_eq_some_iff,Option.map_eq_some_iff]at hx
        obtain⟨j,hj,ax,hax,bx,hbx,rfl⟩:=hx
        have hd:=yt8 _ hj
        simp only[X.ev,hcv,Option.bind_some]at hv
        split at hv
        · rename_i hb
          have hyj:yielded ops a.tmps j=some true:=(zo9 hd).2 hb
          have:=zg4 hI (ok:=(j,true) :: ok) (fun g hg=>by
            rcases List.mem_cons.1 hg with rfl|hg
            · exact hyj
            · exact hok g hg) _ _ hax
          rw[this]at hv
          exact fin true hb (by simpa using hv.symm)
        · rename_i hb
          have hyj:yielded ops a.tmps j=some false:=(zo9 hd).2 hb
          have:=zg4 hI (ok:=(j,false) :: ok) (fun g hg=>by
            rcases List.mem_cons.1 hg with rfl|hg
            · exact hyj
            · exact hok g hg) _ _ hbx
          rw[this]at hv
          exact fin false hb (by simpa using hv.symm)
        · cases hv
      · cases hx
  | _ =>
    rw[ho]at hx
    simp only[y1z]at hx
    rw[← ho]at hx
    exact y1x (zg4 hI hok) hx hv hw
theorem zp0{d t:Nat}{v:Value}(hne:t≠d):(a.put (some d) v).tmps.getD t undef=a.tmps.getD t undef:=by
 simp [Act.put,Array.getElem?_setIfInBounds_ne (Ne.symm hne)]
theorem zh3{d:Nat}{v:Value}(hd:d<a.tmps.size):(a.put (some d) v).tmps.getD d undef=v:=by
 simp [Act.put,hd]
theorem z2u{d j:Nat}{v:Value}(hne:z1n ops j≠some d):yielded ops (a.put (some d) v).tmps j=yielded ops a.tmps j:=by
 unfold yielded
 unfold z1n at hne
 cases ht:(ops[j]?).bind (·.dst)with
 | none=>rfl
 | some t =>
  have:d≠t:=fun e=>hne (by rw[ht,e])
  simp [Act.put,Array.getElem?_setIfInBounds_ne this]
theorem W3{d:Nat}{v:Value}(hp':pos V d=none):x4 V (a.put (some d) v)=x4 V a:=by
 unfold x4
 apply List.map_congr_left
 intro t ht
 have:t≠d:=by rintro rfl;exact z6a V 0 hp' ht
 exact zp0 this
theorem zg5{d k:Nat}{v:Value}(hV:zC2 V=true)(hd:d<a.tmps.size)(hp':pos V d=some k):x4 V (a.put (some d) v)=(x4 V a).set k v:=by
 apply List.ext_getElem?
 intro i
 simp only[x4,List.getElem?_map,List.getElem?_set]
 have hk:=yk5 hp'
 have hkl:k<V.length:=by
  rcases Nat.lt_or_ge k V.length with h'|h'
  ·exact h'
  ·rw[List.getElem?_eq_none h']at hk;cases hk
 have nd:∀(W:List Nat),zC2 W=true→∀i j:Nat,∀x,W[i]?=some x→W[j]?=some x→i=j:=by
  intro W
  induction W with
  | nil=>intro _ i j x h1;simp at h1
  | cons y r ih =>
   intro hn i j x h1 h2
   simp only[zC2,Bool.and_eq_true,Bool.not_eq_true']at hn
   cases i with
   | zero =>
    cases j with
    | zero=>rfl
    | succ j =>
     simp at h1 h2
     subst h1
     have:y∈r:=List.mem_of_getElem? h2
     simp [this]at hn
   | succ i =>
    cases j with
    | zero =>
     simp at h1 h2
     subst h2
     have:y∈r:=List.mem_of_getElem? h1
     simp [this]at hn
    | succ j =>
     simp at h1 h2
     rw[ih hn.2 i j x h1 h2]
 by_cases hik:k=i
 ·subst hik
  have hVk:V[k]=d:=by have:=hk;rw[List.getElem?_eq_getElem hkl]at this;exact Option.some.inj this
  have:=zh3 (a:=a) (v:=v) hd
  simp only[Array.getD_eq_getD_getElem?]at this
  simp [hkl,hVk,this]
 ·simp only[hik,if_false]
  cases hVi:V[i]? with
  | none=>simp
  | some t =>
   have:t≠d:=by
    rintro rfl
    exact hik (nd V hV k i t hk hVi)
   simp only[Option.map_some,Option.some.injEq]
   exact zp0 this
theorem z6b{d:Nat}{n:Ent}(hn:n∈zj7 ops d σ):n∈σ∧n.slot≠d∧∀g x,n.bare=some (g,x)→z1n ops g.1≠some d:=by
 unfold zj7 at hn
 rw[List.mem_filter]at hn
 obtain⟨h1,h2⟩:=hn
 simp only[Bool.and_eq_true,Bool.not_eq_true',beq_eq_false_iff_ne]at h2
 refine⟨h1,h2.1,fun g x hb=>?_⟩
 obtain⟨j,w⟩:=g
 have:=h2.2
 rw[hb]at this
 simpa using this
theorem yk6{d:Nat}{v:Value}{n:Ent}(hp':pos V d=none)(hok:Okay ops V a h n)(hs:n.slot≠d)(hg:∀g x,n.bare=some (g,x)→z1n ops g.1≠some d):Okay ops V (a.put (some d) v) h n:=by
 refine⟨?_,fun g x hb=>?_⟩
 ·rw[W3 hp',zp0 hs];exact hok.full
 ·rw[W3 hp',zp0 hs,z2u (hg g x hb)];exact hok.bare g x hb
theorem yt9 {d k : Nat} {v : Value} {n : Ent} (hV : zC2 V = true) (hd : d < a.tmps.size) (hp' : pos V d = some k) (hok : Okay ops V a h n) (hs : n.slot ≠ d) (hg : ∀ g x, n.bare = some (g, x) → z1n ops g.1 ≠ some d)
    (hh:n.all (fun x=>!x.has k)=true):Okay ops V (a.put (some d) v) h n:=by
  simp only[Ent.all,Bool.and_eq_true,Bool.not_eq_true']at hh
  refine⟨?_,fun g x hb=>?_⟩
  · rw[zg5 hV hd hp',zp0 hs,(X.ev_set_all k v _ _ _ hh.1).1];exact hok.full
  · rw[zg5 hV hd hp',zp0 hs,z2u (hg g x hb)]
    have hx:x.has k=false:=by have:=hh.2;rw[hb]at this;simpa using this
    rw[(X.ev_set_all k v _ _ _ hx).1]
    exact hok.bare g x hb
theorem zD3{d:Nat}{v:Value}(hp':pos V d=none)(hI:Inv ops V σ a h):Inv ops V (zj7 ops d σ) (a.put (some d) v) h:=fun n hn=>by
 obtain⟨h1,h2,h3⟩:=z6b hn
 exact yk6 hp' (hI n h1) h2 h3
theorem zO7{d k:Nat}{v:Value}(hV:zC2 V=true)(hd:d<a.tmps.size)(hp':pos V d=some k)(hI:Inv ops V σ a h):Inv ops V (z5d k (zj7 ops d σ)) (a.put (some d) v) h:=fun n hn=>by
 unfold z5d at hn
 rw[List.mem_filter]at hn
 obtain⟨h1,h2,h3⟩:=z6b hn.1
 exact yt9 hV hd hp' (hI n h1) h2 h3 hn.2
theorem y82{h':Heap}(hI:Inv ops V σ a h):Inv ops V (yG5 σ) a h':=fun n hn=>by
 unfold yG5 at hn
 rw[List.mem_filter]at hn
 obtain⟨h1,h2⟩:=hn
 simp only[Ent.all,Bool.and_eq_true,Bool.not_eq_true']at h2
 have hok:=hI n h1
 refine⟨?_,fun g x hb=>?_⟩
 ·rw[(X.ev_mem_all _ h h' _ h2.1).1];exact hok.full
 ·have hx:x.mem=false:=by have:=h2.2;rw[hb]at this;simpa using this
  rw[(X.ev_mem_all _ h h' _ hx).1];exact hok.bare g x hb
theorem y83{h':Heap}(he:Ext h h')(hI:Inv ops V σ a h):Inv ops V σ a h':=fun n hn=>by
 have hok:=hI n hn
 exact⟨(X.ev_ext_all he _ _).1 _ hok.full,fun g x hb=>⟨fun hy=>(X.ev_ext_all he _ _).1 _ ((hok.bare g x hb).1 hy),(hok.bare g x hb).2⟩⟩
theorem z7H{n:Ent}(hn:Okay ops V a h n)(hI:Inv ops V σ a h):Inv ops V (n :: σ) a h:=fun k hk=>by
 rcases List.mem_cons.1 hk with rfl|hk
 ·exact hn
 ·exact hI k hk
theorem yg2{d:Nat}{b:Bool}(hb:a.tmps.getD d undef=.bool b)(hI:Inv ops V σ a h):Inv ops V (yN1 ops d b σ) a h:=by
 unfold yN1
 refine z7H ⟨by simp [X.ev,hb],fun g x hg=>by cases hg⟩ fun k hk=>?_
 obtain⟨n,hn,rfl⟩:=List.mem_map.1 hk
 rw[List.mem_filter]at hn
 have hok:=hI n hn.1
 split
 ·rename_i j w x hbare
  obtain⟨b1,b2⟩:=hok.bare _ _ hbare
  split
  ·rename_i hd
   have hd':z1n ops j=some d:=by simpa using hd
   have hy:∀c,yielded ops a.tmps j=some c↔b=c:=fun c=>by rw[zo9 hd',hb];simp
   split
   ·rename_i hw
    have hw':w=b:=by simpa using hw
    exact⟨b1 ((hy w).2 hw'.symm),fun g y hg=>by cases hg⟩
   ·rename_i hw
    have hw':w≠b:=by simpa using hw
    refine⟨?_,fun g y hg=>by cases hg⟩
    rw[b2 (fun hc=>hw' ((hy w).1 hc).symm)]
    simp [X.ev]
  ·exact hok
 ·exact hok
theorem yg3(hI:Inv ops V σ a h){d:Nat}{c:X}:∀(f j:Nat),base ops V σ f j=some (d,c)→c.ev (x4 V a) h=some (a.tmps.getD d undef)
 | 0,_,hb=>by simp [base]at hb
 | f+1,j,hb=>by
  simp only[base,Option.bind_eq_some_iff]at hb
  obtain⟨d',hd',n,hn,hb⟩:=hb
  obtain⟨hok,hs⟩:=z27 hI hn
  split at hb
  ·cases hb
   rw[hok.full,hs]
  ·exact yg3 hI f _ hb
theorem zZ4{f:Nat}{args:Array Value}{w:World}(hb:zs0 P f=true):(callFunc f args).run P w=.ok (.enter f args) w:=by
 unfold zs0 at hb
 cases hf:P.funcs[f]? with
 | none=>simp [hf]at hb
 | some fn =>
  simp [hf]at hb
  obtain⟨h1,h2⟩:=hb
  have h3:¬(fn.body=none):=by cases hh:fn.body<;>simp_all
  simp [callFunc,hf,h1,h3]
theorem y5M{o:Oper}{c:Call}{x:Operand}{f:Nat}{caps:Array Value}{w:World}(ho:o.op=.call c)(hc:c.callee=.value x)(hx:a.eval x=.func (.func f) #[] caps)(hb:zs0 P f=true):
    (execOp a.eval o).run P w=.ok (.enter f (c.args.map a.eval++caps)) w:=by
  simp only[execOp,ho,resolve,hc,hx,Deferred.ofValue,Sem.run_bind,Sem.run_pure,Result.andThen_ok,invoke,Array.empty_append,zZ4 hb]
end
end Go.Lft
