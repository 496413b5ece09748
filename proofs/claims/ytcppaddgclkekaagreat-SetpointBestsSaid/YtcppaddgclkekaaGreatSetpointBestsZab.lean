/- Lemmas and walks that the proof of SetpointBests uses. No statement is claimed here. -/
import Derived.Test.YtcppaddgclkekaaGreatSetpointBestsZaa
import Derived.Laws.MakeOwn
import Derived.Laws.AppendOwn
import Derived.ChangeKeysEq
namespace Go.Lft
open Go
def z24{α:Type}:Sem α→Option α
 | .pure a=>some a
 | _=>none
theorem yt1{α:Type}{s:Sem α}{a:α}(h:z24 s=some a)(P:Program)(w:World):s.run P w=.ok a w:=by
 cases s<;>simp [z24]at h
 subst h;rfl
inductive K1 where
 | un (op:UnOp)|len|nilc|fld (off:Nat)|ld1|lda (n:Nat)|prt (off:Nat)|prta (off n:Nat)|ext (i:Nat)|conv (k:IntKind)
inductive K2 where
 | bin (op:BinOp)|eqb (neg:Bool)|eqp (neg:Bool)|eqs (neg:Bool)|eqf (neg:Bool)|eqi (n:Nat) (neg:Bool)|ixs|idx (n:Nat)|idxa (len n:Nat)|ixv (len n:Nat) (agg:Bool)|mx|mn
inductive X where
 | var (i:Nat)
 | lit (v:Value)
 | u (k:K1) (a:X)
 | b (k:K2) (a c:X)
 | ite (c a b:X)
 | slc (arr:Option Nat) (n:Nat) (a lo hi mx:X)
 | fn (f:Nat) (caps:X)
 | bld (z:List Value) (ps:X)
 | nl
 | cn (a r:X)
 | pl (off size:Nat) (a r:X)
def k1v:K1→Value→Heap→Option Value
 | .un op,v,_=>z24 (Op.unary op v)
 | .len,.slice _ n _,_=>some (.int .i64 n)
 | .nilc,.pointer (some a),_=>some (.pointer (some a))
 | .nilc,.func (.func f) x y,_=>some (.func (.func f) x y)
 | .fld off,.pointer (some ⟨b,o,none⟩),_=>some (.pointer (some ⟨b,o+off,none⟩))
 | .ld1,.pointer (some ⟨b,o,none⟩),h=>match rd h b o 1 with|some [v]=>some v|_=>none
 | .lda n,.pointer (some ⟨b,o,none⟩),h=>match rd h b o n with|some vs=>some (.agg vs.toArray)|_=>none
 | .prt off,.agg cs,_=>cs[off]?
 | .prta off n,.agg cs,_=>some (.agg (cs.extract off (off+n)))
 | .ext i,.tuple vs,_=>vs[i]?
 | .conv k,.int _ n,_=>some (.int k (k.wrap n))
 | _,_,_=>none
def zZ1:List Value→List Value→Option Bool
 | [],[]=>some true
 | .int k a :: r,.int k' b :: s=>if k=k' then(zZ1 r s).map fun t=>(a == b) && t else none
 | _,_=>none
def k2v:K2→Value→Value→Option Value
 | .bin op,.int k a,.int k' b=>z24 (binOp op 0 (.int k a) (.int k' b))
 | .eqb neg,.bool a,.bool b=>some (.bool ((a == b) != neg))
 | .eqp neg,.pointer none,.pointer b=>some (.bool (b.isNone != neg))
 | .eqp neg,.pointer (some _),.pointer none=>some (.bool neg)
 | .eqs neg,.slice none _ _,.slice b _ _=>some (.bool (b.isNone != neg))
 | .eqs neg,.slice (some _) _ _,.slice none _ _=>some (.bool neg)
 | .eqf neg,.nilFunc,.nilFunc=>some (.bool (!neg))
 | .eqf neg,.func (.func _) _ _,.nilFunc=>some (.bool neg)
 | .eqi n neg,.agg cs,.agg ds=>if cs.size=n then(zZ1 cs.toList ds.toList).map fun b=>.bool (b != neg)else none
 | .ixs,.string s,.int _ i=>if 0≤i then(s[i.toNat]?).map fun b=>.int .u8 b.toNat else none
 | .idx n,.slice (some ⟨b,o,none⟩) len _,.int _ i=>if 0≤i∧i<len then some (.pointer (some ⟨b,o+i.toNat*n,none⟩))else none
 | .idxa len n,.pointer (some ⟨b,o,none⟩),.int _ i=>if 0≤i∧i<len then some (.pointer (some ⟨b,o+i.toNat*n,none⟩))else none
 | .ixv len n agg,.agg cs,.int _ i=>if 0≤i∧i<len then(if agg then some (.agg (cs.extract (i.toNat*n) (i.toNat*n+n)))else cs[i.toNat*n]?)else none
 | .mx,.int k a,.int k' b=>if k=k' then some (.int k (if b>a then b else a))else none
 | .mn,.int k a,.int k' b=>if k=k' then some (.int k (if b<a then b else a))else none
 | _,_,_=>none
def slcv(arr:Option Nat)(n:Nat)(x lo hi:Value)(mx:Option Value):Option Value :=
 match arr,x,lo,hi with
 | none,.slice a _ cap,.int _ l,.int _ u =>
  match mx with
  | none=>if 0≤l∧l≤u∧u≤cap then some (.slice (if cap=l.toNat then a else a.map (·.add (l.toNat*n))) (u.toNat-l.toNat) (cap-l.toNat))else none
  | some (.int _ m)=>if 0≤l∧l≤u∧u≤m∧m≤cap then some (.slice (if m.toNat=l.toNat then a else a.map (·.add (l.toNat*n))) (u.toNat-l.toNat) (m.toNat-l.toNat))else none
  | _=>none
 | some len,.pointer (some a),.int _ l,.int _ u =>
  match mx with
  | none=>if 0≤l∧l≤u∧u≤len then some (.slice (some (if len=l.toNat then a else a.add (l.toNat*n))) (u.toNat-l.toNat) (len-l.toNat))else none
  | some (.int _ m)=>if 0≤l∧l≤u∧u≤m∧m≤len then some (.slice (some (if m.toNat=l.toNat then a else a.add (l.toNat*n))) (u.toNat-l.toNat) (m.toNat-l.toNat))else none
  | _=>none
 | _,_,_,_=>none
def zr9:Array Value→List (Nat×Value)→Option (Array Value)
 | c,[]=>some c
 | c,(off,v) :: r=>if off+v.cells.size≤c.size then zr9 (zD1 c off v.cells.toList) r else none
mutual
def X.ev(e:List Value)(h:Heap):X→Option Value
  | .var i=>some (e.getD i undef)
  | .lit v=>some v
  | .u k a=>(a.ev e h).bind fun x=>k1v k x h
  | .b k a c=>(a.ev e h).bind fun x=>(c.ev e h).bind fun y=>k2v k x y
  | .ite c a d=>(c.ev e h).bind fun x=>match x with | .bool true=>a.ev e h | .bool false=>d.ev e h|_=>none
  | .slc arr n a lo hi mx => (a.ev e h).bind fun x => (lo.ev e h).bind fun l => (hi.ev e h).bind fun u =>
      match mx with
      | .nl=>slcv arr n x l u none
      | mx=>(mx.ev e h).bind fun m=>slcv arr n x l u (some m)
  | .fn f caps=>(caps.evs e h).map fun vs=>.func (.func f) #[] vs.toArray
  | .bld z ps=>(ps.evp e h).bind fun vs=>(zr9 z.toArray vs).map .agg
  | .nl=>none
  | .cn _ _=>none
  | .pl _ _ _ _=>none
def X.evs(e:List Value)(h:Heap):X→Option (List Value)
 | .nl=>some []
 | .cn a r=>(a.ev e h).bind fun x=>(r.evs e h).map fun xs=>x :: xs
 | _=>none
def X.evp(e:List Value)(h:Heap):X→Option (List (Nat×Value))
 | .nl=>some []
 | .pl off size a r=>(a.ev e h).bind fun x=>if x.cells.size=size then(r.evp e h).map fun xs=>(off,x) :: xs else none
 | _=>none
end
inductive E where
 | alloc (e:Nat) (z:List Value)
 | box (e:Nat) (x:X)
 | mk (e size bytes:Nat) (z:List Value) (l c:X)
 | lit (e size len:Nat) (z:List Value) (ps:X)
 | app (e size bytes:Nat) (z:List Value) (s x:X)
 | cpy (size:Nat) (d s:X)
 | clr (z:List Value) (s:X)
 | st (n:Nat) (p v:X)
def cellsOf(h:Heap)(size n:Nat)(v:Value):Option (List Value) :=
 if n*size=0 then(match v with | .slice _ _ _=>some []|_=>none)
 else match v with
  | .slice (some ⟨b,o,none⟩) _ _=>rd h b o (n*size)
  | .slice none _ _=>some []
  | _=>none
def wr0(h:Heap)(a:Option Addr)(off:Nat):List Value→Option Heap
 | []=>some h
 | v :: vs=>match a with
  | some ⟨b,o,none⟩=>wr h b (o+off) (v :: vs)
  | _=>none
def E.ok(e:List Value)(h:Heap)(R:Value→Heap→Prop):E→Prop
  | .alloc t z=>∀b,h b=none→R (.pointer (some ⟨b,0,none⟩)) (upd h b (.cells z.toArray t))
  | .box t x=>∃v,x.ev e h=some v∧∀b,h b=none→R (.pointer (some ⟨b,0,none⟩)) (upd h b (.cells v.cells t))
  | .mk t size bytes z l c => ∃ (kl kc : IntKind) (li ci : Int), l.ev e h = some (.int kl li) ∧ c.ev e h = some (.int kc ci) ∧ 0 ≤ li ∧ li ≤ ci ∧ (bytes : Int) * ci ≤ 281474976710656 ∧ ci ≤ 9223372036854775807 ∧
      ∀b,h b=none→R (.slice (some ⟨b,0,none⟩) li.toNat ci.toNat) (upd h b (.cells (madeCells z.toArray (ci.toNat*size)) t))
  | .lit t size len z ps=>∃vs cs,ps.evp e h=some vs∧zr9 (madeCells z.toArray (len*size)) vs=some cs∧∀b,h b=none→R (.slice (some ⟨b,0,none⟩) len len) (upd h b (.cells cs t))
  | .app t size bytes z s x => ∃ a sl sc y yl yc news, s.ev e h = some (.slice a sl sc) ∧ x.ev e h = some (.slice y yl yc) ∧ cellsOf h size yl (.slice y yl yc) = some news ∧
      (sl+yl)*bytes≤140737488355328∧sl+yl≤9223372036854775807 ∧
      (sl+yl≤sc→∃h',wr0 h a (sl*size) news=some h'∧R (.slice a (sl+yl) sc) h') ∧
      (sc<sl+yl→∃olds,cellsOf h size sl (.slice a sl sc)=some olds∧∀cap b,h b=none→sl+yl≤cap→cap≤9223372036854775807 →
        R (.slice (some ⟨b,0,none⟩) (sl+yl) cap) (upd h b (.cells ((olds++news).toArray++madeCells z.toArray ((cap-(sl+yl))*size)) t)))
  | .cpy size d s => ∃ a dl dc b sl sc cs, d.ev e h = some (.slice a dl dc) ∧ s.ev e h = some (.slice b sl sc) ∧ cellsOf h size (min sl dl) (.slice b sl sc) = some cs ∧
      ∃h',wr0 h a 0 cs=some h'∧R (.int .i64 (min sl dl:Nat)) h'
  | .clr z s=>∃a n c h',s.ev e h=some (.slice a n c)∧wr0 h a 0 (List.replicate n z).flatten=some h'∧R undef h'
  | .st n p v=>∃b o x h',p.ev e h=some (.pointer (some ⟨b,o,none⟩))∧v.ev e h=some x∧x.cells.size=n∧wr h b o x.cells.toList=some h'∧R undef h'
inductive S where
 | nxt
 | set (i:Nat) (x:X) (k:S)
 | chk (x:X) (k:S)
 | eff (kp:Bool) (d:Option Nat) (e:E) (k:S)
 | call (kp:Bool) (d:Option Nat) (f:Nat) (as:X) (k:S)
 | callv (kp:Bool) (d:Option Nat) (f as:X) (k:S)
 | ite (c:X) (a b:S)
 | both (a b:S)
 | seq (a b:S)
 | blk (id:Nat) (a:S)
 | loop (a:S)
 | exit (id:Nat)
 | ret
 | stop
inductive Ex where
 | nxt
 | exit (id:Nat)
 | ret
def Runs(P:Program)(f:Nat)(args:List Value)(h:Heap)(R:Value→Heap→Prop):Prop :=
 ∀w:World,hp w=h→Calls P f args.toArray w fun e w'=>∃v,e=.returned v∧R v (hp w')∧Rest w w'
theorem Runs.mono{P:Program}{f:Nat}{args:List Value}{h:Heap}{R R':Value→Heap→Prop}(hf:Runs P f args h R)(hr:∀v h',R v h'→R' v h'):Runs P f args h R' :=
 fun w hw=>(hf w hw).mono fun _ _ ⟨v,h1,h2,h3⟩=>⟨v,h1,hr _ _ h2,h3⟩
def put(e:List Value)(d:Option Nat)(v:Value):List Value :=
 match d with
 | some i=>e.set i v
 | none=>e
def z25(F:(Ex→List Value→Heap→Prop)→List Value→Heap→Prop)(Q:Ex→List Value→Heap→Prop):Nat→List Value→Heap→Prop
 | 0,_,_=>False
 | n+1,e,h=>F (fun x e h=>match x with | .nxt=>z25 F Q n e h|x=>Q x e h) e h
def zs0(P:Program)(f:Nat):Bool :=
 match P.funcs[f]? with
 | some fn => !(fn.name == "runtime.NumGoroutine") && fn.body.isSome
 | none=>false
def RunsY(P:Program)(l:Nat)(args:List Value)(h:Heap)(R:Value→Heap→Prop):Prop :=
 ∀w:World,hp w=h→∃fn tmps assign body,(Instr.yield l args.toArray).run P w=.ok (.round l fn tmps assign body) w ∧
  RoundIn Fence.wide 0 P l fn tmps assign body w fun e w'=>∃v,e=.returned v∧R v (hp w')∧Rest w w'
theorem RunsY.mono{P:Program}{l:Nat}{args:List Value}{h:Heap}{R R':Value→Heap→Prop}(hf:RunsY P l args h R)(hr:∀v h',R v h'→R' v h'):RunsY P l args h R' :=
 fun w hw=>let⟨fn,tmps,assign,body,h1,h2⟩:=hf w hw;⟨fn,tmps,assign,body,h1,h2.mono fun _ _ ⟨v,h3,h4,h5⟩=>⟨v,h3,hr _ _ h4,h5⟩⟩
def RunsV(P:Program)(fv:Value)(vs:List Value)(h:Heap)(R:Value→Heap→Prop):Prop :=
 (∃g caps,fv=.func (.func g) #[] caps∧zs0 P g=true∧Runs P g (vs++caps.toList) h R)∨∃l,fv=.func (.yield l) #[] #[]∧RunsY P l vs h R
theorem RunsV.mono{P:Program}{fv:Value}{vs:List Value}{h:Heap}{R R':Value→Heap→Prop}(hf:RunsV P fv vs h R)(hr:∀v h',R v h'→R' v h'):RunsV P fv vs h R':=by
 rcases hf with⟨g,caps,h1,h2,h3⟩|⟨l,h1,h2⟩
 ·exact .inl ⟨g,caps,h1,h2,h3.mono hr⟩
 ·exact .inr ⟨l,h1,h2.mono hr⟩
def S.wp(P:Program):S→(Ex→List Value→Heap→Prop)→List Value→Heap→Prop
 | .nxt,Q,e,h=>Q .nxt e h
 | .set i x k,Q,e,h=>∃v,x.ev e h=some v∧k.wp P Q (e.set i v) h
 | .chk x k,Q,e,h=>∃v,x.ev e h=some v∧k.wp P Q e h
 | .eff kp d f k,Q,e,h=>f.ok e h fun v h'=>(kp=true→Ext h h')∧k.wp P Q (put e d v) h'
 | .call kp d f as k,Q,e,h=>∃vs,as.evs e h=some vs∧Runs P f vs h fun v h'=>(kp=true→Ext h h')∧k.wp P Q (put e d v) h'
 | .callv kp d f as k,Q,e,h=>∃fv vs,f.ev e h=some fv∧as.evs e h=some vs∧RunsV P fv vs h fun v h'=>(kp=true→Ext h h')∧k.wp P Q (put e d v) h'
 | .ite c a b,Q,e,h=>∃t,c.ev e h=some (.bool t)∧(t=true→a.wp P Q e h)∧(t=false→b.wp P Q e h)
 | .both a b,Q,e,h=>a.wp P Q e h∧b.wp P Q e h
 | .seq a b,Q,e,h=>a.wp P (fun x e h=>match x with | .nxt=>b.wp P Q e h|x=>Q x e h) e h
 | .blk id a,Q,e,h=>a.wp P (fun x e h=>match x with | .exit i=>if i=id then Q .nxt e h else Q (.exit i) e h|x=>Q x e h) e h
 | .loop a,Q,e,h=>∃n,z25 (fun Q e h=>a.wp P Q e h) Q n e h
 | .exit id,Q,e,h=>Q (.exit id) e h
 | .ret,Q,e,h=>Q .ret e h
 | .stop,_,_,_=>False
theorem E.ok_mono{e:List Value}{h:Heap}{R R':Value→Heap→Prop}(hr:∀v h',R v h'→R' v h'):∀{f:E},f.ok e h R→f.ok e h R':=by
 intro f hf
 cases f with
 | alloc t z=>exact fun b hb=>hr _ _ (hf b hb)
 | box t x=>obtain⟨v,h1,h2⟩:=hf;exact⟨v,h1,fun b hb=>hr _ _ (h2 b hb)⟩
 | mk t size bytes z l c =>
  obtain⟨kl,kc,li,ci,h1,h2,h3,h4,h5,h6,h7⟩:=hf
  exact⟨kl,kc,li,ci,h1,h2,h3,h4,h5,h6,fun b hb=>hr _ _ (h7 b hb)⟩
 | lit t size len z ps=>obtain⟨vs,cs,h1,h2,h3⟩:=hf;exact⟨vs,cs,h1,h2,fun b hb=>hr _ _ (h3 b hb)⟩
 | app t size bytes z s x =>
  obtain⟨a,sl,sc,y,yl,yc,news,h1,h2,h3,h4,h5,h6,h7⟩:=hf
  refine⟨a,sl,sc,y,yl,yc,news,h1,h2,h3,h4,h5,fun hc=>?_,fun hc=>?_⟩
  ·obtain⟨h',g1,g2⟩:=h6 hc;exact⟨h',g1,hr _ _ g2⟩
  ·obtain⟨olds,g1,g2⟩:=h7 hc
   exact⟨olds,g1,fun cap b hb c1 c2=>hr _ _ (g2 cap b hb c1 c2)⟩
 | cpy size d s =>
  obtain⟨a,dl,dc,b,sl,sc,cs,h1,h2,h3,h',g1,g2⟩:=hf
  exact⟨a,dl,dc,b,sl,sc,cs,h1,h2,h3,h',g1,hr _ _ g2⟩
 | clr z s=>obtain⟨a,n,c,h',h1,h2,h3⟩:=hf;exact⟨a,n,c,h',h1,h2,hr _ _ h3⟩
 | st n p v=>obtain⟨b,o,x,h',h1,h2,h3,h4,h5⟩:=hf;exact⟨b,o,x,h',h1,h2,h3,h4,hr _ _ h5⟩
theorem zz1 {F : (Ex → List Value → Heap → Prop) → List Value → Heap → Prop} (hF : ∀ Q Q' : Ex → List Value → Heap → Prop, (∀ x e h, Q x e h → Q' x e h) → ∀ e h, F Q e h → F Q' e h)
    {Q Q':Ex→List Value→Heap→Prop} (hq:∀x e h,Q x e h→Q' x e h):∀(n:Nat) (e:List Value) (h:Heap),z25 F Q n e h→z25 F Q' n e h
  | 0,_,_,h=>h
  | n + 1, e, h, hh => hF _ _ (fun x e h hx => by
      cases x with
      | nxt=>exact zz1 hF hq n e h hx
      | exit i=>exact hq _ _ _ hx
      | ret=>exact hq _ _ _ hx) e h hh
theorem S.wp_mono{P:Program}:∀(s:S) {Q Q':Ex→List Value→Heap→Prop},(∀x e h,Q x e h→Q' x e h)→∀{e:List Value} {h:Heap},s.wp P Q e h→s.wp P Q' e h
  | .nxt,_,_,hq,_,_,hh=>hq _ _ _ hh
  | .set i x k,_,_,hq,_,_,hh=>let⟨v,h1,h2⟩:=hh;⟨v,h1,S.wp_mono k hq h2⟩
  | .chk x k,_,_,hq,_,_,hh=>let⟨v,h1,h2⟩:=hh;⟨v,h1,S.wp_mono k hq h2⟩
  | .eff kp d f k,_,_,hq,_,_,hh=>E.ok_mono (fun _ _ h=>⟨h.1,S.wp_mono k hq h.2⟩) hh
  | .call kp d f as k,_,_,hq,_,_,hh=>let⟨vs,h1,h2⟩:=hh;⟨vs,h1,h2.mono fun _ _ h=>⟨h.1,S.wp_mono k hq h.2⟩⟩
  | .callv kp d f as k,_,_,hq,_,_,hh=>let⟨fv,vs,h1,h2,h3⟩:=hh;⟨fv,vs,h1,h2,h3.mono fun _ _ h=>⟨h.1,S.wp_mono k hq h.2⟩⟩
  | .ite c a b,_,_,hq,_,_,hh=>let⟨t,h1,h2,h3⟩:=hh;⟨t,h1,fun ht=>S.wp_mono a hq (h2 ht),fun ht=>S.wp_mono b hq (h3 ht)⟩
  | .both a b,_,_,hq,_,_,hh=>⟨S.wp_mono a hq hh.1,S.wp_mono b hq hh.2⟩
  | .seq a b, _, _, hq, _, _, hh => S.wp_mono a (fun x e h hx => by
      cases x with
      | nxt=>exact S.wp_mono b hq hx
      | exit i=>exact hq _ _ _ hx
      | ret=>exact hq _ _ _ hx) hh
  | .blk id a, _, _, hq, _, _, hh => S.wp_mono a (fun x e h hx => by
      cases x with
      | nxt=>exact hq _ _ _ hx
      | exit i =>
        dsimp only at hx ⊢
        split
        · rename_i hi;simp only[hi,if_true]at hx;exact hq _ _ _ hx
        · rename_i hi;simp only[hi,if_false]at hx;exact hq _ _ _ hx
      | ret=>exact hq _ _ _ hx) hh
  | .loop a,_,_,hq,e,h,hh=>let⟨n,hn⟩:=hh;⟨n,zz1 (F:=fun Q e h=>a.wp _ Q e h) (fun _ _ hQ _ _ hw=>S.wp_mono a hQ hw) hq n e h hn⟩
  | .exit id,_,_,hq,_,_,hh=>hq _ _ _ hh
  | .ret,_,_,hq,_,_,hh=>hq _ _ _ hh
  | .stop,_,_,_,_,_,hh=>hh.elim
section
variable {P:Program}
theorem zz5{h h':Heap}{b o n:Nat}{vs:List Value}(he:Ext h h')(hr:rd h b o n=some vs):rd h' b o n=some vs:=by
 unfold rd at hr ⊢
 cases hb:h b with
 | none=>simp [hb]at hr
 | some p=>rw[he b p hb];rw[hb]at hr;exact hr
theorem z5b:∀(vs:List Value) (c:Array Value) (o i:Nat),o+vs.length≤c.size→(zD1 c o vs)[i]?=if o≤i∧i<o+vs.length then vs[i-o]? else c[i]?
 | [],c,o,i,_=>by simp [zD1];omega
 | v :: vs,c,o,i,hl=>by
  simp only[List.length_cons]at hl
  rw[zD1,z5b vs _ (o+1) i (by simp;omega)]
  by_cases h1:o+1≤i∧i<o+1+vs.length
  ·rw[if_pos h1,if_pos (by simp;omega)]
   rw[show i-o=(i-(o+1))+1 from by omega]
   simp
  ·rw[if_neg h1]
   by_cases h2:i=o
   ·subst h2
    have:i<c.size:=by omega
    simp [this]
   ·rw[if_neg (by simp;omega),Array.getElem?_setIfInBounds_ne (Ne.symm h2)]
def zg3(P:Program)(t:TypeId):Option Nat:=(P.info? t).map (·.size)
def yf9(P:Program)(t:TypeId):Option Nat:=(P.info? t).map (·.bytes)
def zZ2(P:Program)(t:TypeId):Option Value:=(P.info? t).bind (·.zero)
def aggT(P:Program)(t:TypeId):Option Bool :=
 match P.underlying t with
 | some (.struct _)|some (.array _ _)=>some true
 | some _=>some false
 | none=>none
theorem x7{t n:Nat}(h:zg3 P t=some n)(w:World):(sizeOf t).run P w=.ok n w:=by
 unfold zg3 at h
 cases hi:P.info? t with
 | none=>simp [hi]at h
 | some i=>simp [hi]at h;subst h;simp [sizeOf,typeInfo,hi]
theorem zK2{t:Nat}{z:Value}(h:zZ2 P t=some z)(w:World):(zeroValue t).run P w=.ok z w:=by
 unfold zZ2 at h
 cases hi:P.info? t with
 | none=>simp [hi]at h
 | some i=>simp [hi]at h;simp [zeroValue,typeInfo,hi,h]
theorem zq8{t:Nat}{b:Bool}(h:aggT P t=some b)(w:World):(isAgg t).run P w=.ok b w:=by
 unfold aggT at h
 cases hu:P.underlying t with
 | none=>simp [hu]at h
 | some d=>cases d<;>simp [hu]at h<;>subst h<;>simp [isAgg,underlying,hu]
theorem x8{t:Nat}{d:TypeDesc}(h:P.underlying t=some d)(w:World):(underlying t).run P w=.ok d w:=by
 simp [underlying,h]
theorem yG0(op:BinOp)(t:TypeId)(x y:Operand)(k k':IntKind)(a b:Int)(w:World):(eqGuard op t x y (.int k a) (.int k' b)).run P w=.ok () w:=by
 unfold eqGuard;cases op<;>rfl
theorem y1v(op:BinOp)(t:TypeId)(k k':IntKind)(a b:Int):binOp op t (.int k a) (.int k' b)=binOp op 0 (.int k a) (.int k' b):=by
 cases op<;>rfl
theorem yt2{w:World}{b o:Nat}{v:Value}(h:rd (hp w) b o 1=some [v]):(load (⟨b,o,none⟩:Addr)).run P w=.ok v w:=by
 have:=(yk3 h).2 0 v (by simp)
 have hadd:(⟨b,o,none⟩:Addr).add 0=⟨b,o,none⟩:=by simp [Addr.add]
 rw[hadd]at this
 simp [this]
theorem zh2(b o n:Nat):(⟨b,o,none⟩:Addr).add n=⟨b,o+n,none⟩:=by
 unfold Addr.add;split<;>simp_all
end
end Go.Lft
