/- Lemmas and walks that the proof of SetpointBests uses. No statement is claimed here. -/
import Derived.Test.YtcppaddgclkekaaGreatSetpointBestsZah
import Derived.Defers
namespace Go.Lft
open Go
set_option linter.unusedVariables false
def S.keeps(k:Nat):S→Bool
 | .nxt=>true
 | .exit _=>true
 | .ret=>true
 | .stop=>true
 | .set i _ s=>!(i == k) && s.keeps k
 | .chk _ s=>s.keeps k
 | .eff _ d _ s=>!(d == some k) && s.keeps k
 | .call _ d _ _ s=>!(d == some k) && s.keeps k
 | .callv _ d _ _ s=>!(d == some k) && s.keeps k
 | .ite _ a b=>a.keeps k && b.keeps k
 | .both a b=>a.keeps k && b.keeps k
 | .seq a b=>a.keeps k && b.keeps k
 | .blk _ a=>a.keeps k
 | .loop a=>a.keeps k
theorem yl5{e:List Value}{d:Option Nat}{k:Nat}(h:(!(d == some k))=true)(v:Value):(put e d v)[k]?=e[k]?:=by
 cases d with
 | none=>rfl
 | some i =>
  have:i≠k:=by simpa using h
  simp only[put];rw[List.getElem?_set_ne this]
theorem zf5{P:Program}{k:Nat}{o:Option Value}:∀(s:S) {Q:Ex→List Value→Heap→Prop} {e:List Value} {h:Heap},s.keeps k=true→e[k]?=o→s.wp P Q e h→s.wp P (fun x e' h'=>e'[k]?=o∧Q x e' h') e h
 | .nxt,_,_,_,_,he,hs=>⟨he,hs⟩
 | .exit i,_,_,_,_,he,hs=>⟨he,hs⟩
 | .ret,_,_,_,_,he,hs=>⟨he,hs⟩
 | .stop,_,_,_,_,he,hs=>hs.elim
 | .set i x s,_,_,_,hk,he,hs=>by
  simp only[S.keeps,Bool.and_eq_true]at hk
  obtain⟨v,h1,h2⟩:=hs
  have:i≠k:=by simpa using hk.1
  exact⟨v,h1,zf5 s hk.2 (by rw[List.getElem?_set_ne this];exact he) h2⟩
 | .chk x s,_,_,_,hk,he,hs=>by obtain⟨v,h1,h2⟩:=hs;exact⟨v,h1,zf5 s hk he h2⟩
 | .eff p d f s,Q,e,h,hk,he,hs=>by
  simp only[S.keeps,Bool.and_eq_true]at hk
  have hs':E.ok e h (fun v h'=>(p=true→Ext h h')∧s.wp P Q (put e d v) h') f:=hs
  exact E.ok_mono (fun v h' hh=>⟨hh.1,zf5 s hk.2 (by rw[yl5 hk.1];exact he) hh.2⟩) hs'
 | .call p d f as s,_,_,_,hk,he,hs=>by
  simp only[S.keeps,Bool.and_eq_true]at hk
  obtain⟨vs,h1,h2⟩:=hs
  exact⟨vs,h1,h2.mono fun v h' hh=>⟨hh.1,zf5 s hk.2 (by rw[yl5 hk.1];exact he) hh.2⟩⟩
 | .callv p d f as s,_,_,_,hk,he,hs=>by
  simp only[S.keeps,Bool.and_eq_true]at hk
  obtain⟨fv,vs,h1,h2,h3⟩:=hs
  exact⟨fv,vs,h1,h2,h3.mono fun v h' hh=>⟨hh.1,zf5 s hk.2 (by rw[yl5 hk.1];exact he) hh.2⟩⟩
 | .ite c a b,_,_,_,hk,he,hs=>by
  simp only[S.keeps,Bool.and_eq_true]at hk
  obtain⟨t,h1,h2,h3⟩:=hs
  exact⟨t,h1,fun ht=>zf5 a hk.1 he (h2 ht),fun ht=>zf5 b hk.2 he (h3 ht)⟩
 | .both a b,_,_,_,hk,he,hs=>by
  simp only[S.keeps,Bool.and_eq_true]at hk
  exact⟨zf5 a hk.1 he hs.1,zf5 b hk.2 he hs.2⟩
 | .seq a b,_,_,_,hk,he,hs=>by
  simp only[S.keeps,Bool.and_eq_true]at hk
  refine S.wp_mono a (fun x e' h' hx=>?_) (zf5 a hk.1 he hs)
  cases x with
  | nxt=>exact zf5 b hk.2 hx.1 hx.2
  | exit i=>exact hx
  | ret=>exact hx
 | .blk id a,_,_,_,hk,he,hs=>by
  refine S.wp_mono a (fun x e' h' hx=>?_) (zf5 a hk he hs)
  cases x with
  | nxt=>exact hx
  | exit i =>
   obtain⟨h1,h2⟩:=hx
   dsimp only at h2 ⊢
   split
   ·rename_i hi;rw[if_pos hi]at h2;exact⟨h1,h2⟩
   ·rename_i hi;rw[if_neg hi]at h2;exact⟨h1,h2⟩
  | ret=>exact hx
 | .loop a,Q,e,h,hk,he,hs=>by
  obtain⟨n,hn⟩:=hs
  refine⟨n,?_⟩
  have key:∀n e h,e[k]?=o→z25 (fun Q e h=>a.wp P Q e h) Q n e h→z25 (fun Q e h=>a.wp P Q e h) (fun x e' h'=>e'[k]?=o∧Q x e' h') n e h:=by
   intro n
   induction n with
   | zero=>intro e h _ hh;exact hh
   | succ n ih =>
    intro e h he hh
    refine S.wp_mono a (fun x e' h' hx=>?_) (zf5 a hk he hh)
    cases x with
    | nxt=>exact ih e' h' hx.1 hx.2
    | exit i=>exact hx
    | ret=>exact hx
  exact key n e h he hn
def S.unret(id:Nat):S→S
 | .ret=>.exit id
 | .nxt=>.nxt
 | .exit i=>.exit i
 | .stop=>.stop
 | .set i x s=>.set i x (s.unret id)
 | .chk x s=>.chk x (s.unret id)
 | .eff p d f s=>.eff p d f (s.unret id)
 | .call p d f as s=>.call p d f as (s.unret id)
 | .callv p d f as s=>.callv p d f as (s.unret id)
 | .ite c a b=>.ite c (a.unret id) (b.unret id)
 | .both a b=>.both (a.unret id) (b.unret id)
 | .seq a b=>.seq (a.unret id) (b.unret id)
 | .blk i a=>.blk i (a.unret id)
 | .loop a=>.loop (a.unret id)
def S.noId(id:Nat):S→Bool
 | .nxt=>true
 | .ret=>true
 | .stop=>true
 | .exit i=>!(i == id)
 | .set _ _ s=>s.noId id
 | .chk _ s=>s.noId id
 | .eff _ _ _ s=>s.noId id
 | .call _ _ _ _ s=>s.noId id
 | .callv _ _ _ _ s=>s.noId id
 | .ite _ a b=>a.noId id && b.noId id
 | .both a b=>a.noId id && b.noId id
 | .seq a b=>a.noId id && b.noId id
 | .blk i a=>!(i == id) && a.noId id
 | .loop a=>a.noId id
def unQ(id:Nat)(Q:Ex→List Value→Heap→Prop):Ex→List Value→Heap→Prop
 | .ret,e,h=>Q (.exit id) e h
 | .exit i,e,h=>i≠id∧Q (.exit i) e h
 | .nxt,e,h=>Q .nxt e h
theorem zf6{P:Program}{id:Nat}:∀(s:S) {Q:Ex→List Value→Heap→Prop} {e:List Value} {h:Heap},s.noId id=true→(s.unret id).wp P Q e h→s.wp P (unQ id Q) e h
 | .nxt,_,_,_,_,hs=>hs
 | .exit i,_,_,_,hk,hs=>⟨by simpa [S.noId]using hk,hs⟩
 | .ret,_,_,_,_,hs=>hs
 | .stop,_,_,_,_,hs=>hs.elim
 | .set i x s,_,_,_,hk,hs=>by obtain⟨v,h1,h2⟩:=hs;exact⟨v,h1,zf6 s hk h2⟩
 | .chk x s,_,_,_,hk,hs=>by obtain⟨v,h1,h2⟩:=hs;exact⟨v,h1,zf6 s hk h2⟩
 | .eff p d f s,Q,e,h,hk,hs=>by
  have hs':E.ok e h (fun v h'=>(p=true→Ext h h')∧(s.unret id).wp P Q (put e d v) h') f:=hs
  exact E.ok_mono (fun v h' hh=>⟨hh.1,zf6 s hk hh.2⟩) hs'
 | .call p d f as s,_,_,_,hk,hs=>by
  obtain⟨vs,h1,h2⟩:=hs
  exact⟨vs,h1,h2.mono fun v h' hh=>⟨hh.1,zf6 s hk hh.2⟩⟩
 | .callv p d f as s,_,_,_,hk,hs=>by
  obtain⟨fv,vs,h1,h2,h3⟩:=hs
  exact⟨fv,vs,h1,h2,h3.mono fun v h' hh=>⟨hh.1,zf6 s hk hh.2⟩⟩
 | .ite c a b,_,_,_,hk,hs=>by
  simp only[S.noId,Bool.and_eq_true]at hk
  obtain⟨t,h1,h2,h3⟩:=hs
  exact⟨t,h1,fun ht=>zf6 a hk.1 (h2 ht),fun ht=>zf6 b hk.2 (h3 ht)⟩
 | .both a b,_,_,_,hk,hs=>by
  simp only[S.noId,Bool.and_eq_true]at hk
  exact⟨zf6 a hk.1 hs.1,zf6 b hk.2 hs.2⟩
 | .seq a b,_,_,_,hk,hs=>by
  simp only[S.noId,Bool.and_eq_true]at hk
  refine S.wp_mono a (fun x e' h' hx=>?_) (zf6 a hk.1 hs)
  cases x with
  | nxt=>exact zf6 b hk.2 hx
  | exit i=>exact hx
  | ret=>exact hx
 | .blk i a,_,_,_,hk,hs=>by
  simp only[S.noId,Bool.and_eq_true]at hk
  have hne:i≠id:=by simpa using hk.1
  refine S.wp_mono a (fun x e' h' hx=>?_) (zf6 a hk.2 hs)
  cases x with
  | nxt=>exact hx
  | exit j =>
   obtain⟨h1,h2⟩:=hx
   dsimp only at h2 ⊢
   split
   ·rename_i hi;rw[if_pos hi]at h2;exact h2
   ·rename_i hi;rw[if_neg hi]at h2;exact⟨h1,h2⟩
  | ret =>
   simp only[unQ]at hx ⊢
   rw[if_neg (fun h=>hne h.symm)]at hx
   exact hx
 | .loop a,Q,e,h,hk,hs=>by
  obtain⟨n,hn⟩:=hs
  refine⟨n,?_⟩
  have key:∀n e h,z25 (fun Q e h=>(a.unret id).wp P Q e h) Q n e h→z25 (fun Q e h=>a.wp P Q e h) (unQ id Q) n e h:=by
   intro n
   induction n with
   | zero=>intro e h hh;exact hh
   | succ n ih =>
    intro e h hh
    refine S.wp_mono a (fun x e' h' hx=>?_) (zf6 a hk hh)
    cases x with
    | nxt=>exact ih e' h' hx
    | exit i=>exact hx
    | ret=>exact hx
  exact key n e h hn
def X.ren(f:Nat→Nat):X→Option X
 | .var i=>some (.var (f i))
 | .lit v=>some (.lit v)
 | .u k a=>(a.ren f).map (.u k)
 | .b k a c=>(a.ren f).bind fun x=>(c.ren f).map (.b k x)
 | _=>none
theorem z8f{f:Nat→Nat}{eg e:List Value}{h:Heap}(he:∀i,eg.getD i undef=e.getD (f i) undef):∀(x y:X),x.ren f=some y→x.ev eg h=y.ev e h
 | .var i,y,hy=>by cases hy;simp only[X.ev,he]
 | .lit v,y,hy=>by cases hy;simp only[X.ev]
 | .u k a,y,hy=>by
  obtain⟨x,h1,rfl⟩:=Option.map_eq_some_iff.1 hy
  simp only[X.ev,z8f he a x h1]
 | .b k a c,y,hy=>by
  simp only[X.ren,Option.bind_eq_some_iff]at hy
  obtain⟨x,h1,hy⟩:=hy
  obtain⟨z,h2,rfl⟩:=Option.map_eq_some_iff.1 hy
  simp only[X.ev,z8f he a x h1,z8f he c z h2]
 | .ite ..,y,hy=>by cases hy
 | .slc ..,y,hy=>by cases hy
 | .fn ..,y,hy=>by cases hy
 | .bld ..,y,hy=>by cases hy
 | .nl,y,hy=>by cases hy
 | .cn ..,y,hy=>by cases hy
 | .pl ..,y,hy=>by cases hy
def S.inl(f:Nat→Nat):S→Option S
 | .nxt=>some .nxt
 | .ret=>some .nxt
 | .chk x s=>(x.ren f).bind fun y=>(s.inl f).map (.chk y)
 | .ite c a b=>(c.ren f).bind fun d=>(a.inl f).bind fun x=>(b.inl f).map (.ite d x)
 | .eff kp none (.st n p v) s=>(p.ren f).bind fun q=>(v.ren f).bind fun u=>(s.inl f).map (.eff kp none (.st n q u))
 | _=>none
theorem yx8{P:Program}{f:Nat→Nat}{eg e:List Value}(he:∀i,eg.getD i undef=e.getD (f i) undef):∀(s s':S) {Q:Ex→List Value→Heap→Prop} {h:Heap},s.inl f=some s'→s'.wp P Q e h→s.wp P (fun x _ h'=>(x=.nxt∨x=.ret)∧Q .nxt e h') eg h
 | .nxt,s',_,_,hi,hs=>by cases hi;exact⟨.inl rfl,hs⟩
 | .ret,s',_,_,hi,hs=>by cases hi;exact⟨.inr rfl,hs⟩
 | .chk x s,s',_,_,hi,hs=>by
  simp only[S.inl,Option.bind_eq_some_iff]at hi
  obtain⟨y,h1,hi⟩:=hi
  obtain⟨z,h2,rfl⟩:=Option.map_eq_some_iff.1 hi
  obtain⟨v,g1,g2⟩:=hs
  exact⟨v,(z8f he x y h1).trans g1,yx8 he s z h2 g2⟩
 | .ite c a b,s',_,_,hi,hs=>by
  simp only[S.inl,Option.bind_eq_some_iff]at hi
  obtain⟨d,h1,x,h2,hi⟩:=hi
  obtain⟨y,h3,rfl⟩:=Option.map_eq_some_iff.1 hi
  obtain⟨t,g1,g2,g3⟩:=hs
  exact⟨t,(z8f he c d h1).trans g1,fun ht=>yx8 he a x h2 (g2 ht),fun ht=>yx8 he b y h3 (g3 ht)⟩
 | .eff kp none (.st n p v) s,s',Q,h,hi,hs=>by
  simp only[S.inl,Option.bind_eq_some_iff]at hi
  obtain⟨q,h1,u,h2,hi⟩:=hi
  obtain⟨z,h3,rfl⟩:=Option.map_eq_some_iff.1 hi
  obtain⟨b,o,x,h',g1,g2,g3,g4,g5⟩:=hs
  exact⟨b,o,x,h',(z8f he p q h1).trans g1,(z8f he v u h2).trans g2,g3,g4,g5.1,yx8 he s z h3 g5.2⟩
 | .eff kp (some d) e s,s',_,_,hi,hs=>by cases e<;>cases hi
 | .eff kp none (.alloc ..) s,s',_,_,hi,hs=>by cases hi
 | .eff kp none (.box ..) s,s',_,_,hi,hs=>by cases hi
 | .eff kp none (.mk ..) s,s',_,_,hi,hs=>by cases hi
 | .eff kp none (.lit ..) s,s',_,_,hi,hs=>by cases hi
 | .eff kp none (.app ..) s,s',_,_,hi,hs=>by cases hi
 | .eff kp none (.cpy ..) s,s',_,_,hi,hs=>by cases hi
 | .eff kp none (.clr ..) s,s',_,_,hi,hs=>by cases hi
 | .exit ..,s',_,_,hi,hs=>by cases hi
 | .stop,s',_,_,hi,hs=>by cases hi
 | .set ..,s',_,_,hi,hs=>by cases hi
 | .call ..,s',_,_,hi,hs=>by cases hi
 | .callv ..,s',_,_,hi,hs=>by cases hi
 | .both ..,s',_,_,hi,hs=>by cases hi
 | .seq ..,s',_,_,hi,hs=>by cases hi
 | .blk ..,s',_,_,hi,hs=>by cases hi
 | .loop ..,s',_,_,hi,hs=>by cases hi
def y9h(ops:Array Oper):Option (Nat×List Operand×Nat) :=
 match ops.toList with
 | [a,b]=>(match a.op,a.dst,a.guard,b.op,b.dst,b.guard with
  | .makeFunc (.func g) first caps,some d,none,.defer c,none,none =>
   (match c.callee with
    | .value (.tmp t)=>if first.toList=[]∧c.args.toList=[]∧t=d then some (g,caps.toList,d)else none
    | _=>none)
  | _,_,_,_,_,_=>none)
 | _=>none
def posL(V:List Nat):List Operand→Option (List Nat)
 | []=>some []
 | .tmp t :: r=>(pos V t).bind fun i=>(posL V r).map fun l=>i :: l
 | _=>none
def renG(Vg ps:List Nat)(i:Nat):Nat:=match Vg[i]? with|some t=>ps.getD t 1000|none=>1000
def y5Z(P:Program)(m:Nat)(V Vg:List Nat)(Bg:S)(g ng:Nat):Code→Option S
  | .seq (.region _ ops d) rest =>
    match y9h ops with
    | some (g', caps, t) => if g' = g ∧ d = false ∧ zs0 P g = true ∧ V.length ≤ 1000 ∧ t < m ∧ (pos V t).isNone = true ∧ caps.length ≤ ng then (posL V caps).bind fun ps => (comp P m V false rest).bind fun B => (Bg.inl (renG Vg ps)).bind fun G =>
        if(ps.all (fun p=>B.keeps p) && B.noId 9999)=true then some (.seq (.blk 9999 (B.unret 9999)) G)else none
      else none
    | none=>(zo8 P m V false ops d (fun _=>some .nxt)).bind fun A=>(y5Z P m V Vg Bg g ng rest).map fun R=>A.app R
  | _=>none
def y3x(P:Program)(fn fg:Func)(V Vg:List Nat)(g:Nat):Option Fun :=
 if(zC2 V && V.all (fun t=>decide (t<fn.ntmps)))=true then
  fn.body.bind fun c=>(yt7 P fg Vg).bind fun Fg=>if Fg.res.isEmpty=true then(y5Z P fn.ntmps V Vg Fg.body g fg.ntmps c).bind fun s=>(resX P V fn.results.toList).map fun r=>⟨s.opt,r⟩else none
 else none
section
variable {P:Program} {V:List Nat} {m:Nat}
theorem zP2{fn:Func}{a:Act}{w:World}{r:List X}{l:List Value}(hr:resX P V fn.results.toList=some r)(hl:resV (x4 V a) (hp w) r=some l):(results fn a.tmps).run P w=.ok (zT8 l) w:=by
 have:=z7I (P:=P) (V:=V) (a:=a) (w:=w) rfl rfl _ _ _ hr hl
 have h2:(fn.results.mapM fun r=>(match r with | .tmp t=>pure (a.tmps.getD t undef) | .cell p t=>(do loadVar t (← asAddr (a.tmps.getD p undef))):Sem Value)).run P w=.ok l.toArray w:=by
  rw[Array.mapM_eq_mapM_toList]
  simp only[Sem.run_map]
  exact congrArg (fun q=>Result.andThen q fun a w'=>Result.ok a.toArray w') this
 unfold results
 simp only[Sem.run_bind]
 refine Eq.trans (congrArg (fun q=>Result.andThen q _) h2) ?_
 simp only[Result.andThen_ok,Sem.run_pure]
 congr 1
 unfold zT8
 split
 ·rename_i h1
  match l,h1 with
  | [v],_=>rfl
 ·rename_i h1
  match l,h1 with
  | [],_=>rfl
  | [v],h1=>exact absurd rfl h1
  | _ :: _ :: _,_=>rfl
theorem z8g{n:Nat}{args:List Value}:env0 V args=x4 V {tmps:=args.toArray++Array.replicate (n-args.toArray.size) undef,defers:=[]}:=by
 unfold env0 x4
 apply List.map_congr_left
 intro t _
 by_cases ht:t<args.length
 ·simp [Array.getElem?_append,ht]
 ·by_cases ht2:t-args.length<n-args.length
  ·simp [Array.getElem?_append,ht,ht2]
  ·simp [Array.getElem?_append,ht,ht2]
def y50(P:Program)(f:Nat)(args:List Value)(h:Heap)(R:Heap→Prop):Prop :=
 ∀(u:FrameMode) (w:World),hp w=h→CallsD P f args.toArray u w fun e u' w'=>u'=u∧(∃v,e=.returned v)∧R (hp w')∧Rest w w'
theorem xp7 (hm : P.follows .mixedOrders = true) {f : Nat} {fn : Func} (hf : P.funcs[f]? = some fn) {F : Fun} (hc : yt7 P fn V = some F) (hres : F.res.isEmpty = true) {args : List Value} (hn : args.length ≤ fn.ntmps) {h : Heap} {R : Heap → Prop}
    (hs:F.body.wp P (fun x _ h'=>(x=.nxt∨x=.ret)∧R h') (env0 V args) h):y50 P f args h R:=by
  intro u w hw
  subst hw
  unfold yt7 at hc
  split at hc
  case isFalse=>cases hc
  rename_i hV
  simp only[Bool.and_eq_true]at hV
  simp only[Option.bind_eq_some_iff]at hc
  obtain⟨c,hb,s,hcs,hc⟩:=hc
  obtain⟨r,hr,rfl⟩:=Option.map_eq_some_iff.1 hc
  have hr0:r=[]:=by simpa using hres
  subst hr0
  have hs0:=zi8 s hs
  clear hs
  refine(callsD_of_wp (R:=fun e w'=>(∃v,e=.returned v)∧R (hp w')∧Rest w w') hf hb ?_)
  rw[z8g (n:=fn.ntmps)]at hs0
  refine wp_mono (zz3 hm hV.1 (w0:=w) (D:=[]) c s hcs _ _ w ⟨rfl,by simp;omega⟩ (Rest.refl w) hs0) ?_
  have fin:∀(a:Act) (w':World),Good [] fn.ntmps a→Rest w w'→R (hp w')→a.defers=[]∧∃v,(results fn a.tmps).run P w'=.ok v w'∧(∃v',Ending.returned v=.returned v')∧R (hp w')∧Rest w w' :=
    fun a w' hg hr' hR=>⟨hg.defers,_,zP2 hr rfl,⟨_,rfl⟩,hR,hr'⟩
  rintro e a w' ⟨hg,hr',hq⟩
  cases e with
  | normal=>exact fin a w' hg hr' hq.2
  | ret=>exact fin a w' hg hr' hq.2
  | exit i=>rcases hq.1 with h|h<;>cases h
  | goto l=>exact hq.elim
  | panic ch=>exact hq.elim
  | outgrown=>exact hq.elim
theorem yx9{B:S}{e:List Value}{h:Heap}:∀(ps:List Nat) {Q:Ex→List Value→Heap→Prop},ps.all (fun p=>B.keeps p)=true→B.wp P Q e h→B.wp P (fun x e' h'=>(∀p∈ps,e'[p]?=e[p]?)∧Q x e' h') e h
 | [],Q,_,hs=>S.wp_mono B (fun x e' h' hx=>⟨fun p hp=>(by cases hp),hx⟩) hs
 | p :: ps,Q,hk,hs=>by
  simp only[List.all_cons,Bool.and_eq_true]at hk
  refine S.wp_mono B (fun x e' h' hx=>?_) (zf5 B hk.1 rfl (yx9 ps hk.2 hs))
  refine⟨fun q hq=>?_,hx.2.2⟩
  rcases List.mem_cons.1 hq with rfl|hq
  ·exact hx.1
  ·exact hx.2.1 q hq
theorem yy0{a:Act}:∀(l:List Operand) (ps:List Nat),posL V l=some ps→ps.length=l.length∧∀(t p:Nat) (y:Operand),ps[t]?=some p→l[t]?=some y→p<V.length∧(x4 V a).getD p undef=a.eval y
 | [],ps,h=>by simp [posL]at h;subst h;exact⟨rfl,fun t p y h=>by simp at h⟩
 | .tmp t :: r,ps,h=>by
  simp only[posL,Option.bind_eq_some_iff]at h
  obtain⟨i,hi,h⟩:=h
  obtain⟨q,hq,rfl⟩:=Option.map_eq_some_iff.1 h
  obtain⟨h1,h2⟩:=yy0 r q hq
  refine⟨by simp [h1],fun t' p y hp hy=>?_⟩
  cases t' with
  | zero =>
   simp at hp hy;subst hp;subst hy
   exact⟨(List.getElem?_eq_some_iff.1 (yk5 hi)).1,z2t hi⟩
  | succ t'=>simp at hp hy;exact h2 t' p y hp hy
 | .const _ :: r,ps,h=>by cases h
 | .func _ :: r,ps,h=>by cases h
 | .global _ :: r,ps,h=>by cases h
theorem y0T {ops : Array Oper} {g d : Nat} {caps : List Operand} (h : y9h ops = some (g, caps, d)) : ∃ (o1 o2 : Oper) (c : Call) (cs : Array Operand), ops = #[o1, o2] ∧ o1.op = .makeFunc (.func g) #[] cs ∧ cs.toList = caps ∧ o1.dst = some d ∧ o1.guard = none ∧
    o2.op=.defer c∧c.callee=.value (.tmp d)∧c.args=#[]∧o2.dst=none∧o2.guard=none:=by
  unfold y9h at h
  split at h
  · rename_i o1 o2 hops
    split at h
    · rename_i g' first cs d' c e1 e2 e3 e4 e5 e6
      split at h
      · rename_i t ht
        split at h
        · rename_i hc
          obtain⟨h1,h2,rfl⟩:=hc
          cases h
          refine⟨o1,o2,c,cs,by apply Array.ext';simpa using hops,?_,rfl,e2,e3,e4,ht,by apply Array.ext';simpa using h2,e5,e6⟩
          rw[e1];congr 1;apply Array.ext';simpa using h1
        · cases h
      · cases h
    · cases h
  · cases h
def DQ(P:Program)(m g:Nat)(V:List Nat)(w0:World)(Q:Ex→List Value→Heap→Prop):Exit→Act→World→Prop:=fun e a w =>
 (e=.normal∨e=.ret)∧Rest w0 w∧zs0 P g=true∧∃args:List Value,a.defers=[⟨.fn (.func g) args.toArray,#[]⟩]∧y50 P g args (hp w) fun h'=>Q .nxt (x4 V a) h'
theorem z8h {Vg : List Nat} {Bg : S} {g ng : Nat} (hm : P.follows .mixedOrders = true) (hV : zC2 V = true)
    (hg:∀(args:List Value) (h:Heap) (R:Heap→Prop),args.length≤ng→Bg.wp P (fun x _ h'=>(x=.nxt∨x=.ret)∧R h') (env0 Vg args) h→y50 P g args h R)
    {w0:World} {Q:Ex→List Value→Heap→Prop} (hQ:∀i e h,¬Q (.exit i) e h):∀(c:Code) (s:S),y5Z P m V Vg Bg g ng c=some s→∀(a:Act) (w:World),Good [] m a→Rest w0 w→s.wp P Q (x4 V a) (hp w)→c.wp P (DQ P m g V w0 Q) a w
  | .seq (.region id ops d) rest,s,hc,a,w,hgd,hr,hs=>by
    simp only[y5Z]at hc
    split at hc
    · rename_i g' caps t hdef
      split at hc
      case isFalse=>cases hc
      rename_i hcond
      obtain⟨rfl,rfl,hb,hV1,htm,htp,hcn⟩:=hcond
      simp only[Option.bind_eq_some_iff]at hc
      obtain⟨ps,hps,B,hB,G,hG,hc⟩:=hc
      split at hc
      case isFalse=>cases hc
      rename_i hk
      simp only[Bool.and_eq_true]at hk
      cases hc
      obtain⟨o1,o2,c,cs,rfl,e1,e2,e3,e4,e5,e6,e7,e8,e9⟩:=y0T hdef
      have hpn:pos V t=none:=by simpa using htp
      have htl:t<a.tmps.size:=by rw[hgd.size];exact htm
      let vs:List Value:=caps.map a.eval
      have hrun1:(execOp a.eval o1).run P w=.ok (.value (.func (.func g') #[] vs.toArray)) w:=s_fn e1 rfl (by rw[e2])
      let a1:Act:=a.put (some t) (.func (.func g') #[] vs.toArray)
      have hev:a1.eval (.tmp t)=.func (.func g') #[] vs.toArray:=zh3 htl
      have hrun2:(execOp a1.eval o2).run P w=.ok (.defer ⟨.fn (.func g') vs.toArray,#[]⟩) w:=by
        simp [execOp,e5,resolve,e6,e7,hev,Deferred.ofValue]
      let a2:Act:={a1 with defers:=⟨.fn (.func g') vs.toArray,#[]⟩ :: a1.defers}
      have henv:x4 V a2=x4 V a:=by
        have:x4 V a2=x4 V a1:=rfl
        rw[this];exact W3 hpn
      have hgood:Good [⟨.fn (.func g') vs.toArray,#[]⟩] m a2:=by
        have h1:Good [] m a1:=hgd.put _ _
        exact⟨by simp only[a2,h1.defers],h1.size⟩
      refine Go.wp_seq (wp_region ?_)
      have hrange:List.range (#[o1,o2]:Array Oper).size=[0,1]:=rfl
      rw[hrange]
      have hw1:Region.wanted o1 (yielded #[o1,o2] a.tmps)=true:=by simp [Region.wanted,e4]
      have hw2:Region.wanted o2 (yielded #[o1,o2] a1.tmps)=true:=by simp [Region.wanted,e9]
      have hK:rest.wp P (DQ P m g' V w0 Q) a2 w:=by
        have hs1:=zf6 B hk.2 hs
        rw[← henv]at hs1
        have hs2:=yx9 ps hk.1 hs1
        have hcomp:=zz3 hm hV (w0:=w0) (D:=[⟨.fn (.func g') vs.toArray,#[]⟩]) rest B hB _ a2 w hgood hr hs2
        have fin:∀(e:Exit) (a':Act) (w':World),(e=.normal∨e=.ret)→Good [⟨.fn (.func g') vs.toArray,#[]⟩] m a'→Rest w0 w'→(∀p∈ps,(x4 V a')[p]?=(x4 V a2)[p]?)→G.wp P Q (x4 V a') (hp w')→DQ P m g' V w0 Q e a' w':=by
          intro e a' w' he hg' hr' hkeep hGw
          refine⟨he,hr',hb,vs,hg'.defers,hg vs _ _ (by simp [vs,hcn]) ?_⟩
          obtain⟨q1,q2⟩:=yy0 (a:=a) caps ps hps
          have hlook:∀i,(env0 Vg vs).getD i undef=(x4 V a').getD (renG Vg ps i) undef:=by
            intro i
            have hbig:(x4 V a').getD 1000 undef=undef:=by
              rw[List.getD_eq_getElem?_getD,List.getElem?_eq_none (by simp [x4];omega)];rfl
            unfold renG env0
            rw[List.getD_eq_getElem?_getD,List.getElem?_map]
            cases hv:Vg[i]? with
            | none=>simp only[Option.map_none,Option.getD_none];exact hbig.symm
            | some t' =>
              simp only[Option.map_some,Option.getD_some]
              by_cases ht':t'<ps.length
              · have h1:ps[t']?=some ps[t']:=by simp [ht']
                have h2:caps[t']?=some (caps[t']'(by omega)):=by simp
                obtain⟨h3,h4⟩:=q2 t' _ _ h1 h2
                have h5:ps.getD t' 1000=ps[t']:=by simp [ht']
                have h6:=hkeep ps[t'] (List.getElem_mem ht')
                rw[henv]at h6
                have h7:(x4 V a').getD ps[t'] undef=(x4 V a).getD ps[t'] undef:=by rw[List.getD_eq_getElem?_getD,h6,← List.getD_eq_getElem?_getD]
                rw[h5,h7,h4,List.getD_eq_getElem?_getD]
                simp only[vs,List.getElem?_map,h2,Option.map_some,Option.getD_some]
              · have h5:ps.getD t' 1000=1000:=by simp [Nat.not_lt.1 ht']
                rw[h5,hbig,List.getD_eq_getElem?_getD,List.getElem?_eq_none (by simp [vs];omega)];rfl
          exact yx8 hlook Bg G hG hGw
        refine wp_mono hcomp ?_
        rintro e a' w' ⟨hg',hr',hq⟩
        cases e with
        | normal=>exact fin _ a' w' (.inl rfl) hg' hr' hq.1 hq.2
        | ret=>exact fin _ a' w' (.inr rfl) hg' hr' hq.1 (by have:=hq.2;simp only[unQ,if_true]at this;exact this)
        | exit i=>obtain⟨_,h1,h2⟩:=hq;dsimp only at h2;rw[if_neg h1]at h2;exact absurd h2 (hQ _ _ _)
        | goto l=>exact hq.elim
        | panic ch=>exact hq.elim
        | outgrown=>exact hq.elim
      simp only[wpOps,List.getElem?_toArray,List.getElem?_cons_zero,List.getElem?_cons_succ,hw1,if_true]
      left
      unfold Oper.wp
      rw[hrun1,Oper.upon_value,e3]
      rw[show(a.put (some t) (.func (.func g') #[] vs.toArray))=a1 from rfl]
      simp only[hw2,if_true]
      left
      rw[hrun2,Oper.upon_defer,e8]
      exact hK
    · simp only[Option.bind_eq_some_iff]at hc
      obtain⟨A,hA,hc⟩:=hc
      obtain⟨R,hR,rfl⟩:=Option.map_eq_some_iff.1 hc
      have hs2:=zZ5 _ _ _ _ hs
      refine Go.wp_seq (wp_mono (zO9 hm hV (D:=[]) (QC:=fun a h=>Good [] m a∧R.wp P Q (x4 V a) h) (fun σ s a h h1 h2 h3 h4=>?_) hA hgd hs2) ?_)
      · cases h1;exact⟨h2,h4⟩
      · rintro e a' w' ⟨rfl,hr',hg',hq⟩
        exact z8h hm hV hg hQ rest R hR a' w' hg' (hr.trans hr') hq
  | .skip,s,hc,_,_,_,_,_=>by cases hc
  | .region ..,s,hc,_,_,_,_,_=>by cases hc
  | .cond ..,s,hc,_,_,_,_,_=>by cases hc
  | .block ..,s,hc,_,_,_,_,_=>by cases hc
  | .loop ..,s,hc,_,_,_,_,_=>by cases hc
  | .rangeFunc ..,s,hc,_,_,_,_,_=>by cases hc
  | .exit ..,s,hc,_,_,_,_,_=>by cases hc
  | .scope ..,s,hc,_,_,_,_,_=>by cases hc
  | .label ..,s,hc,_,_,_,_,_=>by cases hc
  | .goto ..,s,hc,_,_,_,_,_=>by cases hc
  | .ret,s,hc,_,_,_,_,_=>by cases hc
  | .refuse ..,s,hc,_,_,_,_,_=>by cases hc
  | .seq (.seq ..) _,s,hc,_,_,_,_,_=>by cases hc
  | .seq .skip _,s,hc,_,_,_,_,_=>by cases hc
  | .seq (.cond ..) _,s,hc,_,_,_,_,_=>by cases hc
  | .seq (.block ..) _,s,hc,_,_,_,_,_=>by cases hc
  | .seq (.loop ..) _,s,hc,_,_,_,_,_=>by cases hc
  | .seq (.rangeFunc ..) _,s,hc,_,_,_,_,_=>by cases hc
  | .seq (.exit ..) _,s,hc,_,_,_,_,_=>by cases hc
  | .seq (.scope ..) _,s,hc,_,_,_,_,_=>by cases hc
  | .seq (.label ..) _,s,hc,_,_,_,_,_=>by cases hc
  | .seq (.goto ..) _,s,hc,_,_,_,_,_=>by cases hc
  | .seq .ret _,s,hc,_,_,_,_,_=>by cases hc
  | .seq (.refuse ..) _,s,hc,_,_,_,_,_=>by cases hc
theorem xp8 (hm : P.follows .mixedOrders = true) {f g : Nat} {fn fg : Func} (hf : P.funcs[f]? = some fn) (hfg : P.funcs[g]? = some fg) {Vg : List Nat} {F : Fun} (hc : y3x P fn fg V Vg g = some F) {args : List Value} (hn : args.length ≤ fn.ntmps) {h : Heap} {R : Value → Heap → Prop}
    (hs:F.body.wp P (F.post R) (env0 V args) h):Runs P f args h R:=by
  intro w hw
  subst hw
  unfold y3x at hc
  split at hc
  case isFalse=>cases hc
  rename_i hV
  simp only[Bool.and_eq_true]at hV
  simp only[Option.bind_eq_some_iff]at hc
  obtain⟨c,hb,Fg,hFg,hc⟩:=hc
  split at hc
  case isFalse=>cases hc
  rename_i hres
  simp only[Option.bind_eq_some_iff]at hc
  obtain⟨s,hcs,hc⟩:=hc
  obtain⟨r,hr,rfl⟩:=Option.map_eq_some_iff.1 hc
  have hs:=zi8 s hs
  refine calls_of_wp_defers hf hb ?_
  rw[z8g (n:=fn.ntmps)]at hs
  refine wp_mono (z8h hm hV.1 (fun args h R h1 h2=>xp7 hm hfg hFg hres h1 h2) (w0:=w) (fun i e h hx=>hx) c s hcs _ w ⟨rfl,by simp;omega⟩ (Rest.refl w) hs) ?_
  have fin : ∀ (a : Act) (w' : World), Rest w w' → (zs0 P g = true ∧ ∃ args : List Value, a.defers = [⟨.fn (.func g) args.toArray, #[]⟩] ∧ y50 P g args (hp w') fun h' => Fun.post ⟨s.opt, r⟩ R .nxt (x4 V a) h') →
      Leaves P fn a.tmps (fun e w'=>∃v,e=.returned v∧R v (hp w')∧Rest w w') a.defers .returning w':=by
    rintro a w' hr' ⟨hbod,args,hd,hrun⟩
    rw[hd]
    refine leaves_cons (f:=g) (args:=args.toArray) (by simp) (by simp only[invoke,Array.empty_append];exact zZ4 hbod) ?_
    refine(hrun .returning w' rfl).mono ?_
    rintro e u' w'' ⟨rfl,⟨v,rfl⟩,⟨l,hl,hR⟩,hr2⟩
    exact⟨zT8 l,zP2 hr hl,_,rfl,hR,hr'.trans hr2⟩
  rintro e a w' ⟨he,hr',hq⟩
  rcases he with rfl|rfl
  · exact fin a w' hr' hq
  · exact fin a w' hr' hq
end
end Go.Lft
