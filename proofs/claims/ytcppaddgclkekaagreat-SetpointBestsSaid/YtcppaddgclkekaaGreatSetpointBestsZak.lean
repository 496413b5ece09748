/- Lemmas and walks that the proof of SetpointBests uses. No statement is claimed here. -/
import Derived.Test.YtcppaddgclkekaaGreatSetpointBestsZaj
import Derived.RangeFuncLeaves
import Derived.RangeFuncRecord
namespace Go.Lft
open Go
set_option linter.unusedSimpArgs false
set_option linter.unusedVariables false
def recY(fn:FuncId)(ts:Array Value)(ps:Array Tmp)(asg body:Code)(r:Nat):Loop:={state:=.ready,pending:=none,fn:=fn,tmps:=ts,params:=ps,assign:=asg,body:=body,defers:=r}
def recB(fn:FuncId)(ts:Array Value)(ps:Array Tmp)(asg body:Code)(r:Nat):Loop:={recY fn ts ps asg body r with state:=.busy}
def recX(fn:FuncId)(ts:Array Value)(ps:Array Tmp)(asg body:Code)(r:Nat):Loop:={recY fn ts ps asg body r with state:=.exhausted}
def mark(r:Nat):Deferred:={target:=.collected r,args:=#[]}
abbrev yv(l:Nat):Value:=.func (.yield l) #[] #[]
theorem z3e{w:World}{l:Nat}{o:Obj}(h:l<w.heap.size):hp (w.putObj l o)=upd (hp w) l o:=by
 funext k
 simp only[hp,upd]
 by_cases hk:k=l
 ·subst hk;rw[if_pos rfl];exact World.putObj_heap_same h
 ·rw[if_neg hk];exact World.putObj_heap_other hk
theorem y51{w:World}{l:Nat}{o:Obj}(h:hp w l=some o):l<w.heap.size:=(Array.getElem?_eq_some_iff.1 h).1
theorem zP3(w:World)(l:Nat)(o:Obj):Rest w (w.putObj l o):=⟨rfl,rfl,rfl⟩
section
variable {P:Program} {V:List Nat} {m:Nat}
theorem y52 {nk : Bool} (hm : P.follows .mixedOrders = true) (hV : zC2 V = true) {l : Nat} {fn : FuncId} {ts : Array Value} {p : Tmp} {asg body : Code} {r : Nat} {As B : S} (hA : comp P m V nk asg = some As) (hnA : ndC asg = true)
    (hB:comp P m V nk body=some B) (hnB:ndC body=true) (hts:ts.size=m) {v:Value} {h:Heap} {R:Value→Heap→Prop} (hl:h l=some (.loop (recY fn ts #[p] asg body r)))
    (hs:As.wp P (fun x e1 h1=>x=.nxt∧h1 l=some (.loop (recY fn ts #[p] asg body r)) ∧
      B.wp P (fun x e2 h2=>x=.nxt∧h2 l=some (.loop (recB fn ts #[p] asg body r))∧R (.bool true) (upd h2 l (.loop (recY fn ts #[p] asg body r)))) e1 (upd h1 l (.loop (recB fn ts #[p] asg body r))))
      (x4 V {tmps:=ts.setIfInBounds p v,defers:=[]}) h):RunsY P l [v] h R:=by
  intro w hw
  subst hw
  refine⟨fn,ts.setIfInBounds p v,asg,body,?_,?_⟩
  · have:=run_yield (P:=P) (w:=w) (l:=l) (args:=#[v]) hl rfl
    simpa [recY]using this
  have hR:RoundIn Fence.wide 1 P l fn (ts.setIfInBounds p v) asg body w (fun e w'=>∃v,e=.returned v∧R v (hp w')∧Rest w w'):=by
    refine roundIn_of_wpIn trivial ?_
    refine wpIn_mono (z8i hm hV (D:=[]) (w0:=w) asg As hA hnA _ {tmps:=ts.setIfInBounds p v,defers:=[]} w ⟨rfl,by simp [hts]⟩ (Rest.refl w) hs) ?_
    rintro e a1 w1 ⟨hg1,hr1,hq⟩
    cases e with
    | normal =>
      obtain⟨_,h1,h2⟩:=hq
      have e1:hp (w1.putObj l (.loop (recB fn ts #[p] asg body r)))=upd (hp w1) l (.loop (recB fn ts #[p] asg body r)):=z3e (y51 h1)
      refine⟨_,run_beginRound h1 rfl,?_⟩
      refine wpIn_mono (z8i hm hV (D:=[]) (w0:=w) body B hB hnB _ a1 _ hg1 (hr1.trans (zP3 w1 l _)) (by rw[show({recY fn ts #[p] asg body r with state:=.busy}:Loop)=recB fn ts #[p] asg body r from rfl,e1];exact h2)) ?_
      rintro e a2 w2 ⟨hg2,hr2,hq⟩
      cases e with
      | normal =>
        obtain⟨_,h3,h4⟩:=hq
        refine⟨_,_,run_endRound none h3,.bool true,rfl,?_,hr2.trans (zP3 w2 l _)⟩
        rw[z3e (y51 h3)]
        exact h4
      | exit i=>exact absurd hq.1 (by simp)
      | ret=>exact absurd hq.1 (by simp)
      | goto t=>exact hq.elim
      | panic ch=>exact hq.elim
      | outgrown=>exact hq.elim
    | exit i=>exact absurd hq.1 (by simp)
    | ret=>exact absurd hq.1 (by simp)
    | goto t=>exact hq.elim
    | panic ch=>exact hq.elim
    | outgrown=>exact hq.elim
  exact⟨trivial,fun c cs _=>hR.2 c cs (room_wide _)⟩
theorem y53 {g : Operand} {ps : Array Tmp} {asg body : Code} {Q' : Heap → Prop} {a : Act} {w : World} {it : Nat} {caps : Array Value} (hg : a.eval g = .func (.func it) #[] caps) (hb : zs0 P it = true)
    (h:∀fn,Runs P it (yv (w.heap.size+1) :: caps.toList) (upd (upd (hp w) w.heap.size (.deferred (some []))) (w.heap.size+1) (.loop (recY fn a.tmps ps asg body w.heap.size))) fun v h3 =>
      h3 (w.heap.size+1)=some (.loop (recY fn a.tmps ps asg body w.heap.size))∧Q' (upd h3 (w.heap.size+1) (.loop (recX fn a.tmps ps asg body w.heap.size)))) :
    (Code.rangeFunc g ps asg body).wp P (fun e a' w'=>e=.normal∧a'={a with defers:=mark w.heap.size :: a.defers}∧Rest w w'∧Q' (hp w')) a w:=by
  refine(wpIn_wide (n:=1)).1 (wpIn_rangeFunc fun fn _=>?_)
  let w1:World:=(w.alloc (.deferred (some []))).alloc (.loop (recY fn a.tmps ps asg body w.heap.size))
  refine⟨w.heap.size+1,[mark w.heap.size],w1,⟨.fn (.func it) caps,#[yv (w.heap.size+1)]⟩,w1,it,#[yv (w.heap.size+1)]++caps,w1,run_enterLoop_outer fn a.tmps ps asg body,?_,fun _ _=>trivial,?_,fun _=>Nat.le_refl _,?_⟩
  · simp only[resolve,hg,Deferred.ofValue,Sem.run_bind,Sem.run_pure,Result.andThen_ok]
    simp [Act.eval]
  · simp only[invoke];exact zZ4 hb
  have e1:hp w1=upd (upd (hp w) w.heap.size (.deferred (some []))) (w.heap.size+1) (.loop (recY fn a.tmps ps asg body w.heap.size)):=by
    show hp ((w.alloc _).alloc _)=_
    rw[z7G,z7G,World.size_alloc]
  have e2:#[yv (w.heap.size+1)]++caps=(yv (w.heap.size+1) :: caps.toList).toArray:=by apply Array.ext';simp
  rw[e2]
  refine callsIn_wide.2 ((h fn w1 e1).mono ?_)
  rintro e w3 ⟨v,rfl,⟨h1,h2⟩,hr⟩
  refine⟨none,_,run_endLoop h1 (by simp [recY]),?_⟩
  refine⟨rfl,rfl,Rest.trans (b:=w1) ⟨rfl,rfl,rfl⟩ (hr.trans (zP3 w3 _ _)),?_⟩
  rw[z3e (y51 h1)]
  exact h2
structure RX where
 a:S
 g:X
 p:Nat
 asg:Code
 body:Code
 as:S
 b:S
 c:S
def y9i:Code→Option (Code×Operand×Array Tmp×Code×Code)
 | .seq A (.block _ (.rangeFunc g ps asg body))=>some (A,g,ps,asg,body)
 | _=>none
theorem y0V{c A asg body:Code}{g:Operand}{ps:Array Tmp}(h:y9i c=some (A,g,ps,asg,body)):∃bk,c=.seq A (.block bk (.rangeFunc g ps asg body)):=by
 unfold y9i at h
 split at h
 ·cases h;exact⟨_,rfl⟩
 ·cases h
def y0W(P:Program)(m:Nat)(V:List Nat):Code→Option RX
 | .seq c1 c2 =>
  match y9i c1 with
  | some (A,g,ps,asg,body) =>
   match ps.toList with
   | [p] =>
    if ndC asg=true∧ndC body=true∧p<m then
     (comp P m V false A).bind fun a=>(trans V [] [] g).bind fun gx=>(comp P m V false asg).bind fun as=>(comp P m V false body).bind fun b=>(comp P m V false c2).map fun c=>⟨a.opt,gx,p,asg,body,as,b,c.opt⟩
    else none
   | _=>none
  | none=>(comp P m V false c1).bind fun a=>(y0W P m V c2).map fun r=>{r with a:=a.opt.app r.a}
 | _=>none
def RngQ(P:Program)(V:List Nat)(m:Nat)(rx:RX)(Q:Ex→List Value→Heap→Prop):Ex→List Value→Heap→Prop:=fun x e h =>
  match x with
  | .exit _=>False
  | .ret=>Q .ret e h
  | .nxt => ∃ it caps, rx.g.ev e h = some (.func (.func it) #[] caps) ∧ zs0 P it = true ∧ ∀ (r l : Nat) (fn : FuncId) (ts : Array Value), h r = none → h l = none → r ≠ l → ts.size = m → x4 V { tmps := ts, defers := [] } = e →
      Runs P it (yv l :: caps.toList) (upd (upd h r (.deferred (some []))) l (.loop (recY fn ts #[rx.p] rx.asg rx.body r))) fun v h3 =>
        h3 l=some (.loop (recY fn ts #[rx.p] rx.asg rx.body r)) ∧
        rx.c.wp P (fun x e' h'=>(x=.nxt∨x=.ret)∧h' r=some (.deferred (some []))∧Q .nxt e' (upd h' r (.deferred none))) e (upd h3 l (.loop (recX fn ts #[rx.p] rx.asg rx.body r)))
def RngE(V:List Nat)(m:Nat)(w0:World)(Q:Ex→List Value→Heap→Prop):Exit→Act→World→Prop:=fun e a w =>
 (e=.normal∨e=.ret)∧Rest w0 w∧((Good [] m a∧Q .ret (x4 V a) (hp w))∨∃r,Good [mark r] m a∧hp w r=some (.deferred (some []))∧Q .nxt (x4 V a) (upd (hp w) r (.deferred none)))
theorem yh9(hm:P.follows .mixedOrders=true)(hV:zC2 V=true){w0:World}{Q:Ex→List Value→Heap→Prop}:∀(c:Code) (rx:RX),y0W P m V c=some rx→∀(a:Act) (w:World),Good [] m a→Rest w0 w→rx.a.wp P (RngQ P V m rx Q) (x4 V a) (hp w)→c.wp P (RngE V m w0 Q) a w
 | .seq c1 c2,rx,hc,a,w,hg,hr,hs=>by
  unfold y0W at hc
  split at hc
  ·rename_i A g ps asg body hrng
   obtain⟨bk,rfl⟩:=y0V hrng
   split at hc
   ·rename_i p hps
    have hps':ps=#[p]:=by apply Array.ext';simpa using hps
    subst hps'
    split at hc
    case isFalse=>cases hc
    rename_i hcond
    obtain⟨n1,n2,n3⟩:=hcond
    simp only[Option.bind_eq_some_iff]at hc
    obtain⟨sa,hA,gx,hgx,as,has,b,hb,hc⟩:=hc
    obtain⟨sc,hC,rfl⟩:=Option.map_eq_some_iff.1 hc
    have hs:=zi8 sa hs
    refine Go.wp_seq (Go.wp_seq (wp_mono (zz3 hm hV (D:=[]) (w0:=w0) A sa hA _ a w hg hr hs) ?_))
    rintro e a1 w1 ⟨hg1,hr1,hq⟩
    cases e with
    | normal =>
     obtain⟨it,caps,q1,q2,q3⟩:=hq
     have hgv:a1.eval g=.func (.func it) #[] caps:=by
      have:=zg4 (ops:=#[]) (a:=a1) (h:=hp w1) z5f (fun g hg=>by cases hg) _ _ hgx
      rw[q1]at this
      exact(Option.some.inj this).symm
     have hrun:=fun fn=>q3 w1.heap.size (w1.heap.size+1) fn a1.tmps (by simp [hp]) (by simp [hp]) (by omega) hg1.size rfl
     refine Go.wp_block (wp_mono (y53 (Q':=fun h4=>sc.opt.wp P (fun x e' h'=>(x=.nxt∨x=.ret)∧h' w1.heap.size=some (.deferred (some []))∧Q .nxt e' (upd h' w1.heap.size (.deferred none))) (x4 V a1) h4) hgv q2 hrun) ?_)
     rintro e a2 w2 ⟨rfl,rfl,hr2,hq2⟩
     refine wp_mono (zz3 hm hV (D:=[mark w1.heap.size]) (w0:=w0) c2 sc hC _ {a1 with defers:=mark w1.heap.size :: a1.defers} w2 ⟨by simp [hg1.defers],hg1.size⟩ (hr1.trans hr2) (zi8 sc hq2)) ?_
     rintro e a3 w3 ⟨hg3,hr3,hq⟩
     cases e with
     | normal=>exact⟨.inl rfl,hr3,.inr ⟨_,hg3,hq.2⟩⟩
     | ret=>exact⟨.inr rfl,hr3,.inr ⟨_,hg3,hq.2⟩⟩
     | exit i=>rcases hq.1 with h|h<;>cases h
     | goto l=>exact hq.elim
     | panic ch=>exact hq.elim
     | outgrown=>exact hq.elim
    | ret=>exact⟨.inr rfl,hr1,.inl ⟨hg1,hq⟩⟩
    | exit i=>exact hq.elim
    | goto l=>exact hq.elim
    | panic ch=>exact hq.elim
    | outgrown=>exact hq.elim
   ·cases hc
  ·simp only[Option.bind_eq_some_iff]at hc
   obtain⟨sa,hA,hc⟩:=hc
   obtain⟨rx',hR,rfl⟩:=Option.map_eq_some_iff.1 hc
   have hs:=zi8 sa (zZ5 _ _ _ _ hs)
   refine Go.wp_seq (wp_mono (zz3 hm hV (D:=[]) (w0:=w0) c1 sa hA _ a w hg hr hs) ?_)
   rintro e a1 w1 ⟨hg1,hr1,hq⟩
   cases e with
   | normal=>exact yh9 hm hV c2 rx' hR a1 w1 hg1 hr1 hq
   | ret=>exact⟨.inr rfl,hr1,.inl ⟨hg1,hq⟩⟩
   | exit i=>exact hq.elim
   | goto l=>exact hq.elim
   | panic ch=>exact hq.elim
   | outgrown=>exact hq.elim
 | .skip,rx,hc,_,_,_,_,_=>by cases hc
 | .region ..,rx,hc,_,_,_,_,_=>by cases hc
 | .cond ..,rx,hc,_,_,_,_,_=>by cases hc
 | .block ..,rx,hc,_,_,_,_,_=>by cases hc
 | .loop ..,rx,hc,_,_,_,_,_=>by cases hc
 | .rangeFunc ..,rx,hc,_,_,_,_,_=>by cases hc
 | .exit ..,rx,hc,_,_,_,_,_=>by cases hc
 | .scope ..,rx,hc,_,_,_,_,_=>by cases hc
 | .label ..,rx,hc,_,_,_,_,_=>by cases hc
 | .goto ..,rx,hc,_,_,_,_,_=>by cases hc
 | .ret,rx,hc,_,_,_,_,_=>by cases hc
 | .refuse ..,rx,hc,_,_,_,_,_=>by cases hc
def yy2(P:Program)(fn:Func)(V:List Nat):Option (RX×List X) :=
 if zC2 V && V.all (fun t=>decide (t<fn.ntmps))then
  fn.body.bind fun c=>(y0W P fn.ntmps V c).bind fun rx=>(resX P V fn.results.toList).map fun r=>(rx,r)
 else none
theorem xq0 (hm : P.follows .mixedOrders = true) {f : Nat} {fn : Func} (hf : P.funcs[f]? = some fn) {rx : RX} {r : List X} (hc : yy2 P fn V = some (rx, r)) {args : List Value} (hn : args.length ≤ fn.ntmps) {h : Heap} {R : Value → Heap → Prop}
    (hs:rx.a.wp P (RngQ P V fn.ntmps rx (Fun.post ⟨.nxt,r⟩ R)) (env0 V args) h):Runs P f args h R:=by
  intro w hw
  subst hw
  unfold yy2 at hc
  split at hc
  case isFalse=>cases hc
  rename_i hV
  simp only[Bool.and_eq_true]at hV
  simp only[Option.bind_eq_some_iff]at hc
  obtain⟨c,hb,rx',hcs,hc⟩:=hc
  obtain⟨r',hr,he⟩:=Option.map_eq_some_iff.1 hc
  cases he
  rw[z8g (n:=fn.ntmps)]at hs
  refine(callsIn_wide (n:=1)).1 (callsIn_of_wp_marks hf hb trivial ?_)
  refine wpIn_wide.2 (wp_mono (yh9 hm hV.1 (w0:=w) c rx hcs _ w ⟨rfl,by simp;omega⟩ (Rest.refl w) hs) ?_)
  have fin : ∀ (a : Act) (w' : World), Rest w w' → ((Good [] fn.ntmps a ∧ Fun.post ⟨.nxt, r⟩ R .ret (x4 V a) (hp w')) ∨ ∃ b, Good [mark b] fn.ntmps a ∧ hp w' b = some (.deferred (some [])) ∧ Fun.post ⟨.nxt, r⟩ R .nxt (x4 V a) (upd (hp w') b (.deferred none))) →
      LeavesInM Fence.wide 1 P fn a.tmps (fun e w''=>∃v,e=.returned v∧R v (hp w'')∧Rest w w'') a.defers .returning w':=by
    rintro a w' hr' (⟨hg,l,hl,hR⟩|⟨b,hg,hb,l,hl,hR⟩)
    · rw[hg.defers]
      exact⟨zT8 l,zP2 hr hl,_,rfl,hR,hr'⟩
    · rw[hg.defers]
      have e1:=z3e (o:=.deferred none) (y51 hb)
      refine⟨by simp,.inl ⟨b,w'.putObj b (.deferred none),rfl,run_takeDeferred hb,?_⟩⟩
      rw[← e1]at hl hR
      exact⟨zT8 l,zP2 hr hl,_,rfl,hR,hr'.trans (zP3 _ _ _)⟩
  rintro e a w' ⟨he,hr',hq⟩
  rcases he with rfl|rfl
  · exact fin a w' hr' hq
  · exact fin a w' hr' hq
end
end Go.Lft
