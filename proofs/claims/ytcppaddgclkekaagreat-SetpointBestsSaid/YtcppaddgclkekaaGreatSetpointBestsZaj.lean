/- Lemmas and walks that the proof of SetpointBests uses. No statement is claimed here. -/
import Derived.Test.YtcppaddgclkekaaGreatSetpointBestsZai
import Derived.LoopNIn
import Derived.RangeFuncCalls
namespace Go.Lft
open Go
set_option linter.unusedVariables false
def opNd(o:Oper):Bool:=match o.op with | .defer _=>false|_=>true
def yy1(ops:Array Oper):Bool:=ops.toList.all opNd
def ndC:Code→Bool
 | .region _ ops _=>yy1 ops
 | .seq a b=>ndC a && ndC b
 | .cond _ a b=>ndC a && ndC b
 | .block _ a=>ndC a
 | .loop a=>ndC a
 | .scope _=>false
 | _=>true
section
variable {P:Program} {ops:Array Oper} {V:List Nat} {m:Nat} {D:List Deferred} {kd:Nat→Nat} {kp:Nat→Bool}
theorem xp9{l:Nat}{o:Oper}{a:Act}{w:World}{K:Act→World→Prop}{Q:Exit→Act→World→Prop}(hd:opNd o=true)(h:o.wpIn Fence.wide 1 P a w K Q):o.wpIn (Fence.wide.inRound l) 1 P a w K Q:=by
 refine⟨fun _ _=>trivial,?_⟩
 have h:=y1q h
 have e:Oper.semAt (some l) a.eval o=execOp a.eval o:=Oper.semAt_eq (some l) _ o (by intro c hc;simp [opNd,hc]at hd)
 show o.uponIn (Fence.wide.inRound l) 1 P a K Q ((Oper.semAt (some l) a.eval o).run P w)
 rw[e]
 generalize (execOp a.eval o).run P w=r at *
 cases r with
 | ok n w'=>cases n<;>exact h
 | halt x w'=>cases x<;>exact h
theorem y3y{l:Nat}{Q:Exit→Act→World→Prop}(hnd:yy1 ops=true):∀(τ:List Nat) (a:Act) (w:World),wpOpsIn Fence.wide 1 P ops Q τ a w→wpOpsIn (Fence.wide.inRound l) 1 P ops Q τ a w
 | [],_,_,h=>h
 | i :: τ,a,w,h=>by
  rw[wpOpsIn_cons]at h ⊢
  have h:=wpOpIn_mono (fun a w=>y3y (l:=l) hnd τ a w) h
  unfold wpOpIn at h ⊢
  split
  ·rename_i ho;simpa [ho]using h
  ·rename_i o ho
   simp only[ho]at h
   split
   ·rename_i hw
    simp only[hw,if_true]at h
    refine xp9 ?_ h
    unfold yy1 at hnd
    rw[List.all_eq_true]at hnd
    exact hnd o (by simpa using Array.mem_of_getElem? ho)
   ·rename_i hw
    simp only[hw,if_false,Bool.false_eq_true]at h
    exact⟨fun _ _=>trivial,h.2⟩
theorem y0U{l id:Nat}{Q:Act→Heap→Prop}{a:Act}{w:World}(hnd:yy1 ops=true)(hm:P.follows .mixedOrders=true)(h:z75 P ops Q [] a w):
    (Code.region id ops true).wpIn (Fence.wide.inRound l) 1 P (fun e a w'=>e=.normal∧Rest w w'∧Q a (hp w')) a w:=by
  refine wpIn_region_draw fun t=>?_
  simp only[Region.schedule,hm,Bool.true_or,if_true]
  exact y3y hnd _ _ _ (h _ (z72 _ _ _) (fun p q hpq=>by cases hpq) _ ⟨rfl,rfl,rfl⟩ rfl)
theorem y3z{l id:Nat}{Q:Act→Heap→Prop}{a:Act}{w:World}(hnd:yy1 ops=true)(h:wpC P ops kd kp Q (List.range ops.size) a (hp w)):
    (Code.region id ops false).wpIn (Fence.wide.inRound l) 1 P (fun e a w'=>e=.normal∧Rest w w'∧Q a (hp w')) a w:=wpIn_region (y3y hnd _ _ _ (zZ0 _ a w (Rest.refl w) h))
theorem z1E {l : Nat} {nk : Bool} (hnd : yy1 ops = true) (hm : P.follows .mixedOrders = true) (hV : zC2 V = true) {id : Nat} {draw : Bool} {leaf : List Ent → Option S} {Q : Ex → List Value → Heap → Prop} {QC : Act → Heap → Prop}
    (hleaf:∀σ s a h,leaf σ=some s→Good D m a→Inv ops V σ a h→s.wp P Q (x4 V a) h→QC a h) {s:S} (hc:zo8 P m V nk ops draw leaf=some s) {a:Act} {w:World} (hg:Good D m a) (hs:s.wp P Q (x4 V a) (hp w)) :
    (Code.region id ops draw).wpIn (Fence.wide.inRound l) 1 P (fun e a w'=>e=.normal∧Rest w w'∧QC a (hp w')) a w:=by
  unfold zo8 at hc
  cases draw with
  | true=>exact y0U hnd hm (zr0 hV hleaf _ _ _ hc a w hg hs)
  | false=>exact y3z hnd (zx4 hV hleaf _ _ _ _ hc a _ hg z5f hs)
theorem zZ6{F:Fence}{n:Nat}{Q:Exit→Act→World→Prop}{c:Operand}{x y:Code}{a:Act}{w:World}{t:Bool}(hc:a.eval c=.bool t)(h1:t=true→x.wpIn F n P Q a w)(h2:t=false→y.wpIn F n P Q a w):(Code.cond c x y).wpIn F n P Q a w :=
 wpIn_cond_split hc h1 h2
theorem z8i{l:Nat}{nk:Bool}(hm:P.follows .mixedOrders=true)(hV:zC2 V=true){w0:World}:∀(c:Code) (s:S),comp P m V nk c=some s→ndC c=true→∀(Q:Ex→List Value→Heap→Prop) (a:Act) (w:World),Good D m a→Rest w0 w→s.wp P Q (x4 V a) (hp w)→c.wpIn (Fence.wide.inRound l) 1 P (CQ D m V w0 Q) a w:=by
  have reg : ∀ {id : Nat} {ops : Array Oper} {draw : Bool} {s : S} (_ : zo8 P m V nk ops draw (fun _ => some .nxt) = some s) (_ : yy1 ops = true) (Q : Ex → List Value → Heap → Prop) (a : Act) (w : World), Good D m a → Rest w0 w → s.wp P Q (x4 V a) (hp w) →
      (Code.region id ops draw).wpIn (Fence.wide.inRound l) 1 P (CQ D m V w0 Q) a w:=by
    intro id ops draw s hc hnd Q a w hg hr hs
    refine wpIn_mono (z1E hnd hm hV (QC:=fun a h=>Good D m a∧Q .nxt (x4 V a) h) (fun σ s a h h1 h2 h3 h4=>?_) hc hg hs) ?_
    · cases h1;exact⟨h2,h4⟩
    · rintro e a' w' ⟨rfl,hr',hg',hq⟩
      exact⟨hg',hr.trans hr',hq⟩
  have regc : ∀ {id : Nat} {ops : Array Oper} {draw : Bool} {s A B : S} {c : Operand} {x y : Code} (_ : zo8 P m V nk ops draw (fun σ => (trans V σ [] c).map fun q => .ite q A B) = some s) (_ : yy1 ops = true) (Q : Ex → List Value → Heap → Prop) (a : Act) (w : World),
      (∀(a:Act) (w:World),Good D m a→Rest w0 w→A.wp P Q (x4 V a) (hp w)→x.wpIn (Fence.wide.inRound l) 1 P (CQ D m V w0 Q) a w)→(∀(a:Act) (w:World),Good D m a→Rest w0 w→B.wp P Q (x4 V a) (hp w)→y.wpIn (Fence.wide.inRound l) 1 P (CQ D m V w0 Q) a w) →
      Good D m a→Rest w0 w→s.wp P Q (x4 V a) (hp w)→(Code.seq (.region id ops draw) (.cond c x y)).wpIn (Fence.wide.inRound l) 1 P (CQ D m V w0 Q) a w:=by
    intro id ops draw s A B c x y hc hnd Q a w hA hB hg hr hs
    refine wpIn_seq (wpIn_mono (z1E hnd hm hV (QC:=fun a h=>Good D m a∧∃t,a.eval c=.bool t∧(t=true→A.wp P Q (x4 V a) h)∧(t=false→B.wp P Q (x4 V a) h)) (fun σ s a h h1 h2 h3 h4=>?_) hc hg hs) ?_)
    · obtain⟨q,hq,rfl⟩:=Option.map_eq_some_iff.1 h1
      obtain⟨t,ht,g1,g2⟩:=h4
      rw[z09 h3 hq]at ht
      exact⟨h2,t,by simpa using ht,g1,g2⟩
    · rintro e a' w' ⟨rfl,hr',hg',t,ht,g1,g2⟩
      exact zZ6 ht (fun h=>hA a' w' hg' (hr.trans hr') (g1 h)) (fun h=>hB a' w' hg' (hr.trans hr') (g2 h))
  have sq : ∀ {c1 c2 : Code} {A B : S} (Q : Ex → List Value → Heap → Prop) (a : Act) (w : World), (∀ (Q : Ex → List Value → Heap → Prop) (a : Act) (w : World), Good D m a → Rest w0 w → A.wp P Q (x4 V a) (hp w) → c1.wpIn (Fence.wide.inRound l) 1 P (CQ D m V w0 Q) a w) →
      (∀(a:Act) (w:World),Good D m a→Rest w0 w→B.wp P Q (x4 V a) (hp w)→c2.wpIn (Fence.wide.inRound l) 1 P (CQ D m V w0 Q) a w)→Good D m a→Rest w0 w→(S.seq A B).wp P Q (x4 V a) (hp w)→(Code.seq c1 c2).wpIn (Fence.wide.inRound l) 1 P (CQ D m V w0 Q) a w:=by
    intro c1 c2 A B Q a w h1 h2 hg hr hs
    refine wpIn_seq (wpIn_mono (h1 _ a w hg hr hs) ?_)
    rintro e a' w' ⟨hg',hr',hq⟩
    cases e with
    | normal=>exact h2 a' w' hg' hr' hq
    | exit i=>exact⟨hg',hr',hq⟩
    | ret=>exact⟨hg',hr',hq⟩
    | goto l=>exact hq.elim
    | panic ch=>exact hq.elim
    | outgrown=>exact hq.elim
  intro c
  induction c using comp.induct with
  | case1=>intro s hc _ Q a w hg hr hs;simp only[comp,Option.some.injEq]at hc;subst hc;exact wpIn_skip ⟨hg,hr,hs⟩
  | case2 l=>intro s hc _ Q a w hg hr hs;simp only[comp,Option.some.injEq]at hc;subst hc;exact wpIn_label ⟨hg,hr,hs⟩
  | case3 id ops d=>intro s hc hnd Q a w hg hr hs;simp only[comp]at hc;exact reg hc hnd Q a w hg hr hs
  | case4 id ops d c x y ihx ihy =>
    intro s hc hnd Q a w hg hr hs
    simp only[ndC,Bool.and_eq_true]at hnd
    obtain⟨n0,n1,n2⟩:=hnd
    rw[comp.eq_4]at hc
    simp only[Option.bind_eq_some_iff]at hc
    obtain⟨A,hA,B,hB,hc⟩:=hc
    split at hc
    · rename_i t
      split at hc
      · rename_i k hk
        obtain⟨r,hr',rfl⟩:=Option.map_eq_some_iff.1 hc
        have hs2:=zZ5 _ _ _ _ hs
        refine sq Q a w (fun Q a w=>reg hr' n0 Q a w) ?_ hg hr hs2
        intro a' w' hg' hr2 hs3
        obtain⟨tv,ht,h1,h2⟩:=hs3
        have ht':a'.eval (.tmp t)=.bool tv:=by
          simp only[X.ev,z2t hk,Option.some.injEq]at ht
          exact ht
        exact zZ6 ht' (fun h=>ihx A hA n1 Q a' w' hg' hr2 (h1 h)) (fun h=>ihy B hB n2 Q a' w' hg' hr2 (h2 h))
      · exact regc hc n0 Q a w (fun a w=>ihx A hA n1 Q a w) (fun a w=>ihy B hB n2 Q a w) hg hr hs
    · exact regc hc n0 Q a w (fun a w=>ihx A hA n1 Q a w) (fun a w=>ihy B hB n2 Q a w) hg hr hs
  | case5 c1 c2 hno ih1 ih2 =>
    intro s hc hnd Q a w hg hr hs
    simp only[ndC,Bool.and_eq_true]at hnd
    rw[comp.eq_5 _ _ _ _ _ _ hno]at hc
    simp only[Option.bind_eq_some_iff]at hc
    obtain⟨A,hA,hc⟩:=hc
    obtain⟨B,hB,rfl⟩:=Option.map_eq_some_iff.1 hc
    exact sq Q a w (fun Q a w=>ih1 A hA hnd.1 Q a w) (fun a w=>ih2 B hB hnd.2 Q a w) hg hr (zZ5 _ _ _ _ hs)
  | case6 c x y ihx ihy =>
    intro s hc hnd Q a w hg hr hs
    simp only[ndC,Bool.and_eq_true]at hnd
    simp only[comp,Option.bind_eq_some_iff]at hc
    obtain⟨A,hA,B,hB,hc⟩:=hc
    obtain⟨q,hq,rfl⟩:=Option.map_eq_some_iff.1 hc
    obtain⟨t,ht,h1,h2⟩:=hs
    rw[z09 (ops:=#[]) z5f hq]at ht
    exact zZ6 (by simpa using ht) (fun h=>ihx A hA hnd.1 Q a w hg hr (h1 h)) (fun h=>ihy B hB hnd.2 Q a w hg hr (h2 h))
  | case7 id c ih =>
    intro s hc hnd Q a w hg hr hs
    simp only[ndC]at hnd
    simp only[comp]at hc
    obtain⟨A,hA,rfl⟩:=Option.map_eq_some_iff.1 hc
    refine wpIn_block (wpIn_mono (ih A hA hnd _ a w hg hr hs) ?_)
    rintro e a' w' ⟨hg',hr',hq⟩
    cases e with
    | normal=>exact⟨hg',hr',hq⟩
    | exit i =>
      simp only[Exit.inBlock]
      dsimp only at hq
      split
      · rename_i hi;rw[if_pos hi]at hq;exact⟨hg',hr',hq⟩
      · rename_i hi;rw[if_neg hi]at hq;exact⟨hg',hr',hq⟩
    | ret=>exact⟨hg',hr',hq⟩
    | goto l=>exact hq.elim
    | panic ch=>exact hq.elim
    | outgrown=>exact hq.elim
  | case8 c ih =>
    intro s hc hnd Q a w hg hr hs
    simp only[ndC]at hnd
    simp only[comp]at hc
    obtain⟨A,hA,rfl⟩:=Option.map_eq_some_iff.1 hc
    obtain⟨n,hn⟩:=hs
    refine wpIn_loop_rounds n ?_
    have key:∀(n:Nat) (a:Act) (w:World),Good D m a→Rest w0 w→z25 (fun Q e h=>A.wp P Q e h) Q n (x4 V a) (hp w)→Code.roundsIn (Fence.wide.inRound l) 1 P c (CQ D m V w0 Q) n a w:=by
      intro n
      induction n with
      | zero=>intro a w _ _ h;exact h.elim
      | succ n ihn =>
        intro a w hg hr h
        refine wpIn_mono (ih A hA hnd _ a w hg hr h) ?_
        rintro e a' w' ⟨hg',hr',hq⟩
        cases e with
        | normal=>exact ihn a' w' hg' hr' hq
        | exit i=>exact⟨hg',hr',hq⟩
        | ret=>exact⟨hg',hr',hq⟩
        | goto l=>exact hq.elim
        | panic ch=>exact hq.elim
        | outgrown=>exact hq.elim
    exact key n a w hg hr hn
  | case9 c ih=>intro s hc hnd;cases hnd
  | case10 id=>intro s hc _ Q a w hg hr hs;simp only[comp,Option.some.injEq]at hc;subst hc;exact wpIn_exit ⟨hg,hr,hs⟩
  | case11=>intro s hc _ Q a w hg hr hs;simp only[comp,Option.some.injEq]at hc;subst hc;exact wpIn_ret ⟨hg,hr,hs⟩
  | case12 t h1 h2 h3 h4 h5 h6 h7 h8 h9 h10 h11 =>
    intro s hc _
    rw[comp.eq_12 _ _ _ _ _ h1 h2 h3 h4 h5 h6 h7 h8 h9 h10 h11]at hc
    cases hc
end
end Go.Lft
