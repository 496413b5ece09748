/- Lemmas and walks that the proof of SetpointBests uses. No statement is claimed here. -/
import Derived.Test.YtcppaddgclkekaaGreatSetpointBestsZal
import Derived.WideShapes
import Derived.ChangeShapes
namespace Go.Lft
open Go Go.WideShapes
set_option linter.unusedSimpArgs false
set_option linter.unusedVariables false
theorem arg_open {Hh : Type} {enc : TypeId × Value → Hh} {P : Program} {w : World} {base b0 : Nat} {spare : Nat → Bool} {held : Bool} {r : Reach} (u : Bool) (ty : Ty) {t : TypeId} {v : Value} {d : DataW Hh} {ps : List MemPlace}
    (hi:ty.Is P t) (hok:Value.okWide P w r b0 t v) (h:DataW.Trod enc P w base spare held t v d ps):∃es,ty.Sh u es∧Rel (fun _=>hp w) (fun _ _=>none) (ty.pk es) v:=by
  obtain⟨fuel,hf⟩:=h
  obtain⟨es,h1,h2⟩:=Ty.open u ty hi hf
  refine⟨es,h2,?_⟩
  have single:v.cells.toList=[v]→(∃a,es=[a])→(∀a,es=[a]→ty.pk es=a)→Rel (fun _=>hp w) (fun _ _=>none) (ty.pk es) v:=fun hv ⟨a,ha⟩ hp=>by
    rw[hp a ha]
    rw[hv,ha]at h1
    exact h1.2 0 a v rfl rfl
  cases ty with
  | int k =>
    simp only[Ty.Is]at hi
    obtain⟨n,rfl⟩:=okWide_int hi hok
    simp only[Ty.Sh]at h2
    obtain⟨m,rfl,_⟩:=h2
    exact single rfl ⟨_,rfl⟩ fun a ha=>by cases ha;rfl
  | bool =>
    simp only[Ty.Is]at hi
    obtain⟨n,rfl⟩:=okWide_bool hi hok
    simp only[Ty.Sh]at h2
    obtain⟨m,rfl⟩:=h2
    exact single rfl ⟨_,rfl⟩ fun a ha=>by cases ha;rfl
  | str =>
    simp only[Ty.Is]at hi
    obtain⟨n,rfl⟩:=okWide_string hi hok
    simp only[Ty.Sh]at h2
    obtain⟨m,rfl,_⟩:=h2
    exact single rfl ⟨_,rfl⟩ fun a ha=>by cases ha;rfl
  | sl e =>
    simp only[Ty.Is]at hi
    obtain⟨x,hx,_⟩:=hi
    obtain⟨a,len,cap,rfl⟩:=okWide_slice hx hok
    simp only[Ty.Sh]at h2
    obtain⟨m,rfl,_⟩:=h2
    exact single rfl ⟨_,rfl⟩ fun a ha=>by cases ha;rfl
  | ar k e =>
    simp only[Ty.Is]at hi
    obtain⟨x,hx,_⟩:=hi
    have hok':∃cs:Array Value,v=.agg cs:=by
      simp only[Value.okWide,hx]at hok
      obtain⟨cs,h1,_⟩:=hok
      exact⟨cs,h1⟩
    obtain⟨cs,rfl⟩:=hok'
    have h1':RL (fun _=>hp w) (fun _ _=>none) es cs.toList:=h1
    have:=Rel.agg (g:=fun _=>hp w) (σ:=fun _ _=>none) es cs.toList h1'.1 h1'.2
    simpa [Ty.pk]using this
  | st l =>
    simp only[Ty.Is]at hi
    obtain⟨fs,hx,_⟩:=hi
    obtain⟨cs,rfl,_⟩:=okWide_struct hx hok
    have h1':RL (fun _=>hp w) (fun _ _=>none) es cs.toList:=h1
    have:=Rel.agg (g:=fun _=>hp w) (σ:=fun _ _=>none) es cs.toList h1'.1 h1'.2
    simpa [Ty.pk]using this
theorem law_calls{P:Program}{f:Nat}{args:List A}{vs:List Value}{w:World}(hv:VR P false f args [] (isR (.v (.bool true))))(hr:RL (fun _=>hp w) (fun _ _=>none) args vs):
    Calls P f vs.toArray w fun e w'=>e=.returned (.bool true)∧Go.RowKit.Below w.heap.size w w' :=
  xf6 (VR.law (hv.mono fun r G h=>h.1) hr)
end Go.Lft
namespace Go.Lft
open Go
theorem AWP.seq{P:Program}{n0:Nat}{a b:S}{Q:QA}{e:List A}{H:List Blk}(h:AWP P n0 a (fun x e H=>match x with | .nxt=>AWP P n0 b Q e H|x=>Q x e H) e H):AWP P n0 (.seq a b) Q e H:=fun c ev hH hn hs he=>by
 subst hH
 refine S.wp_mono a (fun x e' h' hq=>?_) (h c ev rfl hn hs he)
 obtain⟨e2,d,rfl,h2,h3,h4,h5⟩:=hq
 cases x with
 | nxt=>exact S.wp_mono b (fun x e' h'' hq=>hq.up h3) (h2 d _ rfl (h3.len hn) h4 h5)
 | exit i=>exact⟨e2,d,rfl,h2,h3,h4,h5⟩
 | ret=>exact⟨e2,d,rfl,h2,h3,h4,h5⟩
def S.pre:Nat→S→S
 | n+1,.set i x k=>.set i x (k.pre n)
 | n+1,.chk x k=>.chk x (k.pre n)
 | n+1,.eff kp d f k=>.eff kp d f (k.pre n)
 | _,_=>.nxt
def S.post:Nat→S→S
 | n+1,.set _ _ k=>k.post n
 | n+1,.chk _ k=>k.post n
 | n+1,.eff _ _ _ k=>k.post n
 | _,s=>s
theorem z3f{P:Program}:∀(n:Nat) (s:S) {Q:Ex→List Value→Heap→Prop} {e:List Value} {h:Heap},(S.seq (s.pre n) (s.post n)).wp P Q e h→s.wp P Q e h
 | 0,s,Q,e,h,hw=>by cases s<;>exact hw
 | n+1,s,Q,e,h,hw=>by
  cases s with
  | set i x k=>obtain⟨v,h1,h2⟩:=hw;exact⟨v,h1,z3f n k h2⟩
  | chk x k=>obtain⟨v,h1,h2⟩:=hw;exact⟨v,h1,z3f n k h2⟩
  | eff kp d f k=>exact E.ok_mono (R:=fun v h'=>(kp=true→Ext h h')∧(S.seq (k.pre n) (k.post n)).wp P Q (put e d v) h') (fun v h' hh=>⟨hh.1,z3f n k hh.2⟩) hw
  | _=>exact hw
theorem AWP.chain{P:Program}{n0:Nat}{s:S}{Q:QA}{e:List A}{H:List Blk}(n:Nat)(h:(s.pre n).aw P n0 (fun x e H=>match x with | .nxt=>AWP P n0 (s.post n) Q e H|x=>Q x e H) e H):AWP P n0 s Q e H :=
 fun c ev a1 a2 a3 a4=>z3f n s (AWP.seq (aw_sound h) c ev a1 a2 a3 a4)
end Go.Lft
namespace Go.Lft
open Go
set_option linter.unusedSimpArgs false
set_option linter.unusedVariables false
def Cfg.put(c:Cfg)(b:Nat)(o:Obj):Cfg:=⟨fun w k=>if k=b then none else c.g w k,c.σ,c.H,upd c.h b o⟩
def ncl(o:Option Obj):Prop:=∀cs t f,o≠some (.cells cs t f)
theorem y3A{g g':Heap}(hg:∀k cs t f,g k=some (.cells cs t f)→g' k=g k){b o n:Nat}{vs:List Value}(h:rd g b o n=some vs):rd g' b o n=some vs:=by
 unfold rd at h ⊢
 cases hb:g b with
 | none=>simp [hb]at h
 | some p =>
  cases p with
  | cells cs t f=>rw[hg b cs t f hb,hb];rw[hb]at h;exact h
  | _=>simp [hb]at h
theorem Rel.same{g g':Bool→Heap}{σ:Nam}(hg:∀w k cs t f,g w k=some (.cells cs t f)→g' w k=g w k){a:A}{x:Value}(h:Rel g σ a x):Rel g' σ a x:=by
 induction h with
 | any x=>exact .any x
 | v x=>exact .v x
 | agg l vs hl hr ih=>exact .agg l vs hl ih
 | tup l vs hl hr ih=>exact .tup l vs hl ih
 | fn f l vs hl hr ih=>exact .fn f l vs hl ih
 | fs0 w a c=>exact .fs0 w a c
 | fs w l b o c k f hc hl hr ih =>
  exact .fs w l b o c k f hc (fun i a ha=>by obtain⟨cs,h1,h2,h3⟩:=hl i a ha;exact⟨cs,h1,h2,y3A (hg w) h3⟩) ih
 | fp w l b o vs hd hr ih=>exact .fp w l b o vs (y3A (hg w) hd) ih
 | sl i ver k o n b s o' c hs' hn ho=>exact .sl i ver k o n b s o' c hs' hn ho
 | lp i ver o b s hs'=>exact .lp i ver o b s hs'
 | vs0 i ver k hs'=>exact .vs0 i ver k hs'
 | vs i ver k n b s o' c hs' hn ho=>exact .vs i ver k n b s o' c hs' hn ho
theorem RL.same{g g':Bool→Heap}{σ:Nam}(hg:∀w k cs t f,g w k=some (.cells cs t f)→g' w k=g w k){l:List A}{vs:List Value}(h:RL g σ l vs):RL g' σ l vs :=
 ⟨h.1,fun i a x h1 h2=>(h.2 i a x h1 h2).same hg⟩
theorem z1d{c:Cfg}(hs:St c){b:Nat}{o:Obj}(hb:ncl (c.h b)):∀w k cs t f,c.g w k=some (.cells cs t f)→(c.put b o).g w k=c.g w k:=fun w k cs t f hk=>by
 have:k≠b:=fun e=>by subst e;exact hb cs t f (hs.ext w _ _ hk)
 simp [Cfg.put,this]
theorem St.put{c:Cfg}(hs:St c){b:Nat}{o:Obj}(hb:ncl (c.h b)):St (c.put b o):=by
 refine⟨fun w k p hk=>?_,fun i B hB=>?_,hs.inj,hs.nam⟩
 ·have hk':(if k=b then none else c.g w k)=some p:=hk
  split at hk'
  ·cases hk'
  ·rename_i hne
   show upd c.h b o k=some p
   rw[Y7 _ _ hne];exact hs.ext w k p hk'
 ·rcases hs.blk i B hB with h|⟨b',s,vs,z,t,h1,h2,h3,h4,h5⟩
  ·exact .inl h
  ·have hne:b'≠b:=fun e=>by subst e;exact hb _ _ _ h3
   refine .inr ⟨b',s,vs,z,t,h1,fun w=>?_,?_,h4,h5.same (z1d hs hb)⟩
   ·show(if b'=b then none else c.g w b')=none
    rw[if_neg hne];exact h2 w
   ·show upd c.h b o b'=_
    rw[Y7 _ _ hne];exact h3
theorem Lat.put{n0:Nat}{c0 c:Cfg}(h:Lat n0 c0 c)(hs:St c0){b:Nat}{o:Obj}(hb:c0.h b=none):Lat n0 c0 (c.put b o):=by
 have gn:∀w,c0.g w b=none:=fun w=>by
  cases hg:c0.g w b with
  | none=>rfl
  | some p=>have:=hs.ext w _ _ hg;rw[hb]at this;cases this
 refine⟨?_,fun k p hk=>?_,fun k hk=>?_,fun k hk=>?_,fun k p hk hn=>?_,h.own,h.nam,h.len⟩
 ·funext k
  show(if k=b then none else c.g false k)=c0.g false k
  split
  ·rename_i e;subst e;exact(gn false).symm
  ·rw[h.g0]
 ·have hne:k≠b:=fun e=>by subst e;rw[gn true]at hk;cases hk
  show(if k=b then none else c.g true k)=some p
  rw[if_neg hne];exact h.g1 k p hk
 ·have hk':(if k=b then none else c.g true k)≠none:=hk
  split at hk'
  ·exact absurd rfl hk'
  ·exact h.new k hk'
 ·show upd c.h b o k≠none
  by_cases e:k=b
  ·subst e;rw[zb7];simp
  ·rw[Y7 _ _ e];exact h.dom k hk
 ·have hne:k≠b:=fun e=>by subst e;rw[hb]at hk;cases hk
  show upd c.h b o k=some p
  rw[Y7 _ _ hne];exact h.frm k p hk hn
theorem Lat.back{n0:Nat}{c d:Cfg}{b:Nat}{o o':Obj}(h:Lat n0 (c.put b o) d)(hb:c.h b=some o')(hg:∀w,c.g w b=none):Lat n0 c (d.put b o'):=by
 have pn:∀k,k≠b→(c.put b o).h k=c.h k:=fun k hk=>Y7 _ _ hk
 have pg:∀w k,k≠b→(c.put b o).g w k=c.g w k:=fun w k hk=>by show(if k=b then none else c.g w k)=_;rw[if_neg hk]
 refine⟨?_,fun k p hk=>?_,fun k hk=>?_,fun k hk=>?_,fun k p hk hn=>?_,fun i B k s h1 h2=>?_,h.nam,h.len⟩
 ·funext k
  show(if k=b then none else d.g false k)=c.g false k
  split
  ·rename_i e;subst e;exact(hg false).symm
  ·rename_i e;rw[h.g0];exact pg false k e
 ·have hne:k≠b:=fun e=>by subst e;rw[hg true]at hk;cases hk
  show(if k=b then none else d.g true k)=some p
  rw[if_neg hne];exact h.g1 k p (by rw[pg true k hne];exact hk)
 ·have hk':(if k=b then none else d.g true k)≠none:=hk
  split at hk'
  ·exact absurd rfl hk'
  ·rename_i e
   rcases h.new k hk' with h1|h1|h1
   ·rw[pg true k e]at h1;exact .inl h1
   ·rw[pn k e]at h1;exact .inr (.inl h1)
   ·exact .inr (.inr h1)
 ·show upd d.h b o' k≠none
  by_cases e:k=b
  ·subst e;rw[zb7];simp
  ·rw[Y7 _ _ e];exact h.dom k (by rw[pn k e];exact hk)
 ·show upd d.h b o' k=some p
  by_cases e:k=b
  ·subst e;rw[zb7];rw[hb]at hk;exact hk
  ·rw[Y7 _ _ e];exact h.frm k p (by rw[pn k e];exact hk) hn
 ·rcases h.own i B k s h1 h2 with h3|h3
  ·by_cases e:k=b
   ·subst e;have:upd c.h k o k=none:=h3;rw[zb7]at this;cases this
   ·rw[pn k e]at h3;exact .inl h3
  ·exact .inr h3
theorem Lat.hid{n0:Nat}{c d:Cfg}(hs:St c)(h:Lat n0 c d){b:Nat}{o:Obj}(hb:c.h b=some o)(ho:ncl (some o)):d.h b=some o :=
 h.frm b o hb fun i B s h1 h2=>by
  rcases hs.blk i B h1 with⟨h3,_⟩|⟨b',s',vs,z,t,h3,_,h5,_⟩
  ·rw[h3]at h2;cases h2
  ·rw[h3]at h2;cases h2;rw[hb]at h5;exact ho _ _ _ h5
theorem Lat.hidg{n0:Nat}{c d:Cfg}(hs:St c)(h:Lat n0 c d){b:Nat}{o:Obj}(hb:c.h b=some o)(ho:ncl (some o))(hg:∀w,c.g w b=none):∀w,d.g w b=none:=fun w=>by
 cases w with
 | false=>rw[h.g0];exact hg false
 | true =>
  cases hd:d.g true b with
  | none=>rfl
  | some p =>
   rcases h.new b (by rw[hd];simp)with h1|h1|⟨i,B,s,h0,h1,h2⟩
   ·exact absurd (hg true) h1
   ·rw[hb]at h1;cases h1
   ·rcases hs.blk i B h1 with⟨h3,_⟩|⟨b',s',vs,z,t,h3,_,h5,_⟩
    ·rw[h3]at h2;cases h2
    ·rw[h3]at h2;cases h2;rw[hb]at h5;exact absurd h5 (ho _ _ _)
section
variable {P:Program} {n0:Nat} {c1:Cfg}
def AWJ(P:Program)(n0:Nat)(c1:Cfg)(s:S)(Q:QA)(e:List A)(H:List Blk):Prop :=
 ∀(c:Cfg) (ev:List Value),c.H=H→n0≤H.length→St c→RL c.g c.σ e ev→Lat n0 c1 c→s.wp P (Lift n0 c Q) ev c.h
theorem AWJ.of{s:S}{Q:QA}{e:List A}{H:List Blk}(h:AWP P n0 s Q e H):AWJ P n0 c1 s Q e H:=fun c ev a1 a2 a3 a4 _=>h c ev a1 a2 a3 a4
theorem AWJ.chain{s:S}{Q:QA}{e:List A}{H:List Blk}(n:Nat)(h:AWP P n0 (S.pre n s) (fun x e H=>match x with | .nxt=>AWJ P n0 c1 (S.post n s) Q e H|x=>Q x e H) e H):AWJ P n0 c1 s Q e H:=by
 intro c ev hH hn hs he hJ
 refine z3f n s (S.wp_mono (S.pre n s) (fun x e' h' hq=>?_) (h c ev hH hn hs he))
 subst hH
 obtain⟨e2,d,rfl,h2,h3,h4,h5⟩:=hq
 cases x with
 | nxt=>exact S.wp_mono (S.post n s) (fun x e' h'' hq=>hq.up h3) (h2 d _ rfl (h3.len hn) h4 h5 (hJ.trans h3))
 | exit i=>exact⟨e2,d,rfl,h2,h3,h4,h5⟩
 | ret=>exact⟨e2,d,rfl,h2,h3,h4,h5⟩
theorem AWJ.cut{s:S}{Q:QA}{e e':List A}{H H':List Blk}(hc:Cut n0 e H e' H')(h:AWJ P n0 c1 s Q e' H'):AWJ P n0 c1 s Q e H:=by
 intro c ev hH hn hs he hJ
 obtain⟨d,h1,h2,h3,h4,h5⟩:=hc c ev hH hn hs he
 subst hH
 rw[← h2]
 exact S.wp_mono s (fun x e' h'' hq=>hq.up h3) (h d ev h1 (h1▸h3.len hn) h4 h5 (hJ.trans h3))
theorem AWJ.blk{id:Nat}{a:S}{Q:QA}{e:List A}{H:List Blk}(h:AWJ P n0 c1 a (fun x e H=>match x with | .exit i=>if i=id then Q .nxt e H else Q (.exit i) e H|x=>Q x e H) e H):AWJ P n0 c1 (.blk id a) Q e H:=by
 intro c ev hH hn hs he hJ
 refine S.wp_mono a (fun x e' h' hq=>?_) (h c ev hH hn hs he hJ)
 obtain⟨e2,d,rfl,h2,h3,h4,h5⟩:=hq
 cases x with
 | nxt=>exact⟨e2,d,rfl,h2,h3,h4,h5⟩
 | exit i =>
  dsimp only at h2 ⊢
  split
  ·rename_i hi;rw[if_pos hi]at h2;exact⟨e2,d,rfl,h2,h3,h4,h5⟩
  ·rename_i hi;rw[if_neg hi]at h2;exact⟨e2,d,rfl,h2,h3,h4,h5⟩
 | ret=>exact⟨e2,d,rfl,h2,h3,h4,h5⟩
theorem AWJ.mono{s:S}{Q Q':QA}{e:List A}{H:List Blk}(hq:∀x e H,Q x e H→Q' x e H)(h:AWJ P n0 c1 s Q e H):AWJ P n0 c1 s Q' e H:=fun c ev a1 a2 a3 a4 a5 =>
 S.wp_mono s (fun x e' h' ⟨e2,d,h1,h2,h3⟩=>⟨e2,d,h1,hq _ _ _ h2,h3⟩) (h c ev a1 a2 a3 a4 a5)
theorem AWJ.loop {s : S} {Q : QA} {e : List A} {H : List Blk} {α : Type} (I : α → Prop) (env : α → List A) (mem : α → List Blk) (m : α → Nat) (a0 : α) (h0 : I a0) (hc : Cut n0 e H (env a0) (mem a0))
    (round:∀a,I a→AWJ P n0 c1 s (lgA n0 I env mem m (m a) Q) (env a) (mem a)):AWJ P n0 c1 (.loop s) Q e H:=by
  have key:∀(n:Nat) (a:α) (c:Cfg) (ev:List Value),m a<n→I a→c.H=mem a→n0≤c.H.length→St c→RL c.g c.σ (env a) ev→Lat n0 c1 c→z25 (fun Q e h=>s.wp P Q e h) (Lift n0 c Q) n ev c.h:=by
    intro n
    induction n with
    | zero=>intro a c ev hn;omega
    | succ n ih =>
      intro a c ev hn hI hH hl hs he hJ
      refine S.wp_mono s (fun x e' h' hq=>?_) (round a hI c ev hH (hH▸hl) hs he hJ)
      obtain⟨e2,d,rfl,h2,h3,h4,h5⟩:=hq
      cases x with
      | nxt =>
        obtain⟨a',k1,k2,k3⟩:=h2
        obtain⟨d',q1,q2,q3,q4,q5⟩:=k3 d _ rfl (h3.len hl) h4 h5
        have h6:=h3.trans q3
        rw[← q2]
        exact zz1 (F:=fun Q e h=>s.wp P Q e h) (fun _ _ hQ _ _ hw=>S.wp_mono s hQ hw) (fun x e h hq=>hq.up h6) n _ _ (ih a' d' _ (by omega) k1 q1 (h6.len hl) q4 q5 (hJ.trans h6))
      | exit i=>exact⟨e2,d,rfl,h2,h3,h4,h5⟩
      | ret=>exact⟨e2,d,rfl,h2,h3,h4,h5⟩
  intro c ev hH hn hs he hJ
  obtain⟨d,h1,h2,h3,h4,h5⟩:=hc c ev hH hn hs he
  refine⟨m a0+1,?_⟩
  rw[← h2]
  subst hH
  exact zz1 (F:=fun Q e h=>s.wp P Q e h) (fun _ _ hQ _ _ hw=>S.wp_mono s hQ hw) (fun x e h hq=>hq.up h3) _ _ _ (key _ a0 d ev (by omega) h0 h1 (h3.len hn) h4 h5 (hJ.trans h3))
def YR(P:Program)(n0:Nat)(c1:Cfg)(l:Nat)(args:List A)(H:List Blk)(R:A→List Blk→Prop):Prop :=
 ∀(c:Cfg) (vs:List Value),c.H=H→n0≤H.length→St c→RL c.g c.σ args vs→Lat n0 c1 c →
  RunsY P l vs c.h fun v h'=>∃(r:A) (d:Cfg),d.h=h'∧R r d.H∧Lat H.length c d∧St d∧Rel d.g d.σ r v
theorem YR.mono{l:Nat}{args:List A}{H:List Blk}{R R':A→List Blk→Prop}(h:YR P n0 c1 l args H R)(hr:∀r H',R r H'→R' r H'):YR P n0 c1 l args H R' :=
 fun c vs a1 a2 a3 a4 a5=>(h c vs a1 a2 a3 a4 a5).mono fun v h' ⟨r,d,h5,h6,h7⟩=>⟨r,d,h5,hr _ _ h6,h7⟩
theorem AWJ.yield {l : Nat} {d : Option Nat} {f as : X} {k : S} {Q : QA} {e args : List A} {H : List Blk} (hf : f.av e H = some (.v (yv l))) (ha : as.avs e H = some args)
    (h:YR P n0 c1 l args H fun a H'=>AWJ P n0 c1 k Q (putA e d a) H'):AWJ P n0 c1 (.callv false d f as k) Q e H:=by
  intro c ev hH hn hs he hJ
  subst hH
  obtain⟨fv,e1,e2⟩:=za8 hs he hf
  obtain⟨vs,h3,h4⟩:=z79 hs he ha
  cases e2
  refine⟨_,vs,e1,h3,.inr ⟨l,rfl,(h c vs rfl hn hs h4 hJ).mono ?_⟩⟩
  rintro v h' ⟨r,c',rfl,h5,h6,h7,h8⟩
  obtain⟨n1,n2⟩:=Lat.names hs h6
  have h9:=h6.lower hn rfl
  exact⟨fun h=>(by cases h),S.wp_mono k (fun x e' h'' hq=>hq.up h9) (h5 c' _ rfl (h9.len hn) h7 ((he.mono n1 n2).put d h8) (hJ.trans h9))⟩
def IterR(P:Program)(it:Nat)(c1:Cfg)(l:Nat)(caps:List A)(R:List Blk→Prop):Prop :=
 ∀(vs:List Value),RL c1.g c1.σ caps vs→Runs P it (yv l :: vs) c1.h fun v h'=>∃d:Cfg,d.h=h'∧R d.H∧Lat c1.H.length c1 d∧St d
theorem IterR.of {it nt : Nat} {F : Fun} {V : List Nat} (hrun : ∀ {vs : List Value} (_ : vs.length ≤ nt) {h : Heap} {R : Value → Heap → Prop} (_ : F.body.wp P (F.post R) (env0 V vs) h), Runs P it vs h R)
    {l:Nat} {caps:List A} {H:List Blk} {R:List Blk→Prop} (hs:St c1) (hH:c1.H=H) (hlen:caps.length+1≤nt)
    (hw:AWJ P H.length c1 F.body (z8b H.length F fun _ H'=>R H') (envA V (.v (yv l) :: caps)) H):IterR P it c1 l caps R:=by
  intro vs ha
  subst hH
  have ha':RL c1.g c1.σ (.v (yv l) :: caps) (yv l :: vs):=RL.cons (.v _) ha
  have henv:RL c1.g c1.σ (envA V (.v (yv l) :: caps)) (env0 V (yv l :: vs)):=⟨by simp [envA,env0],fun i a x h1 h2=>by
    simp only[envA,env0,List.getElem?_map,Option.map_eq_some_iff]at h1 h2
    obtain⟨t,e1,rfl⟩:=h1
    obtain⟨t',e2,rfl⟩:=h2
    rw[e1]at e2;cases e2
    exact ha'.getD t⟩
  refine hrun (by rw[List.length_cons,← ha.1];exact hlen) (S.wp_mono F.body ?_ (hw c1 _ rfl (Nat.le_refl _) hs henv (Lat.refl _ _)))
  rintro x ev h' ⟨e',d,rfl,h2,h3,h4,h5⟩
  have key : (bw (resA e' d.H F.res) fun l => ∃ r H', Cut c1.H.length [retA l] d.H [r] H' ∧ R H') →
      ∃l,resV ev d.h F.res=some l∧∃d':Cfg,d'.h=d.h∧R d'.H∧Lat c1.H.length c1 d'∧St d':=by
    rintro⟨l,k1,r,H',k2,k3⟩
    obtain⟨ls,k4,k5⟩:=z1b h4 h5 _ _ k1
    obtain⟨d',q1,q2,q3,q4,q5⟩:=k2 d _ rfl (h3.len (Nat.le_refl _)) h4 (RL.cons (z5k k5) RL.nil)
    exact⟨ls,k4,d',q2,q1▸k3,h3.trans q3,q4⟩
  cases x with
  | nxt=>obtain⟨l,k1,k2⟩:=key h2;exact⟨l,k1,k2⟩
  | ret=>obtain⟨l,k1,k2⟩:=key h2;exact⟨l,k1,k2⟩
  | exit i=>exact h2.elim
theorem YR.of {nk : Bool} {V : List Nat} {m k : Nat} (hm : P.follows .mixedOrders = true) (hV : zC2 V = true) {c0 : Cfg} {l r : Nat} {fn : FuncId} {ts : Array Value} {p : Tmp} {asg body : Code} {As B : S} (hA : comp P m V nk asg = some As) (hnA : ndC asg = true)
    (hB:comp P m V nk body=some B) (hnB:ndC body=true) (hts:ts.size=m) (hp:p<m) (hk:pos V p=some k) (hs1:St c1) (hl1:c1.h l=some (.loop (recY fn ts #[p] asg body r))) (hg1:∀w,c1.g w l=none)
    {e0:List A} (he0:RL c1.g c1.σ e0 (x4 V {tmps:=ts,defers:=[]})) {xa:A} {H:List Blk} {R:A→List Blk→Prop}
    (hw:AWP P H.length As.opt (fun x e H1=>x=.nxt∧AWP P H.length B.opt (fun x e2 H2=>x=.nxt∧R (.v (.bool true)) H2) e H1) (e0.set k xa) H):YR P c1.H.length c1 l [xa] H R:=by
  intro c vs hH hn hs ha hJ
  subst hH
  obtain⟨v,xs,rfl,hv,hx⟩:=ha.uncons
  rw[hx.nil_inv]
  have ncr:ncl (some (Obj.loop (recY fn ts #[p] asg body r))):=fun cs t f h=>by cases h
  have ncb:ncl (some (Obj.loop (recB fn ts #[p] asg body r))):=fun cs t f h=>by cases h
  have hl:=hJ.hid hs1 hl1 ncr
  have hg:=hJ.hidg hs1 hl1 ncr hg1
  obtain⟨n1,n2⟩:=Lat.names hs1 hJ
  have henv:RL c.g c.σ (e0.set k xa) (x4 V {tmps:=ts.setIfInBounds p v,defers:=[]}):=by
    have e1:({tmps:=ts.setIfInBounds p v,defers:=[]}:Act)=Act.put {tmps:=ts,defers:=[]} (some p) v:=rfl
    rw[e1,zg5 hV (by simpa [hts]using hp) hk]
    exact(he0.mono n1 n2).set k hv
  refine y52 hm hV hA hnA hB hnB hts hl (zi8 As (S.wp_mono As.opt ?_ (hw c _ rfl (Nat.le_refl _) hs henv)))
  rintro x ev h' ⟨e2,c2,rfl,⟨hx,h2⟩,h3,h4,h5⟩
  have hl2:=h3.hid hs hl ncr
  have hg2:=h3.hidg hs hl ncr hg
  refine⟨hx,hl2,?_⟩
  have nc2:ncl (c2.h l):=by rw[hl2];exact ncr
  have s3:St (c2.put l (.loop (recB fn ts #[p] asg body r))):=h4.put nc2
  have r3:RL (c2.put l (.loop (recB fn ts #[p] asg body r))).g c2.σ e2 ev:=h5.same (z1d h4 nc2)
  refine zi8 B (S.wp_mono B.opt ?_ (h2 (c2.put l (.loop (recB fn ts #[p] asg body r))) ev rfl (h3.len (Nat.le_refl _)) s3 r3))
  rintro y ev' h'' ⟨e4,d,rfl,⟨hy,h6⟩,h7,h8,h9⟩
  have hl3:(c2.put l (.loop (recB fn ts #[p] asg body r))).h l=some (.loop (recB fn ts #[p] asg body r)):=zb7 _ _ _
  have hld:=h7.hid s3 hl3 ncb
  have ncd:ncl (d.h l):=by rw[hld];exact ncb
  exact⟨hy,hld,.v (.bool true),d.put l (.loop (recY fn ts #[p] asg body r)),rfl,h6,h3.trans (h7.back hl2 hg2),h8.put ncd,.v _⟩
theorem VR.ofR {kp : Bool} {f : Nat} {fn : Func} {V : List Nat} {rx : RX} {r : List X} {k : Nat} (hm : P.follows .mixedOrders = true) (hf : P.funcs[f]? = some fn) (hc : yy2 P fn V = some (rx, r)) (hV : zC2 V = true)
    (hA:comp P fn.ntmps V false rx.asg=some rx.as) (hnA:ndC rx.asg=true) (hB:comp P fn.ntmps V false rx.body=some rx.b) (hnB:ndC rx.body=true) (hp:rx.p<fn.ntmps) (hk:pos V rx.p=some k)
    {args:List A} {H:List Blk} {R:A→List Blk→Prop} (hlen:args.length≤fn.ntmps) (hkp:kp=false∨H=[])
    (hw:AWP P H.length rx.a (fun x e H'=>match x with
      | .exit _=>False
      | .ret=>z8b H.length ⟨.nxt,r⟩ R .ret e H'
      | .nxt => ∃ it caps, rx.g.av e H' = some (.fn it caps) ∧ zs0 P it = true ∧ ∀ (c1 : Cfg) (l : Nat), c1.H = H' → St c1 →
          (∀(xa:A) (K:List Blk) (R':A→List Blk→Prop),AWP P K.length rx.as.opt (fun x e H1=>x=.nxt∧AWP P K.length rx.b.opt (fun x e2 H2=>x=.nxt∧R' (.v (.bool true)) H2) e H1) (e.set k xa) K→YR P H'.length c1 l [xa] K R') →
          IterR P it c1 l caps fun H3=>AWP P H.length rx.c (z8b H.length ⟨.nxt,r⟩ R) e H3) (envA V args) H):VR P kp f args H R:=by
  intro c vs hH hs ha
  subst hH
  have henv:RL c.g c.σ (envA V args) (env0 V vs):=⟨by simp [envA,env0],fun i a x h1 h2=>by
    simp only[envA,env0,List.getElem?_map,Option.map_eq_some_iff]at h1 h2
    obtain⟨t,e1,rfl⟩:=h1
    obtain⟨t',e2,rfl⟩:=h2
    rw[e1]at e2;cases e2
    exact ha.getD t⟩
  refine xq0 hm hf hc (by rw[← ha.1];exact hlen) (S.wp_mono rx.a ?_ (hw c _ rfl (Nat.le_refl _) hs henv))
  rintro x ev h' ⟨e',c0,rfl,h2,h3,h4,h5⟩
  have key : ∀ (e' : List A) (ev : List Value) (d : Cfg), Lat c.H.length c d → St d → RL d.g d.σ e' ev → (bw (resA e' d.H r) fun l => ∃ r H', Cut c.H.length [retA l] d.H [r] H' ∧ R r H') →
      ∃l,resV ev d.h r=some l∧((kp=true→Ext c.h d.h)∧∃(r:A) (d':Cfg),d'.h=d.h∧R r d'.H∧Lat c.H.length c d'∧St d'∧Rel d'.g d'.σ r (zT8 l)):=by
    rintro e' ev d h3 h4 h5 ⟨l,k1,r,H',k2,k3⟩
    obtain⟨ls,k4,k5⟩:=z1b h4 h5 _ _ k1
    obtain⟨d',q1,q2,q3,q4,q5⟩:=k2 d _ rfl (h3.len (Nat.le_refl _)) h4 (RL.cons (z5k k5) RL.nil)
    refine⟨ls,k4,fun hk2=>?_,r,d',q2,q1▸k3,h3.trans q3,q4,?_⟩
    · rcases hkp with hk|hk
      · rw[hk]at hk2;cases hk2
      · exact fun b o hb=>h3.frm b o hb fun i B s h1=>by rw[hk]at h1;simp at h1
    · obtain⟨x,xs,e1,e2,_⟩:=q5.uncons
      injection e1 with e1 _;rw[e1];exact e2
  cases x with
  | exit i=>exact h2.elim
  | ret=>obtain⟨l,k1,k2⟩:=key e' ev c0 h3 h4 h5 h2;exact⟨l,k1,k2⟩
  | nxt =>
    obtain⟨it,caps,g1,g2,g3⟩:=h2
    obtain⟨gv,g4,g5⟩:=za8 h4 h5 g1
    cases g5 with
    | fn it caps cvs k1 k2 =>
      refine⟨it,cvs.toArray,g4,g2,fun r0 l fi ts hr hl hrl hts hev=>?_⟩
      have n0r:ncl (c0.h r0):=fun cs t f h=>by rw[hr]at h;cases h
      let cr:=c0.put r0 (.deferred (some []))
      have sr:St cr:=h4.put n0r
      have hlr:cr.h l=none:=by show upd c0.h r0 _ l=none;rw[Y7 _ _ (Ne.symm hrl)];exact hl
      have n0l:ncl (cr.h l):=fun cs t f h=>by rw[hlr]at h;cases h
      let c1:=cr.put l (.loop (recY fi ts #[rx.p] rx.asg rx.body r0))
      have s1:St c1:=sr.put n0l
      have up:∀{a:List A} {x:List Value},RL c0.g c0.σ a x→RL c1.g c1.σ a x:=fun h=>(h.same (z1d h4 n0r)).same (z1d sr n0l)
      have hl1:c1.h l=some (.loop (recY fi ts #[rx.p] rx.asg rx.body r0)):=zb7 _ _ _
      have hr1:c1.h r0=some (.deferred (some [])):=by show upd cr.h l _ r0=_;rw[Y7 _ _ hrl];exact zb7 _ _ _
      have hg1:∀w,c1.g w l=none:=fun w=>by show(if l=l then none else cr.g w l)=none;rw[if_pos rfl]
      have ncr:ncl (some (Obj.loop (recY fi ts #[rx.p] rx.asg rx.body r0))):=fun cs t f h=>by cases h
      have ncd:ncl (some (Obj.deferred (some []))):=fun cs t f h=>by cases h
      have he1:RL c1.g c1.σ e' (x4 V {tmps:=ts,defers:=[]}):=by rw[hev];exact up h5
      have hfree:∀b,c0.h b=none→c.h b=none:=fun b hb=>by
        cases hc:c.h b with
        | none=>rfl
        | some o=>exact absurd hb (h3.dom b (by rw[hc];simp))
      have lr:Lat c.H.length c cr:=h3.put hs (hfree _ hr)
      have l1:Lat c.H.length c c1:=lr.put hs (hfree _ hl)
      have hit:=g3 c1 l rfl s1 (fun xa K R' hb=>YR.of (c0:=c0) hm hV hA hnA hB hnB hts hp hk s1 hl1 hg1 he1 hb)
      refine(hit cvs (up ⟨k1,k2⟩)).mono ?_
      rintro v h3' ⟨d,rfl,hC,ld,sd⟩
      have hld:=ld.hid s1 hl1 ncr
      refine⟨hld,?_⟩
      have hrd:=ld.hid s1 hr1 ncd
      have ncld:ncl (d.h l):=by rw[hld];exact ncr
      have lcd:Lat c.H.length c d:=l1.trans (ld.lower (l1.len (Nat.le_refl _)) rfl)
      let c4:=d.put l (.loop (recX fi ts #[rx.p] rx.asg rx.body r0))
      have s4:St c4:=sd.put ncld
      have l4:Lat c.H.length c c4:=lcd.put hs (hfree _ hl)
      obtain⟨m1,m2⟩:=Lat.names s1 ld
      have e4:RL c4.g c4.σ e' ev:=by rw[hev]at he1;exact(he1.mono m1 m2).same (z1d sd ncld)
      have hr4:c4.h r0=some (.deferred (some [])):=by show upd d.h l _ r0=_;rw[Y7 _ _ hrl];exact hrd
      refine S.wp_mono rx.c ?_ (hC c4 _ rfl (l4.len (Nat.le_refl _)) s4 e4)
      rintro y ev' h'' ⟨e5,d5,rfl,q1,q2,q3,q4⟩
      have hr5:=q2.hid s4 hr4 ncd
      have ncd5:ncl (d5.h r0):=by rw[hr5];exact ncd
      have l5:Lat c.H.length c d5:=l4.trans q2
      have l6:Lat c.H.length c (d5.put r0 (.deferred none)):=l5.put hs (hfree _ hr)
      have s6:St (d5.put r0 (.deferred none)):=q3.put ncd5
      have e6:RL (d5.put r0 (.deferred none)).g (d5.put r0 (.deferred none)).σ e5 ev':=q4.same (z1d q3 ncd5)
      cases y with
      | exit i=>exact q1.elim
      | nxt=>obtain⟨l,k1,k2⟩:=key e5 ev' _ l6 s6 e6 q1;exact⟨.inl rfl,hr5,l,k1,k2⟩
      | ret=>obtain⟨l,k1,k2⟩:=key e5 ev' _ l6 s6 e6 q1;exact⟨.inr rfl,hr5,l,k1,k2⟩
theorem AWP.monoQ{s:S}{Q Q':QA}{e:List A}{H:List Blk}(hq:∀x e H,Q x e H→Q' x e H)(h:AWP P n0 s Q e H):AWP P n0 s Q' e H :=
 fun c ev h1 h2 h3 h4=>S.wp_mono s (fun x e' h' ⟨e2,d,k1,k2,k3⟩=>⟨e2,d,k1,hq _ _ _ k2,k3⟩) (h c ev h1 h2 h3 h4)
def xq1(P:Program)(n0:Nat)(as b c:S)(g:X)(k:Nat)(r:List X)(R:A→List Blk→Prop):QA:=fun x e H'=>match x with
  | .exit _=>False
  | .ret=>z8b n0 ⟨.nxt,r⟩ R .ret e H'
  | .nxt => ∃ it caps, g.av e H' = some (.fn it caps) ∧ zs0 P it = true ∧ ∀ (c1 : Cfg) (l : Nat), c1.H = H' → St c1 →
      (∀(xa:A) (K:List Blk) (R':A→List Blk→Prop),AWP P K.length as (fun x e H1=>x=.nxt∧AWP P K.length b (fun x e2 H2=>x=.nxt∧R' (.v (.bool true)) H2) e H1) (e.set k xa) K→YR P H'.length c1 l [xa] K R') →
      IterR P it c1 l caps fun H3=>AWP P n0 c (z8b n0 ⟨.nxt,r⟩ R) e H3
def VRofR(P:Program)(f:Nat)(a as b c:S)(g:X)(k:Nat)(r:List X)(V:List Nat)(nt:Nat):Prop :=
 ∀⦃kp:Bool⦄ ⦃args:List A⦄ ⦃H:List Blk⦄ ⦃R:A→List Blk→Prop⦄,args.length≤nt→(kp=false∨H=[])→AWP P H.length a (xq1 P H.length as b c g k r R) (envA V args) H→VR P kp f args H R
theorem z8j{m:Nat}{V:List Nat}:∀(c:Code) (rx:RX),y0W P m V c=some rx→comp P m V false rx.asg=some rx.as∧ndC rx.asg=true∧comp P m V false rx.body=some rx.b∧ndC rx.body=true∧rx.p<m
 | .seq c1 c2,rx,hc=>by
  unfold y0W at hc
  split at hc
  ·split at hc
   ·split at hc
    case isFalse=>cases hc
    rename_i hcond
    obtain⟨n1,n2,n3⟩:=hcond
    simp only[Option.bind_eq_some_iff]at hc
    obtain⟨sa,hA,gx,hgx,as,has,b,hb,hc⟩:=hc
    obtain⟨sc,hC,rfl⟩:=Option.map_eq_some_iff.1 hc
    exact⟨has,n1,hb,n2,n3⟩
   ·cases hc
  ·simp only[Option.bind_eq_some_iff]at hc
   obtain⟨sa,hA,hc⟩:=hc
   obtain⟨rx',hR,rfl⟩:=Option.map_eq_some_iff.1 hc
   exact z8j c2 rx' hR
 | .skip,rx,hc=>by cases hc
 | .region ..,rx,hc=>by cases hc
 | .cond ..,rx,hc=>by cases hc
 | .block ..,rx,hc=>by cases hc
 | .loop ..,rx,hc=>by cases hc
 | .rangeFunc ..,rx,hc=>by cases hc
 | .exit ..,rx,hc=>by cases hc
 | .scope ..,rx,hc=>by cases hc
 | .label ..,rx,hc=>by cases hc
 | .goto ..,rx,hc=>by cases hc
 | .ret,rx,hc=>by cases hc
 | .refuse ..,rx,hc=>by cases hc
theorem VRofR.of {f nt k : Nat} {fn : Func} {V : List Nat} {a as b c : S} {g : X} {r : List X} (hm : P.follows .mixedOrders = true) (hf : P.funcs[f]? = some fn)
    (hc:(yy2 P fn V).map (fun z=>((z.1.a,z.1.g,z.1.as.opt),(z.1.b.opt,z.1.c,z.2),pos V z.1.p))=some ((a,g,as),(b,c,r),some k)) (hn:fn.ntmps=nt):VRofR P f a as b c g k r V nt:=by
  intro kp args H R hlen hk hw
  obtain⟨⟨rx,r'⟩,h1,h2⟩:=Option.map_eq_some_iff.1 hc
  simp only[Prod.mk.injEq]at h2
  obtain⟨⟨rfl,rfl,rfl⟩,⟨rfl,rfl,rfl⟩,hp⟩:=h2
  have h3:=h1
  unfold yy2 at h3
  split at h3
  case isFalse=>cases h3
  rename_i hV
  simp only[Bool.and_eq_true]at hV
  simp only[Option.bind_eq_some_iff]at h3
  obtain⟨cd,hb,rx',hcs,h4⟩:=h3
  obtain⟨r2,hr,he⟩:=Option.map_eq_some_iff.1 h4
  cases he
  obtain⟨p1,p2,p3,p4,p5⟩:=z8j cd rx hcs
  refine VR.ofR hm hf h1 hV.1 p1 p2 p3 p4 p5 hp (by rw[hn];exact hlen) hk (AWP.monoQ ?_ hw)
  intro x e H' hq
  cases x with
  | nxt=>exact hq
  | ret=>exact hq
  | exit i=>exact hq
end
end Go.Lft
