/- Lemmas and walks that the proof of SetpointBests uses. No statement is claimed here. -/
import Derived.Test.YtcppaddgclkekaaGreatSetpointBestsZaf
namespace Go.Lft
open Go
set_option linter.unusedSimpArgs false
set_option linter.unusedVariables false
def putA(e:List A)(d:Option Nat)(a:A):List A :=
 match d with
 | some i=>e.set i a
 | none=>e
abbrev QA:=Ex→List A→List Blk→Prop
def Lift(n0:Nat)(c:Cfg)(Q:QA):Ex→List Value→Heap→Prop :=
 fun x ev' h'=>∃(e':List A) (d:Cfg),d.h=h'∧Q x e' d.H∧Lat n0 c d∧St d∧RL d.g d.σ e' ev'
theorem Lift.up{n0:Nat}{c d:Cfg}{Q:QA}(hl:Lat n0 c d){x:Ex}{ev:List Value}{h:Heap}:Lift n0 d Q x ev h→Lift n0 c Q x ev h :=
 fun⟨e,d',h1,h2,h3,h4,h5⟩=>⟨e,d',h1,h2,hl.trans h3,h4,h5⟩
def AWP(P:Program)(n0:Nat)(s:S)(Q:QA)(e:List A)(H:List Blk):Prop :=
 ∀(c:Cfg) (ev:List Value),c.H=H→n0≤H.length→St c→RL c.g c.σ e ev→s.wp P (Lift n0 c Q) ev c.h
def VR(P:Program)(kp:Bool)(f:Nat)(args:List A)(H:List Blk)(R:A→List Blk→Prop):Prop :=
 ∀(c:Cfg) (vs:List Value),c.H=H→St c→RL c.g c.σ args vs →
  Runs P f vs c.h fun v h'=>(kp=true→Ext c.h h')∧∃(r:A) (d:Cfg),d.h=h'∧R r d.H∧Lat H.length c d∧St d∧Rel d.g d.σ r v
theorem VR.mono{P:Program}{kp:Bool}{f:Nat}{args:List A}{H:List Blk}{R R':A→List Blk→Prop}(h:VR P kp f args H R)(hr:∀r H',R r H'→R' r H'):VR P kp f args H R' :=
 fun c vs h1 h2 h3=>(h c vs h1 h2 h3).mono fun v h' ⟨h4,r,d,h5,h6,h7⟩=>⟨h4,r,d,h5,hr _ _ h6,h7⟩
def S.aw(P:Program)(n0:Nat):S→QA→List A→List Blk→Prop
 | .nxt,Q,e,H=>Q .nxt e H
 | .set i x k,Q,e,H=>bw (x.av e H) fun a=>k.aw P n0 Q (e.set i a) H
 | .chk x k,Q,e,H=>bw (x.av e H) fun _=>k.aw P n0 Q e H
 | .eff kp d f k,Q,e,H=>f.aw kp e H fun a H'=>k.aw P n0 Q (putA e d a) H'
 | .call kp d f as k,Q,e,H=>bw (as.avs e H) fun l=>VR P kp f l H fun a H'=>AWP P n0 k Q (putA e d a) H'
 | .callv kp d f as k,Q,e,H=>bw (f.av e H) fun fa=>bw (as.avs e H) fun l=>∃g caps,fa=.fn g caps∧zs0 P g=true∧VR P kp g (l++caps) H fun a H'=>AWP P n0 k Q (putA e d a) H'
 | .ite c a b,Q,e,H=>∃t,c.av e H=some (.v (.bool t))∧(match t with|true=>a.aw P n0 Q e H|false=>b.aw P n0 Q e H)
 | .both a b,Q,e,H=>a.aw P n0 Q e H∧b.aw P n0 Q e H
 | .seq a b,Q,e,H=>a.aw P n0 (fun x e H=>match x with | .nxt=>b.aw P n0 Q e H|x=>Q x e H) e H
 | .blk id a,Q,e,H=>a.aw P n0 (fun x e H=>match x with | .exit i=>if i=id then Q .nxt e H else Q (.exit i) e H|x=>Q x e H) e H
 | .loop a,Q,e,H=>AWP P n0 (.loop a) Q e H
 | .exit id,Q,e,H=>Q (.exit id) e H
 | .ret,Q,e,H=>Q .ret e H
 | .stop,_,_,_=>False
theorem RL.put{g:Bool→Heap}{σ:Nam}{e:List A}{ev:List Value}(he:RL g σ e ev)(d:Option Nat){a:A}{v:Value}(ha:Rel g σ a v):RL g σ (putA e d a) (put ev d v):=by
 cases d with
 | none=>exact he
 | some i=>exact he.set i ha
theorem Lat.names{c d:Cfg}(hs:St c)(hl:Lat c.H.length c d):(∀w,Ext (c.g w) (d.g w))∧∀i ver p,c.σ i ver=some p→d.σ i ver=some p :=
 ⟨fun w=>by cases w with
  | false=>rw[hl.g0];exact Ext.refl _
  | true=>exact hl.g1,fun i ver p hp=>hl.nam i ver p (by obtain⟨B,h1,_⟩:=hs.nam i ver p hp;exact(List.getElem?_eq_some_iff.1 h1).1) hp⟩
theorem aw_sound{P:Program}{n0:Nat}:∀{s:S} {Q:QA} {e:List A} {H:List Blk},s.aw P n0 Q e H→AWP P n0 s Q e H:=by
 intro s
 induction s with
 | nxt=>intro Q e H h c ev hH hn hs he;subst hH;exact⟨e,c,rfl,h,Lat.refl _ _,hs,he⟩
 | set i x k ih =>
  intro Q e H h c ev hH hn hs he;subst hH
  obtain⟨a,h1,h2⟩:=h
  obtain⟨v,h3,h4⟩:=za8 hs he h1
  exact⟨v,h3,ih h2 c _ rfl hn hs (he.set i h4)⟩
 | chk x k ih =>
  intro Q e H h c ev hH hn hs he;subst hH
  obtain⟨a,h1,h2⟩:=h
  obtain⟨v,h3,h4⟩:=za8 hs he h1
  exact⟨v,h3,ih h2 c _ rfl hn hs he⟩
 | eff kp d f k ih =>
  intro Q e H h c ev hH hn hs he;subst hH
  refine E.ok_mono ?_ (E.aw_sound n0 hs he h)
  rintro v h' ⟨hk,r,c',rfl,h2,h3,h4,h5,h6⟩
  exact⟨hk,S.wp_mono k (fun x e' h'' hq=>hq.up h3) (ih h2 c' _ rfl (h3.len hn) h4 (h6.put d h5))⟩
 | call kp d f as k ih =>
  intro Q e H h c ev hH hn hs he;subst hH
  obtain⟨l,h1,h2⟩:=h
  obtain⟨vs,h3,h4⟩:=z79 hs he h1
  refine⟨vs,h3,(h2 c vs rfl hs h4).mono ?_⟩
  rintro v h' ⟨hk,r,c',rfl,h5,h6,h7,h8⟩
  obtain⟨n1,n2⟩:=Lat.names hs h6
  have h9:=h6.lower hn rfl
  exact⟨hk,S.wp_mono k (fun x e' h'' hq=>hq.up h9) (h5 c' _ rfl (h9.len hn) h7 ((he.mono n1 n2).put d h8))⟩
 | callv kp d f as k ih =>
  intro Q e H h c ev hH hn hs he;subst hH
  obtain⟨fa,h0,l,h1,g,caps,rfl,hb,h2⟩:=h
  obtain⟨fv,e1,e2⟩:=za8 hs he h0
  obtain⟨vs,h3,h4⟩:=z79 hs he h1
  cases e2 with
  | fn g caps cvs k1 k2 =>
   refine⟨_,vs,e1,h3,.inl ⟨g,cvs.toArray,rfl,hb,(h2 c (vs++cvs) rfl hs (h4.app ⟨k1,k2⟩)).mono ?_⟩⟩
   rintro v h' ⟨hk,r,c',rfl,h5,h6,h7,h8⟩
   obtain⟨n1,n2⟩:=Lat.names hs h6
   have h9:=h6.lower hn rfl
   exact⟨hk,S.wp_mono k (fun x e' h'' hq=>hq.up h9) (h5 c' _ rfl (h9.len hn) h7 ((he.mono n1 n2).put d h8))⟩
 | ite q a b iha ihb =>
  intro Q e H h c ev hH hn hs he;subst hH
  obtain⟨t,h1,h2⟩:=h
  obtain⟨v,h3,h4⟩:=za8 hs he h1
  cases h4
  refine⟨t,h3,fun ht=>?_,fun ht=>?_⟩<;>subst ht
  ·exact iha h2 c ev rfl hn hs he
  ·exact ihb h2 c ev rfl hn hs he
 | both a b iha ihb =>
  intro Q e H h c ev hH hn hs he;subst hH
  exact⟨iha h.1 c ev rfl hn hs he,ihb h.2 c ev rfl hn hs he⟩
 | seq a b iha ihb =>
  intro Q e H h c ev hH hn hs he;subst hH
  refine S.wp_mono a (fun x e' h' hq=>?_) (iha h c ev rfl hn hs he)
  obtain⟨e2,d,rfl,h2,h3,h4,h5⟩:=hq
  cases x with
  | nxt=>exact S.wp_mono b (fun x e' h'' hq=>hq.up h3) (ihb h2 d _ rfl (h3.len hn) h4 h5)
  | exit i=>exact⟨e2,d,rfl,h2,h3,h4,h5⟩
  | ret=>exact⟨e2,d,rfl,h2,h3,h4,h5⟩
 | blk id a iha =>
  intro Q e H h c ev hH hn hs he;subst hH
  refine S.wp_mono a (fun x e' h' hq=>?_) (iha h c ev rfl hn hs he)
  obtain⟨e2,d,rfl,h2,h3,h4,h5⟩:=hq
  cases x with
  | nxt=>exact⟨e2,d,rfl,h2,h3,h4,h5⟩
  | exit i =>
   dsimp only at h2 ⊢
   split
   ·rename_i hi;rw[if_pos hi]at h2;exact⟨e2,d,rfl,h2,h3,h4,h5⟩
   ·rename_i hi;rw[if_neg hi]at h2;exact⟨e2,d,rfl,h2,h3,h4,h5⟩
  | ret=>exact⟨e2,d,rfl,h2,h3,h4,h5⟩
 | loop a ih=>intro Q e H h;exact h
 | exit id=>intro Q e H h c ev hH hn hs he;subst hH;exact⟨e,c,rfl,h,Lat.refl _ _,hs,he⟩
 | ret=>intro Q e H h c ev hH hn hs he;subst hH;exact⟨e,c,rfl,h,Lat.refl _ _,hs,he⟩
 | stop=>intro Q e H h;exact h.elim
def Cut(n0:Nat)(e:List A)(H:List Blk)(e':List A)(H':List Blk):Prop :=
 ∀(c:Cfg) (ev:List Value),c.H=H→n0≤H.length→St c→RL c.g c.σ e ev→∃d:Cfg,d.H=H'∧d.h=c.h∧Lat n0 c d∧St d∧RL d.g d.σ e' ev
theorem AWP.cut{P:Program}{n0:Nat}{s:S}{Q:QA}{e e':List A}{H H':List Blk}(hc:Cut n0 e H e' H')(h:AWP P n0 s Q e' H'):AWP P n0 s Q e H:=by
 intro c ev hH hn hs he
 obtain⟨d,h1,h2,h3,h4,h5⟩:=hc c ev hH hn hs he
 subst hH
 rw[← h2]
 exact S.wp_mono s (fun x e' h'' hq=>hq.up h3) (h d ev h1 (h1▸h3.len hn) h4 h5)
mutual
def A.bd(n:Nat):A→Bool
 | .any=>true
 | .v _=>true
 | .agg l=>A.bdL n l
 | .tup l=>A.bdL n l
 | .fn _ l=>A.bdL n l
 | .fs _ l=>A.bdL n l
 | .fp _ l=>A.bdL n l
 | .sl i _ _ _ _=>decide (i<n)
 | .lp i _ _=>decide (i<n)
 | .vs i _ _ _=>decide (i<n)
def A.bdL(n:Nat):List A→Bool
 | []=>true
 | a :: l=>a.bd n && A.bdL n l
end
theorem zP0{n:Nat}:∀{l:List A},A.bdL n l=true↔∀a∈l,a.bd n=true
 | []=>by simp [A.bdL]
 | a :: l=>by simp [A.bdL,zP0 (l:=l)]
theorem y5W{n:Nat}{a:A}{cs:List A}(h:a.bd n=true)(hc:a.cells=some cs):A.bdL n cs=true:=by
 cases a<;>simp only[A.cells]at hc<;>(split at hc<;>first|(cases hc;done)|(cases hc;first|exact h|(simp only[A.bdL,Bool.and_true];exact h)))
theorem z8a{n:Nat}{l:List A}(h:∀(i:Nat) (a:A),l[i]?=some a→a.bd n=true):A.bdL n l=true :=
 zP0.2 fun a ha=>by
  obtain⟨i,hi,rfl⟩:=List.mem_iff_getElem.1 ha
  exact h i _ (by simp [hi])
theorem z5j{l:List A}{vs:List Value}(hl:l.length=vs.length){i:Nat}{a:A}(h:l[i]?=some a):vs[i]?=some (vs.getD i undef):=by
 have:=(List.getElem?_eq_some_iff.1 h).1
 simp [show i<vs.length by omega]
theorem yH0{n:Nat}{a:A}{cs:List A}(hc:a.cells=some cs)(h:A.bdL n cs=true):a.bd n=true:=by
 cases a<;>simp only[A.cells]at hc<;>(split at hc<;>first|(cases hc;done)|(cases hc;first|exact h|(simp only[A.bdL,Bool.and_true]at h;exact h)))
theorem Rel.bd{c:Cfg}(hs:St c){a:A}{v:Value}(h:Rel c.g c.σ a v):a.bd c.H.length=true:=by
 induction h with
 | any x=>rfl
 | v x=>rfl
 | agg l vs hl hr ih=>exact z8a fun i a ha=>ih i a _ ha (z5j hl ha)
 | tup l vs hl hr ih=>exact z8a fun i a ha=>ih i a _ ha (z5j hl ha)
 | fn f l vs hl hr ih=>exact z8a fun i a ha=>ih i a _ ha (z5j hl ha)
 | fs0 w a c=>rfl
 | fs w l b o cp k f hc hl hr ih =>
  refine z8a fun i a ha=>?_
  obtain⟨cs,h1,h2,h3⟩:=hl i a ha
  exact yH0 h1 (z8a fun j q hj=>ih i a cs j q _ ha h1 hj (z5j (by rw[h2,zD4 h3]) hj))
 | fp w l b o vs hd hr ih=>exact z8a fun i a ha=>ih i a _ ha (z5j (zD4 hd).symm ha)
 | sl i ver k o n b s o' cp hs' hn ho=>obtain⟨B,h1,_⟩:=hs.nam _ _ _ hs';have:=(List.getElem?_eq_some_iff.1 h1).1;simpa [A.bd]using this
 | lp i ver o b s hs'=>obtain⟨B,h1,_⟩:=hs.nam _ _ _ hs';have:=(List.getElem?_eq_some_iff.1 h1).1;simpa [A.bd]using this
 | vs0 i ver k hs'=>obtain⟨B,h1,_⟩:=hs.nam _ _ _ hs';have:=(List.getElem?_eq_some_iff.1 h1).1;simpa [A.bd]using this
 | vs i ver k n b s o' cp hs' hn ho=>obtain⟨B,h1,_⟩:=hs.nam _ _ _ hs';have:=(List.getElem?_eq_some_iff.1 h1).1;simpa [A.bd]using this
theorem RL.bd{c:Cfg}(hs:St c){l:List A}{vs:List Value}(h:RL c.g c.σ l vs):A.bdL c.H.length l=true :=
 z8a fun i a ha=>(h.2 i a _ ha (z5j h.1 ha)).bd hs
theorem Rel.keep{g g':Bool→Heap}{σ σ':Nam}{n:Nat}(hg:∀w,Ext (g w) (g' w))(hs:∀i ver p,i<n→σ i ver=some p→σ' i ver=some p){a:A}{v:Value}(h:Rel g σ a v):a.bd n=true→Rel g' σ' a v:=by
 induction h with
 | any x=>exact fun _=>.any x
 | v x=>exact fun _=>.v x
 | agg l vs hl hr ih=>exact fun hb=>.agg l vs hl fun i a x h1 h2=>ih i a x h1 h2 (zP0.1 hb a (List.mem_of_getElem? h1))
 | tup l vs hl hr ih=>exact fun hb=>.tup l vs hl fun i a x h1 h2=>ih i a x h1 h2 (zP0.1 hb a (List.mem_of_getElem? h1))
 | fn f l vs hl hr ih=>exact fun hb=>.fn f l vs hl fun i a x h1 h2=>ih i a x h1 h2 (zP0.1 hb a (List.mem_of_getElem? h1))
 | fs0 w a c=>exact fun _=>.fs0 w a c
 | fs w l b o c k f hc hl hr ih =>
  exact fun hb=>.fs w l b o c k f hc (fun i a ha=>by obtain⟨cs,h1,h2,h3⟩:=hl i a ha;exact⟨cs,h1,h2,zz5 (hg w) h3⟩)
   fun i a cs j q x h1 h2 h3 h4=>ih i a cs j q x h1 h2 h3 h4 (zP0.1 (y5W (zP0.1 hb a (List.mem_of_getElem? h1)) h2) q (List.mem_of_getElem? h3))
 | fp w l b o vs hd hr ih=>exact fun hb=>.fp w l b o vs (zz5 (hg w) hd) fun i a x h1 h2=>ih i a x h1 h2 (zP0.1 hb a (List.mem_of_getElem? h1))
 | sl i ver k o n' b s o' c hs' hn ho=>exact fun hb=>.sl i ver k o n' b s o' c (hs _ _ _ (by simpa [A.bd]using hb) hs') hn ho
 | lp i ver o b s hs'=>exact fun hb=>.lp i ver o b s (hs _ _ _ (by simpa [A.bd]using hb) hs')
 | vs0 i ver k hs'=>exact fun hb=>.vs0 i ver k (hs _ _ _ (by simpa [A.bd]using hb) hs')
 | vs i ver k n' b s o' c hs' hn ho=>exact fun hb=>.vs i ver k n' b s o' c (hs _ _ _ (by simpa [A.bd]using hb) hs') hn ho
def ownB(m:Nat)(c:Cfg)(b:Nat):Prop:=∃i B s,m≤i∧c.H[i]?=some B∧c.σ i B.ver=some (some (b,s))
open Classical in
noncomputable def cutg(m:Nat)(c:Cfg):Bool→Heap:=fun w b=>if w=true∧ownB m c b then c.h b else c.g w b
def cuts(m:Nat)(σ:Nam):Nam:=fun i ver=>if i<m then σ i ver else none
theorem yO9{m:Nat}{c:Cfg}(hs:St c)(w:Bool):Ext (c.g w) (cutg m c w):=fun b o hb=>by
 unfold cutg;split
 ·exact hs.ext w b o hb
 ·exact hb
theorem yk8{m:Nat}{σ:Nam}(i ver:Nat)(p:Option (Nat×Nat))(hi:i<m)(h:σ i ver=some p):cuts m σ i ver=some p:=by simp [cuts,hi,h]
def Fz(m:Nat)(H:List Blk)(a a':A):Prop:=∀(c:Cfg) (v:Value),c.H=H→St c→Rel c.g c.σ a v→Rel (cutg m c) (cuts m c.σ) a' v
def FzL(m:Nat)(H:List Blk):List A→List A→Prop
 | [],[]=>True
 | a :: l,b :: r=>Fz m H a b∧FzL m H l r
 | _,_=>False
theorem FzL.rel{m:Nat}{H:List Blk}:∀{l r:List A},FzL m H l r→∀{c:Cfg} {vs:List Value},c.H=H→St c→RL c.g c.σ l vs→RL (cutg m c) (cuts m c.σ) r vs
 | [],[],_,c,vs,hH,hs,h=>by rw[h.nil_inv];exact RL.nil
 | a :: l,b :: r,hz,c,vs,hH,hs,h=>by
  obtain⟨x,xs,rfl,h1,h2⟩:=h.uncons
  exact RL.cons (hz.1 c x hH hs h1) (FzL.rel hz.2 hH hs h2)
 | [],_ :: _,hz,_,_,_,_,_=>hz.elim
 | _ :: _,[],hz,_,_,_,_,_=>hz.elim
theorem FzL.len{m:Nat}{H:List Blk}:∀{l r:List A},FzL m H l r→l.length=r.length
 | [],[],_=>rfl
 | a :: l,b :: r,hz=>by simp [FzL.len hz.2]
 | [],_ :: _,hz=>hz.elim
 | _ :: _,[],hz=>hz.elim
theorem Fz.any{m:Nat}{H:List Blk}{a:A}:Fz m H a .any:=fun _ v _ _ _=>.any v
theorem Fz.refl{m:Nat}{H:List Blk}{a:A}(h:a.bd m=true):Fz m H a a:=fun c v hH hs hr=>hr.keep (yO9 hs) yk8 h
theorem FzL.refl{m:Nat}{H:List Blk}:∀{l:List A},A.bdL m l=true→FzL m H l l
 | [],_=>trivial
 | a :: l,h=>by simp [A.bdL]at h;exact⟨Fz.refl h.1,FzL.refl h.2⟩
theorem Fz.agg{m:Nat}{H:List Blk}{l r:List A}(h:FzL m H l r):Fz m H (.agg l) (.agg r):=fun c v hH hs hr=>by
 cases hr with
 | agg l vs hl hr=>have:=FzL.rel h hH hs ⟨hl,hr⟩;exact .agg r vs this.1 this.2
theorem Fz.tup{m:Nat}{H:List Blk}{l r:List A}(h:FzL m H l r):Fz m H (.tup l) (.tup r):=fun c v hH hs hr=>by
 cases hr with
 | tup l vs hl hr=>have:=FzL.rel h hH hs ⟨hl,hr⟩;exact .tup r vs this.1 this.2
theorem Fz.fn{m:Nat}{H:List Blk}{f:Nat}{l r:List A}(h:FzL m H l r):Fz m H (.fn f l) (.fn f r):=fun c v hH hs hr=>by
 cases hr with
 | fn f l vs hl hr=>have:=FzL.rel h hH hs ⟨hl,hr⟩;exact .fn f r vs this.1 this.2
theorem yu3{k:Nat}:∀{els cs:List A},za5 k els=some cs→cs.length=els.length*k∧∀i a,els[i]?=some a→a.cells=some ((cs.drop (i*k)).take k)
 | [],cs,h=>by cases h;simp
 | a :: r,cs,h=>by
  simp only[za5,Option.bind_eq_some_iff]at h
  obtain⟨ca,h1,h2⟩:=h
  split at h2
  ·rename_i hk
   simp only[Option.bind_eq_some_iff]at h2
   obtain⟨l,h3,h4⟩:=h2
   cases h4
   obtain⟨g1,g2⟩:=yu3 h3
   refine⟨by simp only[List.length_append,List.length_cons];rw[g1,hk,Nat.add_mul];omega,fun i b hb=>?_⟩
   cases i with
   | zero=>simp at hb;subst hb;rw[h1];simp [← hk]
   | succ i =>
    simp at hb
    rw[g2 i b hb,show(i+1)*k=ca.length+i*k by rw[Nat.add_mul,hk];omega,List.drop_append,List.drop_eq_nil_of_le (as:=ca) (by omega),Nat.add_sub_cancel_left]
    simp
  ·cases h2
theorem z3a {g : Bool → Heap} {σ : Nam} {w : Bool} {b t k n o o' c : Nat} {vs z : List Value} {l els : List A} (hh : g w b = some (.cells (vs ++ z).toArray t (0, 0))) (hl : RL g σ l vs)
    (hf:za5 k els=some ((l.drop o).take (n*k))) (hn:els.length=n) (ho:o+n*k≤l.length) (hc:n≤c) (hoc:0<c→o'=o):Rel g σ (.fs w els) (.slice (some ⟨b,o',none⟩) n c):=by
  by_cases h0:n=0
  · subst h0
    have:els=[]:=List.length_eq_zero_iff.1 hn
    subst this;exact .fs0 w _ _
  · have:=hoc (by omega)
    subst this
    subst hn
    obtain⟨_,hget⟩:=yu3 hf
    have hvl:=hl.1
    have hle:∀i,i<els.length→o'+i*k+k≤l.length:=fun i hi=>by
      have:(i+1)*k≤els.length*k:=Nat.mul_le_mul_right k hi
      rw[Nat.add_mul]at this;omega
    have hsub:∀i,i<els.length→((((l.drop o').take (els.length*k)).drop (i*k)).take k)=(l.drop (o'+i*k)).take k:=fun i hi=>by
      have:=hle i hi
      have h2:i*k+k≤els.length*k:=by
        have:(i+1)*k≤els.length*k:=Nat.mul_le_mul_right k hi
        rw[Nat.add_mul]at this;omega
      apply List.ext_getElem?
      intro j
      simp only[List.getElem?_take,List.getElem?_drop]
      by_cases hj:j<k
      · rw[if_pos hj,if_pos hj,if_pos (by omega)];congr 1;omega
      · rw[if_neg hj,if_neg hj]
    refine .fs w els b o' c k (fun i=>(vs.drop (o'+i*k)).take k) hc (fun i a ha=>?_) (fun i a cs j q x ha hcs hj hx=>?_)
    · have hi:i<els.length:=(List.getElem?_eq_some_iff.1 ha).1
      refine⟨_,hget i a ha,?_,zD5 hh (by have:=hle i hi;omega)⟩
      rw[hsub i hi];have:=hle i hi;simp;omega
    · have hi:i<els.length:=(List.getElem?_eq_some_iff.1 ha).1
      rw[hget i a ha,hsub i hi]at hcs
      cases hcs
      exact((hl.drop (o'+i*k)).take k).2 j q x hj hx
theorem yu4{g:Bool→Heap}{σ:Nam}{w:Bool}{b t o:Nat}{vs z:List Value}{l:List A}(hh:g w b=some (.cells (vs++z).toArray t (0,0)))(hl:RL g σ l vs)(ho:o≤l.length):Rel g σ (.fp w (l.drop o)) (.pointer (some ⟨b,o,none⟩)):=by
 have hd:=hl.drop o
 refine .fp w _ b o (vs.drop o) ?_ hd.2
 rw[zD5 hh (by have:=hl.1;simp;omega)]
 congr 1
 apply List.take_of_length_le
 rw[hd.1];exact Nat.le_refl _
theorem Fz.sl{m:Nat}{H:List Blk}{i ver k o n:Nat}{l r els:List A}(hi:m≤i)(hb:Lft.blkAt H i ver=some l)(hl:FzL m H l r)(hf:za5 k els=some ((r.drop o).take (n*k)))(hn:els.length=n)(ho:o+n*k≤r.length):
    Fz m H (.sl i ver k o n) (.fs true els):=fun c v hH hs hr=>by
  cases hr with
  | sl i ver k o n b s o' cp e1 e2 e3 =>
    subst hH
    obtain⟨B,q1,q2,q3⟩:=w8.1 hb
    subst q2;subst q3
    obtain⟨b',s',vs,z,t,f1,f2,f3,f4,f5⟩:=(hs.blk i B q1).resolve_left (fun hx=>by rw[e1]at hx;cases hx.1)
    rw[e1]at f1;cases f1
    have hh:cutg m c true b=some (.cells (vs++z).toArray t (0,0)):=by
      unfold cutg;rw[if_pos ⟨rfl,i,B,s,hi,q1,e1⟩];exact f3
    exact z3a hh (FzL.rel hl rfl hs f5) hf hn ho e2 fun hc=>(e3 hc).1
theorem Fz.vs{m:Nat}{H:List Blk}{i ver k n:Nat}{l r els:List A}(hi:m≤i)(hb:Lft.blkAt H i ver=some l)(hl:FzL m H l r)(hf:za5 k els=some (r.take (n*k)))(hn:els.length=n)(ho:n*k≤r.length):
    Fz m H (.vs i ver k n) (.fs true els):=fun c v hH hs hr=>by
  cases hr with
  | vs0 i ver k e1 =>
    have:els=[]:=List.length_eq_zero_iff.1 hn
    subst this;exact .fs0 true _ _
  | vs i ver k n b s o' cp e1 e2 e3 =>
    subst hH
    obtain⟨B,q1,q2,q3⟩:=w8.1 hb
    subst q2;subst q3
    obtain⟨b',s',vs,z,t,f1,f2,f3,f4,f5⟩:=(hs.blk i B q1).resolve_left (fun hx=>by rw[e1]at hx;cases hx.1)
    rw[e1]at f1;cases f1
    have hh:cutg m c true b=some (.cells (vs++z).toArray t (0,0)):=by
      unfold cutg;rw[if_pos ⟨rfl,i,B,s,hi,q1,e1⟩];exact f3
    exact z3a (o:=0) hh (FzL.rel hl rfl hs f5) (by simpa using hf) hn (by simpa using ho) e2 fun hc=>(e3 hc).1
theorem Fz.lp{m:Nat}{H:List Blk}{i ver o:Nat}{l r:List A}(hi:m≤i)(hb:Lft.blkAt H i ver=some l)(hl:FzL m H l r)(ho:o≤r.length):Fz m H (.lp i ver o) (.fp true (r.drop o)):=fun c v hH hs hr=>by
 cases hr with
 | lp i ver o b s e1 =>
  subst hH
  obtain⟨B,q1,q2,q3⟩:=w8.1 hb
  subst q2;subst q3
  obtain⟨b',s',vs,z,t,f1,f2,f3,f4,f5⟩:=(hs.blk i B q1).resolve_left (fun hx=>by rw[e1]at hx;cases hx.1)
  rw[e1]at f1;cases f1
  have hh:cutg m c true b=some (.cells (vs++z).toArray t (0,0)):=by
   unfold cutg;rw[if_pos ⟨rfl,i,B,s,hi,q1,e1⟩];exact f3
  exact yu4 hh (FzL.rel hl rfl hs f5) ho
theorem Cut.of {n0 m : Nat} {e e' : List A} {H H' : List Blk} (hm : n0 ≤ m) (hl : H'.length = m)
    (hb:∀(i:Nat) (B':Blk),H'[i]?=some B'→∃B,H[i]?=some B∧B.ver=B'.ver∧FzL m H B.cells B'.cells) (he:FzL m H e e'):Cut n0 e H e' H':=by
  intro c ev hH hn hs hr
  have hlt:∀i B,H'[i]?=some B→i<m:=fun i B h=>by rw[← hl];exact(List.getElem?_eq_some_iff.1 h).1
  have hcs:∀i ver p,cuts m c.σ i ver=some p→i<m∧c.σ i ver=some p:=fun i ver p hp=>by
    unfold cuts at hp;split at hp
    · exact⟨by assumption,hp⟩
    · cases hp
  refine⟨⟨cutg m c,cuts m c.σ,H',c.h⟩,rfl,rfl,?_,?_,FzL.rel he hH hs hr⟩
  · refine⟨?_,yO9 hs true,fun b hb'=>?_,fun b h=>h,fun b o h _=>h,fun i B' b s h1 h2=>?_,fun i ver p hi hp=>yk8 i ver p (by omega) hp,fun _=>by simp only;omega⟩
    · funext b;simp [cutg]
    · simp only[cutg]at hb'
      split at hb'
      · rename_i hx
        obtain⟨_,i,B,s,k1,k2,k3⟩:=hx
        exact .inr (.inr ⟨i,B,s,by omega,k2,k3⟩)
      · exact .inl hb'
    · obtain⟨h3,h4⟩:=hcs _ _ _ h2
      obtain⟨B,h5,h6,_⟩:=hb i B' h1
      exact .inr ⟨i,B,s,by rw[hH];exact h5,by rw[h6];exact h4,.inl rfl⟩
  · refine⟨fun w b o h=>?_,fun i B' h1=>?_,fun i j B' C' b s t h1 h2 h3 h4=>?_,fun i ver p hp=>?_⟩
    · simp only[cutg]at h
      split at h
      · exact h
      · exact hs.ext w b o h
    · obtain⟨B,h2,h3,h4⟩:=hb i B' h1
      rcases hs.blk i B (by rw[hH];exact h2)with⟨k1,k2⟩|⟨b,s,vs,z,t,k1,k2,k3,k4,k5⟩
      · refine .inl ⟨yk8 i _ _ (hlt i B' h1) (by rw[← h3];exact k1),?_⟩
        rw[k2]at h4
        cases hc:B'.cells with
        | nil=>rfl
        | cons a r=>rw[hc]at h4;exact h4.elim
      refine .inr ⟨b,s,vs,z,t,yk8 i _ _ (hlt i B' h1) (by rw[← h3];exact k1),fun w=>?_,k3,k4,FzL.rel h4 hH hs k5⟩
      simp only[cutg]
      rw[if_neg]
      · exact k2 w
      · rintro⟨_,j,C,s',q1,q2,q3⟩
        have:=hs.inj i j B C b s s' (by rw[hH];exact h2) q2 k1 q3
        have:=hlt i B' h1
        omega
    · obtain⟨h5,h6⟩:=hcs _ _ _ h3
      obtain⟨h7,h8⟩:=hcs _ _ _ h4
      obtain⟨B,g1,g2,_⟩:=hb i B' h1
      obtain⟨C,g3,g4,_⟩:=hb j C' h2
      exact hs.inj i j B C b s t (by rw[hH];exact g1) (by rw[hH];exact g3) (by rw[g2];exact h6) (by rw[g4];exact h8)
    · obtain⟨h1,h2⟩:=hcs _ _ _ hp
      obtain⟨B,h3,h4⟩:=hs.nam i ver p h2
      have hi:i<H'.length:=by rw[hl];exact h1
      obtain⟨B2,h5,h6,_⟩:=hb i H'[i] (by simp [hi])
      rw[hH,h5]at h3;cases h3
      exact⟨H'[i],by simp [hi],by rw[← h6];exact h4⟩
theorem Cut.virt{n0:Nat}{e:List A}{H:List Blk}(j k:Nat)(hj:e[j]?=some (.v (.slice none 0 0))):Cut n0 e H (e.set j (.vs H.length 0 k 0)) (H++[⟨0,[]⟩]):=by
 intro c ev hH hn hs he
 subst hH
 obtain⟨d1,d2,d3⟩:=hs.virt n0
 refine⟨⟨c.g,nmd c.σ c.H.length 0 none,c.H++[⟨0,[]⟩],c.h⟩,rfl,rfl,d2,d1,?_⟩
 obtain⟨x,hx,hxr⟩:=he.get hj
 cases hxr
 have h2:=(he.mono (fun _=>Ext.refl _) d3).set j (a:=.vs c.H.length 0 k 0) (x:=.slice none 0 0) (.vs0 _ _ _ (Z2 _ _ _ _))
 have h3:ev.set j (.slice none 0 0)=ev:=by
  apply List.ext_getElem?
  intro i
  rw[List.getElem?_set]
  split
  ·rename_i hi;subst hi
   rw[if_pos (List.getElem?_eq_some_iff.1 hx).1,hx]
  ·rfl
 rw[h3]at h2;exact h2
theorem Cut.virtB{n0:Nat}{e:List A}{H:List Blk}(i ver j k:Nat){l:List A}(hb:blkAt H i ver=some l)(hj:l[j]?=some (.v (.slice none 0 0))):Cut n0 e H e ((H++[(⟨0,[]⟩:Blk)]).set i (⟨ver,l.set j (.vs H.length 0 k 0)⟩:Blk)):=by
 intro c ev hH hn hs he
 subst hH
 obtain⟨d1,d2,d3⟩:=hs.virt n0
 obtain⟨B,q1,q2,q3⟩:=w8.1 hb
 subst q2;subst q3
 have hlt:i<c.H.length:=(List.getElem?_eq_some_iff.1 q1).1
 rcases hs.blk i B q1 with⟨_,k0⟩|⟨b,s,vs,z,t,f1,f2,f3,f4,f5⟩
 ·rw[k0]at hj;simp at hj
 ·obtain⟨x,hx,hxr⟩:=f5.get hj
  cases hxr
  have h2:=(f5.mono (fun _=>Ext.refl _) d3).set j (a:=.vs c.H.length 0 k 0) (x:=.slice none 0 0) (.vs0 _ _ _ (Z2 _ _ _ _))
  have h3:vs.set j (.slice none 0 0)=vs:=by
   apply List.ext_getElem?
   intro i
   rw[List.getElem?_set]
   split
   ·rename_i hi;subst hi
    rw[if_pos (List.getElem?_eq_some_iff.1 hx).1,hx]
   ·rfl
  rw[h3]at h2
  have d1':St ⟨c.g,nmd c.σ c.H.length 0 none,c.H++[⟨0,[]⟩],c.h⟩:=d1
  have q1':(c.H++[(⟨0,[]⟩:Blk)])[i]?=some B:=by rw[List.getElem?_append_left hlt];exact q1
  obtain⟨e1,e2,e3⟩:=St.turn d1' n0 q1' (v':=B.ver) (b':=b) (s':=s) (t:=t) (vs:=vs) (z:=z) (Or.inl (And.intro (d3 _ _ _ f1) (Nat.le_refl _))) f4 h2
  have h4:upd c.h b (.cells (vs++z).toArray t)=c.h:=z1a f3
  refine⟨_,rfl,?_,d2.trans e2,e1,(he.mono (fun _=>Ext.refl _) d3).mono (fun _=>Ext.refl _) e3⟩
  simp only;exact h4
def lgA{α:Type}(n0:Nat)(I:α→Prop)(env:α→List A)(mem:α→List Blk)(m:α→Nat)(n:Nat)(Q:QA):QA:=fun x e H=>match x with | .nxt=>∃a,I a∧m a<n∧Cut n0 e H (env a) (mem a)|x=>Q x e H
theorem AWP.loop {P : Program} {n0 : Nat} {s : S} {Q : QA} {e : List A} {H : List Blk} {α : Type} (I : α → Prop) (env : α → List A) (mem : α → List Blk) (m : α → Nat) (a0 : α) (h0 : I a0) (hc : Cut n0 e H (env a0) (mem a0))
    (round:∀a,I a→AWP P n0 s (lgA n0 I env mem m (m a) Q) (env a) (mem a)):AWP P n0 (.loop s) Q e H:=by
  have key:∀(n:Nat) (a:α) (c:Cfg) (ev:List Value),m a<n→I a→c.H=mem a→n0≤c.H.length→St c→RL c.g c.σ (env a) ev→z25 (fun Q e h=>s.wp P Q e h) (Lift n0 c Q) n ev c.h:=by
    intro n
    induction n with
    | zero=>intro a c ev hn;omega
    | succ n ih =>
      intro a c ev hn hI hH hl hs he
      refine S.wp_mono s (fun x e' h' hq=>?_) (round a hI c ev hH (hH▸hl) hs he)
      obtain⟨e2,d,rfl,h2,h3,h4,h5⟩:=hq
      cases x with
      | nxt =>
        obtain⟨a',k1,k2,k3⟩:=h2
        obtain⟨d',q1,q2,q3,q4,q5⟩:=k3 d _ rfl (h3.len hl) h4 h5
        have h6:=h3.trans q3
        rw[← q2]
        exact zz1 (F:=fun Q e h=>s.wp P Q e h) (fun _ _ hQ _ _ hw=>S.wp_mono s hQ hw) (fun x e h hq=>hq.up h6) n _ _ (ih a' d' _ (by omega) k1 q1 (h6.len hl) q4 q5)
      | exit i=>exact⟨e2,d,rfl,h2,h3,h4,h5⟩
      | ret=>exact⟨e2,d,rfl,h2,h3,h4,h5⟩
  intro c ev hH hn hs he
  obtain⟨d,h1,h2,h3,h4,h5⟩:=hc c ev hH hn hs he
  refine⟨m a0+1,?_⟩
  rw[← h2]
  subst hH
  exact zz1 (F:=fun Q e h=>s.wp P Q e h) (fun _ _ hQ _ _ hw=>S.wp_mono s hQ hw) (fun x e h hq=>hq.up h3) _ _ _ (key _ a0 d ev (by omega) h0 h1 (h3.len hn) h4 h5)
def envA(V:List Nat)(args:List A):List A:=V.map fun t=>args.getD t .any
def resA(e:List A)(H:List Blk):List X→Option (List A)
 | []=>some []
 | x :: r=>(x.av e H).bind fun v=>(resA e H r).bind fun l=>some (v :: l)
def retA:List A→A
 | [a]=>a
 | l=>.tup l
def z8b(n0:Nat)(F:Fun)(R:A→List Blk→Prop):QA:=fun x e H =>
 match x with
 | .exit _=>False
 | _=>bw (resA e H F.res) fun l=>∃r H',Cut n0 [retA l] H [r] H'∧R r H'
theorem z1b{c:Cfg}(hs:St c){e:List A}{ev:List Value}(he:RL c.g c.σ e ev):∀(xs:List X) (l:List A),resA e c.H xs=some l→∃vs,resV ev c.h xs=some vs∧RL c.g c.σ l vs
 | [],l,h=>by cases h;exact⟨[],rfl,RL.nil⟩
 | x :: r,l,h=>by
  simp only[resA,Option.bind_eq_some_iff]at h
  obtain⟨a,h1,m,h2,h3⟩:=h
  cases h3
  obtain⟨v,h4,h5⟩:=za8 hs he h1
  obtain⟨vs,h6,h7⟩:=z1b hs he r m h2
  exact⟨v :: vs,by simp [resV,h4,h6],RL.cons h5 h7⟩
theorem z5k{g:Bool→Heap}{σ:Nam}{l:List A}{vs:List Value}(h:RL g σ l vs):Rel g σ (retA l) (zT8 vs):=by
 cases l with
 | nil=>rw[h.nil_inv];exact .tup [] [] rfl fun i a x h=>by simp at h
 | cons a r =>
  cases r with
  | nil=>obtain⟨x,xs,rfl,h1,h2⟩:=h.uncons;rw[h2.nil_inv];exact h1
  | cons b r =>
   obtain⟨x,xs,rfl,h1,h2⟩:=h.uncons
   obtain⟨y,ys,rfl,h3,h4⟩:=h2.uncons
   exact .tup _ _ h.1 h.2
theorem VR.of {P : Program} {kp : Bool} {f nt : Nat} {F : Fun} {V : List Nat} (hrun : ∀ {vs : List Value} (_ : vs.length ≤ nt) {h : Heap} {R : Value → Heap → Prop} (_ : F.body.wp P (F.post R) (env0 V vs) h), Runs P f vs h R)
    {args:List A} {H:List Blk} {R:A→List Blk→Prop} (hlen:args.length≤nt) (hk:kp=false∨H=[])
    (hw:(∀B∈H,A.bdL H.length B.cells=true)→A.bdL H.length args=true→AWP P H.length F.body (z8b H.length F R) (envA V args) H):VR P kp f args H R:=by
  intro c vs hH hs ha
  subst hH
  have hbd:∀B∈c.H,A.bdL c.H.length B.cells=true:=fun B hB=>by
    obtain⟨i,hi,rfl⟩:=List.mem_iff_getElem.1 hB
    rcases hs.blk i c.H[i] (by simp [hi])with⟨_,k5⟩|⟨b,s,vs,z,t,_,_,_,_,k5⟩
    · rw[k5];rfl
    · exact k5.bd hs
  have henv:RL c.g c.σ (envA V args) (env0 V vs):=⟨by simp [envA,env0],fun i a x h1 h2=>by
    simp only[envA,env0,List.getElem?_map,Option.map_eq_some_iff]at h1 h2
    obtain⟨t,e1,rfl⟩:=h1
    obtain⟨t',e2,rfl⟩:=h2
    rw[e1]at e2;cases e2
    exact ha.getD t⟩
  refine hrun (by rw[← ha.1];exact hlen) (S.wp_mono F.body ?_ (hw hbd (ha.bd hs) c _ rfl (Nat.le_refl _) hs henv))
  rintro x ev h' ⟨e',d,rfl,h2,h3,h4,h5⟩
  have key : (bw (resA e' d.H F.res) fun l => ∃ r H', Cut c.H.length [retA l] d.H [r] H' ∧ R r H') →
      ∃l,resV ev d.h F.res=some l∧((kp=true→Ext c.h d.h)∧∃(r:A) (d':Cfg),d'.h=d.h∧R r d'.H∧Lat c.H.length c d'∧St d'∧Rel d'.g d'.σ r (zT8 l)):=by
    rintro⟨l,k1,r,H',k2,k3⟩
    obtain⟨ls,k4,k5⟩:=z1b h4 h5 _ _ k1
    obtain⟨d',q1,q2,q3,q4,q5⟩:=k2 d _ rfl (h3.len (Nat.le_refl _)) h4 (RL.cons (z5k k5) RL.nil)
    refine⟨ls,k4,fun hkp=>?_,r,d',q2,q1▸k3,h3.trans q3,q4,?_⟩
    · rcases hk with hk|hk
      · rw[hk]at hkp;cases hkp
      · exact fun b o hb=>h3.frm b o hb fun i B s h1=>by rw[hk]at h1;simp at h1
    · obtain⟨x,xs,e1,e2,_⟩:=q5.uncons
      injection e1 with e1 _;rw[e1];exact e2
  cases x with
  | nxt=>obtain⟨l,k1,k2⟩:=key h2;exact⟨l,k1,k2⟩
  | ret=>obtain⟨l,k1,k2⟩:=key h2;exact⟨l,k1,k2⟩
  | exit i=>exact h2.elim
def VRof(P:Program)(f:Nat)(s:S)(F:Fun)(V:List Nat)(nt:Nat):Prop :=
 ∀⦃kp:Bool⦄ ⦃args:List A⦄ ⦃H:List Blk⦄ ⦃R:A→List Blk→Prop⦄,args.length≤nt→(kp=false∨H=[]) →
  ((∀B∈H,A.bdL H.length B.cells=true)→A.bdL H.length args=true→s.aw P H.length (z8b H.length F R) (envA V args) H)→VR P kp f args H R
theorem VRof.of {P : Program} {f nt : Nat} {s : S} {F : Fun} {V : List Nat} (hb : F.body = s)
    (hrun:∀{args:List Value} (_:args.length≤nt) {h:Heap} {R:Value→Heap→Prop} (_:F.body.wp P (F.post R) (env0 V args) h),Runs P f args h R):VRof P f s F V nt :=
  fun _ _ _ _ hlen hk hw=>VR.of (F:=F) (V:=V) hrun hlen hk fun h1 h2=>aw_sound (hb▸hw h1 h2)
theorem VR.law{P:Program}{kp:Bool}{f:Nat}{args:List A}{vs:List Value}{h:Heap}(hv:VR P kp f args [] fun r _=>r=.v (.bool true))(hr:RL (fun _=>h) (fun _ _=>none) args vs):
    Runs P f vs h fun r h'=>r=.bool true∧Ext h h':=by
  have hs:St ⟨fun _=>h,fun _ _=>none,[],h⟩:=⟨fun _=>Ext.refl _,fun i B h=>by simp at h,fun i j B C b s t h=>by simp at h,fun i ver p h=>by cases h⟩
  refine(hv ⟨fun _=>h,fun _ _=>none,[],h⟩ vs rfl hs hr).mono ?_
  rintro v h' ⟨_,r,d,rfl,rfl,h3,h4,h5⟩
  cases h5
  exact⟨rfl,fun b o hb=>h3.frm b o hb fun i B s h1=>by simp at h1⟩
def yH1(c:Cfg):Bool→Heap:=fun w=>match w with|true=>c.g true|false=>c.h
def Ld(H:List Blk)(a a':A):Prop:=∀(c:Cfg) (v:Value),c.H=H→St c→Rel c.g c.σ a v→Rel (yH1 c) (fun _ _=>none) a' v
def LdL(H:List Blk):List A→List A→Prop
 | [],[]=>True
 | a :: l,b :: r=>Ld H a b∧LdL H l r
 | _,_=>False
theorem LdL.rel{H:List Blk}:∀{l r:List A},LdL H l r→∀{c:Cfg} {vs:List Value},c.H=H→St c→RL c.g c.σ l vs→RL (yH1 c) (fun _ _=>none) r vs
 | [],[],_,c,vs,hH,hs,h=>by rw[h.nil_inv];exact RL.nil
 | a :: l,b :: r,hz,c,vs,hH,hs,h=>by
  obtain⟨x,xs,rfl,h1,h2⟩:=h.uncons
  exact RL.cons (hz.1 c x hH hs h1) (LdL.rel hz.2 hH hs h2)
 | [],_ :: _,hz,_,_,_,_,_=>hz.elim
 | _ :: _,[],hz,_,_,_,_,_=>hz.elim
theorem z8c{c:Cfg}(hs:St c)(w:Bool):Ext (c.g w) (yH1 c w):=by
 cases w with
 | true=>exact Ext.refl _
 | false=>exact hs.ext false
theorem Ld.any{H:List Blk}{a:A}:Ld H a .any:=fun _ v _ _ _=>.any v
theorem Ld.refl{H:List Blk}{a:A}(h:a.bd 0=true):Ld H a a:=fun c v hH hs hr=>hr.keep (z8c hs) (fun i ver p hi=>by omega) h
theorem LdL.refl{H:List Blk}:∀{l:List A},A.bdL 0 l=true→LdL H l l
 | [],_=>trivial
 | a :: l,h=>by simp [A.bdL]at h;exact⟨Ld.refl h.1,LdL.refl h.2⟩
theorem Ld.agg{H:List Blk}{l r:List A}(h:LdL H l r):Ld H (.agg l) (.agg r):=fun c v hH hs hr=>by
 cases hr with
 | agg l vs hl hr=>have:=LdL.rel h hH hs ⟨hl,hr⟩;exact .agg r vs this.1 this.2
theorem Ld.fn{H:List Blk}{f:Nat}{l r:List A}(h:LdL H l r):Ld H (.fn f l) (.fn f r):=fun c v hH hs hr=>by
 cases hr with
 | fn f l vs hl hr=>have:=LdL.rel h hH hs ⟨hl,hr⟩;exact .fn f r vs this.1 this.2
theorem Ld.fs{H:List Blk}{w:Bool}{l:List A}(h:A.bdL 0 l=true):Ld H (.fs w l) (.fs false l):=fun c v hH hs hr=>by
 have hq:=Rel.keep (z8c hs) (fun i ver p hi=>by omega:∀i ver p,i<0→c.σ i ver=some p→(fun _ _=>none:Nam) i ver=some p) hr h
 cases hq with
 | fs0 w a cp=>exact .fs0 _ _ _
 | fs w l b o cp k f hc hl hr' =>
  refine .fs false l b o cp k f hc (fun i a ha=>?_) hr'
  obtain⟨cs,h1,h2,h3⟩:=hl i a ha
  refine⟨cs,h1,h2,?_⟩
  cases w with
  | false=>exact h3
  | true=>exact zz5 (hs.ext true) h3
theorem Ld.fp{H:List Blk}{w:Bool}{l:List A}(h:A.bdL 0 l=true):Ld H (.fp w l) (.fp false l):=fun c v hH hs hr=>by
 have hq:=Rel.keep (z8c hs) (fun i ver p hi=>by omega:∀i ver p,i<0→c.σ i ver=some p→(fun _ _=>none:Nam) i ver=some p) hr h
 cases hq with
 | fp w l b o vs hd hr' =>
  refine .fp false l b o vs ?_ hr'
  cases w with
  | false=>exact hd
  | true=>exact zz5 (hs.ext true) hd
theorem Ld.sl{H:List Blk}{i ver k o n:Nat}{l r els:List A}(hb:Lft.blkAt H i ver=some l)(hl:LdL H l r)(hf:za5 k els=some ((r.drop o).take (n*k)))(hn:els.length=n)(ho:o+n*k≤r.length):
    Ld H (.sl i ver k o n) (.fs false els):=fun c v hH hs hr=>by
  cases hr with
  | sl i ver k o n b s o' cp e1 e2 e3 =>
    subst hH
    obtain⟨B,q1,q2,q3⟩:=w8.1 hb
    subst q2;subst q3
    obtain⟨b',s',vs,z,t,f1,f2,f3,f4,f5⟩:=(hs.blk i B q1).resolve_left (fun hx=>by rw[e1]at hx;cases hx.1)
    rw[e1]at f1;cases f1
    exact z3a (g:=yH1 c) (w:=false) f3 (LdL.rel hl rfl hs f5) hf hn ho e2 fun hc=>(e3 hc).1
theorem Ld.vs{H:List Blk}{i ver k n:Nat}{l r els:List A}(hb:Lft.blkAt H i ver=some l)(hl:LdL H l r)(hf:za5 k els=some (r.take (n*k)))(hn:els.length=n)(ho:n*k≤r.length):
    Ld H (.vs i ver k n) (.fs false els):=fun c v hH hs hr=>by
  cases hr with
  | vs0 i ver k e1 =>
    have:els=[]:=List.length_eq_zero_iff.1 hn
    subst this;exact .fs0 false _ _
  | vs i ver k n b s o' cp e1 e2 e3 =>
    subst hH
    obtain⟨B,q1,q2,q3⟩:=w8.1 hb
    subst q2;subst q3
    obtain⟨b',s',vs,z,t,f1,f2,f3,f4,f5⟩:=(hs.blk i B q1).resolve_left (fun hx=>by rw[e1]at hx;cases hx.1)
    rw[e1]at f1;cases f1
    exact z3a (g:=yH1 c) (w:=false) (o:=0) f3 (LdL.rel hl rfl hs f5) (by simpa using hf) hn (by simpa using ho) e2 fun hc=>(e3 hc).1
theorem Ld.lp{H:List Blk}{i ver o:Nat}{l r:List A}(hb:Lft.blkAt H i ver=some l)(hl:LdL H l r)(ho:o≤r.length):Ld H (.lp i ver o) (.fp false (r.drop o)):=fun c v hH hs hr=>by
 cases hr with
 | lp i ver o b s e1 =>
  subst hH
  obtain⟨B,q1,q2,q3⟩:=w8.1 hb
  subst q2;subst q3
  obtain⟨b',s',vs,z,t,f1,f2,f3,f4,f5⟩:=(hs.blk i B q1).resolve_left (fun hx=>by rw[e1]at hx;cases hx.1)
  rw[e1]at f1;cases f1
  exact yu4 (g:=yH1 c) (w:=false) f3 (LdL.rel hl rfl hs f5) ho
mutual
def A.sh(n:Nat):A→A
 | .any=>.any
 | .v x=>.v x
 | .agg l=>.agg (A.shL n l)
 | .tup l=>.tup (A.shL n l)
 | .fn f l=>.fn f (A.shL n l)
 | .fs w l=>.fs w (A.shL n l)
 | .fp w l=>.fp w (A.shL n l)
 | .sl i ver k o m=>.sl (n+i) ver k o m
 | .lp i ver o=>.lp (n+i) ver o
 | .vs i ver k m=>.vs (n+i) ver k m
def A.shL(n:Nat):List A→List A
 | []=>[]
 | a :: l=>a.sh n :: A.shL n l
def A.cl:A→Bool
 | .any=>true
 | .v _=>true
 | .agg l=>A.clL l
 | .tup l=>A.clL l
 | .fn _ l=>A.clL l
 | .fs w l=>w && A.clL l
 | .fp w l=>w && A.clL l
 | .sl _ _ _ _ _=>true
 | .lp _ _ _=>true
 | .vs _ _ _ _=>true
def A.clL:List A→Bool
 | []=>true
 | a :: l=>a.cl && A.clL l
end
theorem z2v{n:Nat}:∀(l:List A),A.shL n l=l.map (A.sh n)
 | []=>rfl
 | a :: l=>by simp [A.shL,z2v l]
theorem zH6:∀{l:List A},A.clL l=true↔∀a∈l,a.cl=true
 | []=>by simp [A.clL]
 | a :: l=>by simp [A.clL,zH6 (l:=l)]
mutual
theorem A.sh_bd{n:Nat}:∀(a:A),a.bd 0=true→a.sh n=a
 | .any,_=>rfl
 | .v _,_=>rfl
 | .agg l,h=>by simp only[A.sh];rw[zU0 l h]
 | .tup l,h=>by simp only[A.sh];rw[zU0 l h]
 | .fn f l,h=>by simp only[A.sh];rw[zU0 l h]
 | .fs w l,h=>by simp only[A.sh];rw[zU0 l h]
 | .fp w l,h=>by simp only[A.sh];rw[zU0 l h]
 | .sl i _ _ _ _,h=>by simp [A.bd]at h
 | .lp i _ _,h=>by simp [A.bd]at h
 | .vs i _ _ _,h=>by simp [A.bd]at h
theorem zU0{n:Nat}:∀(l:List A),A.bdL 0 l=true→A.shL n l=l
 | [],_=>rfl
 | a :: l,h=>by simp [A.bdL]at h;simp only[A.shL];rw[A.sh_bd a h.1,zU0 l h.2]
end
theorem A.sh_one{n:Nat}(a:A):(a.sh n).one=a.one:=by cases a<;>rfl
theorem A.sh_cells{n:Nat}{a:A}{cs:List A}(h:a.cells=some cs):(a.sh n).cells=some (A.shL n cs):=by
 have key:∀{a:A} {cs:List A},a.one=true→(if a.one=true then some [a]else none)=some cs→(if(a.sh n).one=true then some [a.sh n]else none)=some (A.shL n cs):=fun h1 h2=>by
  rw[if_pos h1]at h2;cases h2;rw[if_pos (by rw[A.sh_one];exact h1)];rfl
 cases a with
 | agg l =>
  simp only[A.cells]at h
  split at h
  ·rename_i h1
   cases h
   simp only[A.sh,A.cells]
   rw[if_pos,]
   rw[z2v,List.all_map]
   rw[List.all_eq_true]at h1 ⊢
   exact fun a ha=>by simp only[Function.comp];rw[A.sh_one];exact h1 a ha
  ·cases h
 | any=>simp [A.cells,A.one]at h
 | tup l=>simp [A.cells,A.one]at h
 | v x =>
  simp only[A.cells]at h
  by_cases h1:(A.v x).one=true
  ·exact @key (.v x) cs h1 h
  ·rw[if_neg h1]at h;cases h
 | fn f l=>exact @key (.fn f l) cs rfl h
 | fs w l=>exact @key (.fs w l) cs rfl h
 | fp w l=>exact @key (.fp w l) cs rfl h
 | sl i ver k o m=>exact @key (.sl i ver k o m) cs rfl h
 | lp i ver o=>exact @key (.lp i ver o) cs rfl h
 | vs i ver k m=>exact @key (.vs i ver k m) cs rfl h
theorem y5X{a:A}{cs:List A}(h:a.cl=true)(hc:a.cells=some cs):A.clL cs=true:=by
 cases a<;>simp only[A.cells]at hc<;>(split at hc<;>first|(cases hc;done)|(cases hc;first|exact h|(simp only[A.clL,Bool.and_true];exact h)))
theorem Rel.sh{g g':Bool→Heap}{σ σ':Nam}{n:Nat}(hg:Ext (g true) (g' true))(hs:∀i ver p,σ i ver=some p→σ' (n+i) ver=some p){a:A}{v:Value}(h:Rel g σ a v):a.cl=true→Rel g' σ' (a.sh n) v:=by
 have get:∀{l:List A} {i:Nat} {b:A},(A.shL n l)[i]?=some b→∃a,l[i]?=some a∧b=a.sh n:=fun{l i b} hb=>by
  rw[z2v,List.getElem?_map,Option.map_eq_some_iff]at hb
  obtain⟨a,h1,h2⟩:=hb;exact⟨a,h1,h2.symm⟩
 have len:∀{l:List A},(A.shL n l).length=l.length:=fun{l}=>by rw[z2v];simp
 induction h with
 | any x=>exact fun _=>.any x
 | v x=>exact fun _=>.v x
 | agg l vs hl hr ih=>exact fun hb=>.agg _ vs (len.trans hl) fun i b x h1 h2=>by obtain⟨a,h3,rfl⟩:=get h1;exact ih i a x h3 h2 (zH6.1 hb a (List.mem_of_getElem? h3))
 | tup l vs hl hr ih=>exact fun hb=>.tup _ vs (len.trans hl) fun i b x h1 h2=>by obtain⟨a,h3,rfl⟩:=get h1;exact ih i a x h3 h2 (zH6.1 hb a (List.mem_of_getElem? h3))
 | fn f l vs hl hr ih=>exact fun hb=>.fn f _ vs (len.trans hl) fun i b x h1 h2=>by obtain⟨a,h3,rfl⟩:=get h1;exact ih i a x h3 h2 (zH6.1 hb a (List.mem_of_getElem? h3))
 | fs0 w a c=>exact fun _=>.fs0 w a c
 | fs w l b o c k f hc hl hr ih =>
  intro hb
  simp only[A.cl,Bool.and_eq_true]at hb
  obtain⟨rfl,hb⟩:=hb
  simp only[A.sh]
  have:=Rel.fs (g:=g') (σ:=σ') true (A.shL n l) b o c k f (by rw[len];exact hc) (fun i b' hb'=>?_) (fun i b' cs j q x h1 h2 h3 h4=>?_)
  ·rw[len]at this;exact this
  ·obtain⟨a,h3,rfl⟩:=get hb'
   obtain⟨cs,h4,h5,h6⟩:=hl i a h3
   exact⟨_,A.sh_cells h4,len.trans h5,zz5 hg h6⟩
  ·obtain⟨a,h5,rfl⟩:=get h1
   obtain⟨ca,h6,h7,h8⟩:=hl i a h5
   rw[A.sh_cells h6]at h2;cases h2
   obtain⟨q',h9,rfl⟩:=get h3
   exact ih i a ca j q' x h5 h6 h9 h4 (zH6.1 (y5X (zH6.1 hb a (List.mem_of_getElem? h5)) h6) q' (List.mem_of_getElem? h9))
 | fp w l b o vs hd hr ih =>
  intro hb
  simp only[A.cl,Bool.and_eq_true]at hb
  obtain⟨rfl,hb⟩:=hb
  exact .fp true _ b o vs (by rw[len];exact zz5 hg hd) fun i b x h1 h2=>by obtain⟨a,h3,rfl⟩:=get h1;exact ih i a x h3 h2 (zH6.1 hb a (List.mem_of_getElem? h3))
 | sl i ver k o n' b s o' c hs' hn ho=>exact fun _=>.sl _ ver k o n' b s o' c (hs _ _ _ hs') hn ho
 | lp i ver o b s hs'=>exact fun _=>.lp _ ver o b s (hs _ _ _ hs')
 | vs0 i ver k hs'=>exact fun _=>.vs0 _ ver k (hs _ _ _ hs')
 | vs i ver k n' b s o' c hs' hn ho=>exact fun _=>.vs _ ver k n' b s o' c (hs _ _ _ hs') hn ho
theorem RL.sh{g g':Bool→Heap}{σ σ':Nam}{n:Nat}(hg:Ext (g true) (g' true))(hs:∀i ver p,σ i ver=some p→σ' (n+i) ver=some p){l:List A}{vs:List Value}(h:RL g σ l vs)(hc:A.clL l=true):RL g' σ' (A.shL n l) vs :=
 ⟨by rw[z2v];simpa using h.1,fun i b x h1 h2=>by
  rw[z2v,List.getElem?_map,Option.map_eq_some_iff]at h1
  obtain⟨a,h3,rfl⟩:=h1
  exact(h.2 i a x h3 h2).sh hg hs (zH6.1 hc a (List.mem_of_getElem? h3))⟩
def Blk.sh(n:Nat)(B:Blk):Blk:=⟨B.ver,A.shL n B.cells⟩
theorem VR.lend {P : Program} {kp kp' : Bool} {f : Nat} {args args' : List A} {H : List Blk} {R : A → List Blk → Prop} (hv : VR P kp f args' [] R) (hl : LdL H args args')
    (hcl:∀r G,R r G→r.cl=true∧∀B∈G,A.clL B.cells=true):VR P kp' f args H fun r H'=>∃r0 G,R r0 G∧r=r0.sh H.length∧H'=H++G.map (Blk.sh H.length):=by
  intro c vs hH hs ha
  subst hH
  let c0:Cfg:=⟨yH1 c,fun _ _=>none,[],c.h⟩
  have hs0:St c0:=⟨fun w=>by cases w with
    | true=>exact hs.ext true
    | false=>exact Ext.refl _,fun i B h=>by simp [c0]at h,fun i j B C b s t h=>by simp [c0]at h,fun i ver p h=>by simp [c0]at h⟩
  refine(hv c0 vs rfl hs0 (LdL.rel hl rfl hs ha)).mono ?_
  rintro v h' ⟨_,r0,d0,rfl,h2,h3,h4,h5⟩
  have hext:Ext c.h d0.h:=fun b o hb=>h3.frm b o hb fun i B s h1=>by simp [c0]at h1
  refine⟨fun _=>hext,?_⟩
  have hnew:∀b,c.h b≠none→c.g true b=none→d0.g true b=none:=by
    intro b h6 h7
    cases hg:d0.g true b with
    | none=>rfl
    | some o =>
      rcases h3.new b (by rw[hg];simp)with h8|h8|⟨i,B,s,_,h8,_⟩
      · exact absurd h7 h8
      · exact absurd h8 h6
      · simp [c0]at h8
  have hown:∀j B b s,d0.H[j]?=some B→d0.σ j B.ver=some (some (b,s))→c.h b=none:=by
    intro j B b s h6 h7
    rcases h3.own j B b s h6 h7 with h8|⟨i,C,t,h8,_⟩
    · exact h8
    · simp [c0]at h8
  obtain⟨hc1,hc2⟩:=hcl r0 d0.H h2
  let gd:Bool→Heap:=fun w=>match w with|true=>d0.g true|false=>c.g false
  let σd:Nam:=fun i ver=>if i<c.H.length then c.σ i ver else d0.σ (i-c.H.length) ver
  have hσ1:∀i ver,i<c.H.length→σd i ver=c.σ i ver:=fun i ver hi=>by simp only[σd];rw[if_pos hi]
  have hσ2:∀i ver,σd (c.H.length+i) ver=d0.σ i ver:=fun i ver=>by simp only[σd];rw[if_neg (by omega)];congr 1;omega
  have hlt:∀i ver p,c.σ i ver=some p→i<c.H.length:=fun i ver p hp=>by obtain⟨B,h1,_⟩:=hs.nam i ver p hp;exact(List.getElem?_eq_some_iff.1 h1).1
  have hget:∀i B,(c.H++d0.H.map (Blk.sh c.H.length))[i]?=some B→(i<c.H.length∧c.H[i]?=some B)∨∃j C,i=c.H.length+j∧d0.H[j]?=some C∧B=C.sh c.H.length:=by
    intro i B hi
    by_cases h1:i<c.H.length
    · rw[List.getElem?_append_left h1]at hi;exact .inl ⟨h1,hi⟩
    · rw[List.getElem?_append_right (by omega),List.getElem?_map,Option.map_eq_some_iff]at hi
      obtain⟨C,h6,h7⟩:=hi
      exact .inr ⟨i-c.H.length,C,by omega,h6,h7.symm⟩
  refine⟨r0.sh c.H.length,⟨gd,σd,c.H++d0.H.map (Blk.sh c.H.length),d0.h⟩,rfl,⟨r0,d0.H,h2,rfl,rfl⟩,?_,?_,?_⟩
  · refine⟨rfl,h3.g1,fun b hb=>?_,fun b hb=>?_,fun b o hb _=>hext b o hb,fun i B b s h6 h7=>?_,fun i ver p hi hp=>(hσ1 i ver hi).trans hp,fun hn=>by simp⟩
    · rcases h3.new b hb with h8|h8|⟨i,B,s,_,h8,_⟩
      · exact .inl h8
      · exact .inr (.inl h8)
      · simp [c0]at h8
    · cases hh:c.h b with
      | none=>exact absurd hh hb
      | some o=>rw[hext b o hh];simp
    · rcases hget i B h6 with⟨h8,h9⟩|⟨j,C,rfl,h8,rfl⟩
      · simp only[hσ1 i _ h8]at h7
        exact .inr ⟨i,B,s,h9,h7,.inl rfl⟩
      · simp only[hσ2]at h7
        exact .inl (hown j C b s h8 h7)
  · refine⟨fun w=>?_,fun i B h6=>?_,fun i j B C b s t h6 h7 h8 h9=>?_,fun i ver p hp=>?_⟩
    · cases w with
      | true=>exact h4.ext true
      | false=>exact fun b o hb=>hext b o (hs.ext false b o hb)
    · rcases hget i B h6 with⟨h8,h9⟩|⟨j,C,rfl,h8,rfl⟩
      · rcases hs.blk i B h9 with⟨k1,k2⟩|⟨b,s,vs,z,t,k1,k2,k3,k4,k5⟩
        · exact .inl ⟨(hσ1 i _ h8).trans k1,k2⟩
        refine .inr ⟨b,s,vs,z,t,(hσ1 i _ h8).trans k1,fun w=>?_,hext b _ k3,k4,k5.mono (fun w=>?_) fun i ver p hp=>(hσ1 i ver (hlt i ver p hp)).trans hp⟩
        · cases w with
          | true=>exact hnew b (by rw[k3];simp) (k2 true)
          | false=>exact k2 false
        · cases w with
          | true=>exact h3.g1
          | false=>exact Ext.refl _
      · rcases h4.blk j C h8 with⟨k1,k2⟩|⟨b,s,vs,z,t,k1,k2,k3,k4,k5⟩
        · exact .inl ⟨(hσ2 j _).trans k1,by simp only[Blk.sh,k2];rfl⟩
        refine .inr ⟨b,s,vs,z,t,(hσ2 j _).trans k1,fun w=>?_,k3,k4,RL.sh (g:=d0.g) (g':=gd) (Ext.refl (d0.g true)) (fun i ver p hp=>(hσ2 i ver).trans hp) k5 (hc2 C (List.mem_of_getElem? h8))⟩
        cases w with
        | true=>exact k2 true
        | false=>exact hs.free (hown j C b s h8 k1) false
    · rcases hget i B h6 with⟨e1,e2⟩|⟨i',B',rfl,e2,rfl⟩<;>rcases hget j C h7 with⟨e3,e4⟩|⟨j',C',rfl,e4,rfl⟩
      · simp only[hσ1 i _ e1]at h8;simp only[hσ1 j _ e3]at h9
        exact hs.inj i j B C b s t e2 e4 h8 h9
      · simp only[hσ1 i _ e1]at h8;simp only[hσ2]at h9
        obtain⟨b',s',_,_,_,k1,_,k3,_⟩:=(hs.blk i B e2).resolve_left (fun hx=>by rw[h8]at hx;cases hx.1)
        rw[h8]at k1;cases k1
        rw[hown j' C' b t e4 h9]at k3;cases k3
      · simp only[hσ2]at h8;simp only[hσ1 j _ e3]at h9
        obtain⟨b',s',_,_,_,k1,_,k3,_⟩:=(hs.blk j C e4).resolve_left (fun hx=>by rw[h9]at hx;cases hx.1)
        rw[h9]at k1;cases k1
        rw[hown i' B' b s e2 h8]at k3;cases k3
      · simp only[hσ2]at h8 h9
        have:=h4.inj i' j' B' C' b s t e2 e4 h8 h9
        omega
    · by_cases hi:i<c.H.length
      · simp only[hσ1 i ver hi]at hp
        obtain⟨B,h6,h7⟩:=hs.nam i ver p hp
        exact⟨B,by simp only;rw[List.getElem?_append_left hi];exact h6,h7⟩
      · obtain⟨j,rfl⟩:∃j,i=c.H.length+j:=⟨i-c.H.length,by omega⟩
        simp only[hσ2]at hp
        obtain⟨B,h6,h7⟩:=h4.nam j ver p hp
        exact⟨B.sh c.H.length,by simp only;rw[List.getElem?_append_right (by omega),List.getElem?_map,show c.H.length+j-c.H.length=j by omega,h6];rfl,h7⟩
  · exact Rel.sh (g:=d0.g) (g':=gd) (Ext.refl (d0.g true)) (fun i ver p hp=>(hσ2 i ver).trans hp) h5 hc1
def aset(P:Program)(n0:Nat)(Q:QA)(e:List A)(H:List Blk)(k:S)(i:Nat):A→Prop:=fun a=>k.aw P n0 Q (e.set i a) H
def achk(P:Program)(n0:Nat)(Q:QA)(e:List A)(H:List Blk)(k:S):Unit→Prop:=fun _=>k.aw P n0 Q e H
def aput(P:Program)(n0:Nat)(Q:QA)(e:List A)(d:Option Nat)(k:S):A→List Blk→Prop:=fun a H'=>k.aw P n0 Q (putA e d a) H'
def aret(P:Program)(n0:Nat)(Q:QA)(e:List A)(d:Option Nat)(k:S):A→List Blk→Prop:=fun a H'=>AWP P n0 k Q (putA e d a) H'
def xf8(P:Program)(kp:Bool)(f:Nat)(H:List Blk)(R:A→List Blk→Prop):List A→Prop:=fun l=>VR P kp f l H R
def y1Y(P:Program)(kp:Bool)(as:Option (List A))(H:List Blk)(R:A→List Blk→Prop):A→Prop:=fun fa=>bw as fun l=>∃g caps,fa=.fn g caps∧zs0 P g=true∧VR P kp g (l++caps) H R
def y1Z(P:Program)(kp:Bool)(g:Nat)(caps:List A)(H:List Blk)(R:A→List Blk→Prop):List A→Prop:=fun l=>zs0 P g=true∧VR P kp g (l++caps) H R
def aif(P:Program)(n0:Nat)(Q:QA)(e:List A)(H:List Blk)(a b:S):Bool→Prop:=fun t=>match t with|true=>a.aw P n0 Q e H|false=>b.aw P n0 Q e H
def sqA(P:Program)(n0:Nat)(b:S)(Q:QA):QA:=fun x e H=>match x with | .nxt=>b.aw P n0 Q e H|x=>Q x e H
def bkA(id:Nat)(Q:QA):QA:=fun x e H=>match x with | .exit i=>if i=id then Q .nxt e H else Q (.exit i) e H|x=>Q x e H
def abox(H:List Blk)(R:A→List Blk→Prop):List A→Prop:=fun cs=>R (.lp H.length 0 0) (H++[⟨0,cs⟩])
def amk(size:Nat)(z:List Value)(H:List Blk)(R:A→List Blk→Prop):Int→Int→Prop:=fun li _=>z.length=size∧R (.sl H.length 0 size 0 li.toNat) (H++[⟨0,repA li.toNat (z.map .v)⟩])
def alit(size len:Nat)(z:List Value)(H:List Blk)(R:A→List Blk→Prop):List A→Prop:=fun cs=>z.length=size∧R (.sl H.length 0 size 0 len) (H++[⟨0,cs⟩])
def aapp(kp:Bool)(H:List Blk)(size bytes:Nat)(R:A→List Blk→Prop)(sa:A):Nat×List A→Prop:=fun p=>appA kp H size bytes p.1 p.2 R sa
def acpy(H:List Blk)(size:Nat)(R:A→List Blk→Prop)(da:A):Nat×List A→Prop:=fun p=>cpyA H size p.1 p.2 R da
def aclr(H:List Blk)(z:List Value)(R:A→List Blk→Prop):A→Prop:=fun sa=>clrA H z R sa
def xf9(i ver o n:Nat)(z:List Value)(H:List Blk)(R:A→List Blk→Prop):List A→Prop:=fun l=>o+n*z.length≤l.length∧R (.v undef) (H.set i ⟨ver,splA l o (repA n (z.map .v))⟩)
def ast(H:List Blk)(n:Nat)(R:A→List Blk→Prop)(pa:A):List A→Prop:=fun cs=>cs.length=n∧stA H cs R pa
def astl(i ver o:Nat)(H:List Blk)(cs:List A)(R:A→List Blk→Prop):List A→Prop:=fun l=>o+cs.length≤l.length∧R (.v undef) (H.set i ⟨ver,splA l o cs⟩)
def xg0(i ver n m size:Nat)(H:List Blk)(news:List A)(R:A→List Blk→Prop):List A→Prop:=fun cs=>n*size≤cs.length∧R (.sl i (ver+1) size 0 (n+m)) (H.set i ⟨ver+1,cs.take (n*size)++news⟩)
def xg1(i ver o n m size:Nat)(H:List Blk)(news:List A)(R:A→List Blk→Prop):List A→Prop:=fun l=>o+n*size≤l.length∧R (.v (.int .i64 (min m n:Nat))) (H.set i ⟨ver,splA l o (news.take (min m n*size))⟩)
def yH2(n0:Nat)(H:List Blk)(R:A→List Blk→Prop):List A→Prop:=fun l=>∃r H',Cut n0 [retA l] H [r] H'∧R r H'
def gd(p X:Prop):Prop:=p∧X
theorem y65(p X:Prop)(h:p):gd p X=X:=by simp [gd,h]
theorem y10(X:Prop):gd True X=X:=by simp [gd]
theorem za0{p q X:Prop}(h:p=q):gd p X=gd q X:=by rw[h]
def ifo{α:Type}(p:Prop)[Decidable p](a:α):Option α:=if p then some a else none
theorem y11{α:Type}(p:Prop)[Decidable p](a:α)(h:p):ifo p a=some a:=by simp [ifo,h]
theorem yP0{α:Type}[Decidable True](a:α):ifo True a=some a:=by simp [ifo]
def cnd{α:Type}(b:Bool)(a:α):Option α:=if b=true then some a else none
theorem yP1{α:Type}(a:α):cnd true a=some a:=rfl
def ck(o:Option A)(K:Unit→Prop):Prop:=o≠none∧K ()
def iwA(x:Option A)(K:Bool→Prop):Prop:=∃t,x=some (.v (.bool t))∧K t
theorem za1{x y:Option A}{K:Unit→Prop}(h:x=y):ck x K=ck y K:=by rw[h]
theorem Z9{x y:Option A}{K:Bool→Prop}(h:x=y):iwA x K=iwA y K:=by rw[h]
theorem Y0{x y a b:Option A}(h:x=y):itA x a b=itA y a b:=by rw[h]
theorem za2{P:Program}{n0:Nat}{s:S}{Q:QA}{e e':List A}{H H':List Blk}(h1:e=e')(h2:H=H'):S.aw P n0 s Q e H=S.aw P n0 s Q e' H':=by rw[h1,h2]
theorem Y2{P:Program}{n0:Nat}{s:S}{Q:QA}{e e':List A}{H H':List Blk}(h1:e=e')(h2:H=H'):AWP P n0 s Q e H=AWP P n0 s Q e' H':=by rw[h1,h2]
theorem Y3{P:Program}{n0:Nat}{s:S}{Q:QA}{x x':Ex}{e e':List A}{H H':List Blk}(h0:x=x')(h1:e=e')(h2:H=H'):sqA P n0 s Q x e H=sqA P n0 s Q x' e' H':=by rw[h0,h1,h2]
theorem Y4{i:Nat}{Q:QA}{x x':Ex}{e e':List A}{H H':List Blk}(h0:x=x')(h1:e=e')(h2:H=H'):bkA i Q x e H=bkA i Q x' e' H':=by rw[h0,h1,h2]
theorem za3{P:Program}{kp:Bool}{f:Nat}{as as':List A}{H H':List Blk}{R:A→List Blk→Prop}(h1:as=as')(h2:H=H'):VR P kp f as H R=VR P kp f as' H' R:=by rw[h1,h2]
theorem xg2(P:Program)(n0:Nat)(Q:QA)(e:List A)(H:List Blk):(S.nxt).aw P n0 Q e H=Q .nxt e H:=rfl
theorem y66(P:Program)(n0:Nat)(Q:QA)(e:List A)(H:List Blk)(i:Nat):(S.exit i).aw P n0 Q e H=Q (.exit i) e H:=rfl
theorem xg3(P:Program)(n0:Nat)(Q:QA)(e:List A)(H:List Blk):(S.ret).aw P n0 Q e H=Q .ret e H:=rfl
theorem xg4(P:Program)(n0:Nat)(Q:QA)(e:List A)(H:List Blk)(i:Nat)(x:X)(k:S):(S.set i x k).aw P n0 Q e H=bw (x.av e H) (aset P n0 Q e H k i):=rfl
theorem xg5(P:Program)(n0:Nat)(Q:QA)(e:List A)(H:List Blk)(x:X)(k:S):(S.chk x k).aw P n0 Q e H=ck (x.av e H) (achk P n0 Q e H k):=by
 unfold ck achk
 apply propext
 constructor
 ·rintro⟨a,h1,h2⟩;exact⟨by rw[h1];simp,h2⟩
 ·rintro⟨h1,h2⟩
  cases hx:x.av e H with
  | none=>exact absurd hx h1
  | some a=>exact⟨a,hx,h2⟩
theorem xg6(P:Program)(n0:Nat)(Q:QA)(e:List A)(H:List Blk)(c:X)(a b:S):(S.ite c a b).aw P n0 Q e H=iwA (c.av e H) (aif P n0 Q e H a b):=rfl
theorem y67(P:Program)(n0:Nat)(Q:QA)(e:List A)(H:List Blk)(a b:S):(S.both a b).aw P n0 Q e H=(a.aw P n0 Q e H∧b.aw P n0 Q e H):=rfl
theorem xg7(P:Program)(n0:Nat)(Q:QA)(e:List A)(H:List Blk)(a b:S):(S.seq a b).aw P n0 Q e H=a.aw P n0 (sqA P n0 b Q) e H:=rfl
theorem xg8(P:Program)(n0:Nat)(Q:QA)(e:List A)(H:List Blk)(id:Nat)(a:S):(S.blk id a).aw P n0 Q e H=a.aw P n0 (bkA id Q) e H:=rfl
theorem y68(P:Program)(n0:Nat)(Q:QA)(e:List A)(H:List Blk)(a:S):(S.loop a).aw P n0 Q e H=AWP P n0 (.loop a) Q e H:=rfl
theorem y69(P:Program)(n0:Nat)(Q:QA)(e:List A)(H:List Blk)(kp:Bool)(d:Option Nat)(f:Nat)(as:X)(k:S):(S.call kp d f as k).aw P n0 Q e H=bw (as.avs e H) (xf8 P kp f H (aret P n0 Q e d k)):=rfl
theorem y12(P:Program)(n0:Nat)(Q:QA)(e:List A)(H:List Blk)(kp:Bool)(d:Option Nat)(f as:X)(k:S):(S.callv kp d f as k).aw P n0 Q e H=bw (f.av e H) (y1Y P kp (as.avs e H) H (aret P n0 Q e d k)):=rfl
theorem yu5(P:Program)(kp:Bool)(as:Option (List A))(H:List Blk)(R:A→List Blk→Prop)(g:Nat)(caps:List A):y1Y P kp as H R (.fn g caps)=bw as (y1Z P kp g caps H R):=by
 unfold y1Y y1Z bw
 apply propext
 constructor
 ·rintro⟨l,h1,g',c',h2,h3,h4⟩;cases h2;exact⟨l,h1,h3,h4⟩
 ·rintro⟨l,h1,h3,h4⟩;exact⟨l,h1,g,caps,rfl,h3,h4⟩
theorem y13(P:Program)(n0:Nat)(Q:QA)(e:List A)(H:List Blk)(kp:Bool)(d:Option Nat)(t:Nat)(z:List Value)(k:S):(S.eff kp d (.alloc t z) k).aw P n0 Q e H=aput P n0 Q e d k (.lp H.length 0 0) (H++[⟨0,z.map .v⟩]):=rfl
theorem xg9(P:Program)(n0:Nat)(Q:QA)(e:List A)(H:List Blk)(kp:Bool)(d:Option Nat)(t:Nat)(x:X)(k:S):(S.eff kp d (.box t x) k).aw P n0 Q e H=bw (ob (x.av e H) A.cells) (abox H (aput P n0 Q e d k)):=by
 unfold ob
 simp only[S.aw,E.aw,bw,abox,aput,eq_iff_iff,Option.bind_eq_some_iff]
 constructor
 ·rintro⟨a,h1,cs,h2,h3⟩;exact⟨cs,⟨a,h1,h2⟩,h3⟩
 ·rintro⟨cs,⟨a,h1,h2⟩,h3⟩;exact⟨a,h1,cs,h2,h3⟩
theorem a_mk(P:Program)(n0:Nat)(Q:QA)(e:List A)(H:List Blk)(kp:Bool)(d:Option Nat)(t size bytes:Nat)(z:List Value)(l c:X)(k:S):(S.eff kp d (.mk t size bytes z l c) k).aw P n0 Q e H=bw (l.av e H) fun la=>bw (c.av e H) fun ca=>mkA la ca bytes (amk size z H (aput P n0 Q e d k)):=rfl
theorem y14(kl kc:IntKind)(li ci:Int)(bytes:Nat)(K:Int→Int→Prop)(h1:0≤li)(h2:li≤ci)(h3:(bytes:Int)*ci≤281474976710656)(h4:ci≤9223372036854775807):mkA (.v (.int kl li)) (.v (.int kc ci)) bytes K=K li ci:=by
 apply propext
 constructor
 ·rintro⟨_,_,_,_,e1,e2,_,_,_,_,hk⟩;cases e1;cases e2;exact hk
 ·exact fun hk=>⟨_,_,_,_,rfl,rfl,h1,h2,h3,h4,hk⟩
def repL(n:Nat)(z:List A):List A:=repA n z
theorem xh0(P:Program)(n0:Nat)(Q:QA)(e:List A)(H:List Blk)(kp:Bool)(d:Option Nat)(t size len:Nat)(z:List Value)(ps:X)(k:S):(S.eff kp d (.lit t size len z ps) k).aw P n0 Q e H=bw (ob (ps.avp e H) (z5h (repL len (z.map .v)))) (alit size len z H (aput P n0 Q e d k)):=by
 unfold ob repL
 simp only[S.aw,E.aw,bw,alit,aput,eq_iff_iff,Option.bind_eq_some_iff]
 constructor
 ·rintro⟨a,h1,cs,h2,h3⟩;exact⟨cs,⟨a,h1,h2⟩,h3⟩
 ·rintro⟨cs,⟨a,h1,h2⟩,h3⟩;exact⟨a,h1,cs,h2,h3⟩
theorem xh1(P:Program)(n0:Nat)(Q:QA)(e:List A)(H:List Blk)(kp:Bool)(d:Option Nat)(t size bytes:Nat)(z:List Value)(s x:X)(k:S):(S.eff kp d (.app t size bytes z s x) k).aw P n0 Q e H=bw (s.av e H) fun sa=>bw (ob (x.av e H) (zz6 H size)) (aapp kp H size bytes (aput P n0 Q e d k) sa):=by
 unfold ob
 simp only[S.aw,E.aw,bw,aapp,aput,eq_iff_iff,Option.bind_eq_some_iff]
 constructor
 ·rintro⟨sa,h0,a,h1,cs,h2,h3⟩;exact⟨sa,h0,cs,⟨a,h1,h2⟩,h3⟩
 ·rintro⟨sa,h0,cs,⟨a,h1,h2⟩,h3⟩;exact⟨sa,h0,a,h1,cs,h2,h3⟩
theorem xh2(P:Program)(n0:Nat)(Q:QA)(e:List A)(H:List Blk)(d:Option Nat)(size:Nat)(s x:X)(k:S):(S.eff false d (.cpy size s x) k).aw P n0 Q e H=bw (s.av e H) fun sa=>bw (ob (x.av e H) (zz6 H size)) (acpy H size (aput P n0 Q e d k) sa):=by
 unfold ob
 simp only[S.aw,E.aw,bw,acpy,aput,eq_iff_iff,Option.bind_eq_some_iff,true_and]
 constructor
 ·rintro⟨sa,h0,a,h1,cs,h2,h3⟩;exact⟨sa,h0,cs,⟨a,h1,h2⟩,h3⟩
 ·rintro⟨sa,h0,cs,⟨a,h1,h2⟩,h3⟩;exact⟨sa,h0,a,h1,cs,h2,h3⟩
theorem a_st(P:Program)(n0:Nat)(Q:QA)(e:List A)(H:List Blk)(d:Option Nat)(n:Nat)(p v:X)(k:S):(S.eff false d (.st n p v) k).aw P n0 Q e H=bw (p.av e H) fun pa=>bw (ob (v.av e H) A.cells) (ast H n (aput P n0 Q e d k) pa):=by
 unfold ob
 simp only[S.aw,E.aw,bw,ast,aput,eq_iff_iff,Option.bind_eq_some_iff,true_and]
 constructor
 ·rintro⟨sa,h0,a,h1,cs,h2,h3⟩;exact⟨sa,h0,cs,⟨a,h1,h2⟩,h3⟩
 ·rintro⟨sa,h0,cs,⟨a,h1,h2⟩,h3⟩;exact⟨sa,h0,a,h1,cs,h2,h3⟩
theorem xh3(P:Program)(n0:Nat)(Q:QA)(e:List A)(H:List Blk)(d:Option Nat)(z:List Value)(s:X)(k:S):(S.eff false d (.clr z s) k).aw P n0 Q e H=gd (z.all Lft.one=true) (bw (s.av e H) (aclr H z (aput P n0 Q e d k))):=by
 unfold gd
 simp only[S.aw,E.aw,true_and];rfl
theorem y15(H:List Blk)(z:List Value)(R:A→List Blk→Prop)(i ver k o n:Nat):aclr H z R (.sl i ver k o n)=gd (k=z.length) (bw (blkAt H i ver) (xf9 i ver o n z H R)):=rfl
theorem yP2(i ver o n:Nat)(z:List Value)(H:List Blk)(R:A→List Blk→Prop)(l:List A):xf9 i ver o n z H R l=gd (o+n*z.length≤l.length) (R (.v undef) (H.set i ⟨ver,splA l o (repL n (z.map .v))⟩)):=rfl
theorem y16(P:Program)(n0:Nat)(Q:QA)(e:List A)(H:List Blk)(k:S)(i:Nat)(a:A):aset P n0 Q e H k i a=k.aw P n0 Q (e.set i a) H:=rfl
theorem y17(P:Program)(n0:Nat)(Q:QA)(e:List A)(H:List Blk)(k:S):achk P n0 Q e H k ()=k.aw P n0 Q e H:=rfl
theorem yu6(P:Program)(n0:Nat)(Q:QA)(e:List A)(i:Nat)(k:S)(a:A)(H:List Blk):aput P n0 Q e (some i) k a H=k.aw P n0 Q (e.set i a) H:=rfl
theorem yu7(P:Program)(n0:Nat)(Q:QA)(e:List A)(k:S)(a:A)(H:List Blk):aput P n0 Q e none k a H=k.aw P n0 Q e H:=rfl
theorem yu8(P:Program)(n0:Nat)(Q:QA)(e:List A)(i:Nat)(k:S)(a:A)(H:List Blk):aret P n0 Q e (some i) k a H=AWP P n0 k Q (e.set i a) H:=rfl
theorem yu9(P:Program)(n0:Nat)(Q:QA)(e:List A)(k:S)(a:A)(H:List Blk):aret P n0 Q e none k a H=AWP P n0 k Q e H:=rfl
theorem yP3(P:Program)(kp:Bool)(f:Nat)(H:List Blk)(R:A→List Blk→Prop)(l:List A):xf8 P kp f H R l=VR P kp f l H R:=rfl
theorem yv0(P:Program)(kp:Bool)(g:Nat)(caps:List A)(H:List Blk)(R:A→List Blk→Prop)(l:List A):y1Z P kp g caps H R l=(zs0 P g=true∧VR P kp g (l++caps) H R):=rfl
theorem yP4(P:Program)(n0:Nat)(Q:QA)(e:List A)(H:List Blk)(a b:S):aif P n0 Q e H a b true=a.aw P n0 Q e H:=rfl
theorem yv1(P:Program)(n0:Nat)(Q:QA)(e:List A)(H:List Blk)(a b:S):aif P n0 Q e H a b false=b.aw P n0 Q e H:=rfl
theorem y18(P:Program)(n0:Nat)(b:S)(Q:QA)(e:List A)(H:List Blk):sqA P n0 b Q .nxt e H=b.aw P n0 Q e H:=rfl
theorem yP5(P:Program)(n0:Nat)(b:S)(Q:QA)(e:List A)(H:List Blk)(i:Nat):sqA P n0 b Q (.exit i) e H=Q (.exit i) e H:=rfl
theorem y19(P:Program)(n0:Nat)(b:S)(Q:QA)(e:List A)(H:List Blk):sqA P n0 b Q .ret e H=Q .ret e H:=rfl
theorem y2a(id:Nat)(Q:QA)(e:List A)(H:List Blk):bkA id Q .nxt e H=Q .nxt e H:=rfl
theorem y2b(id:Nat)(Q:QA)(e:List A)(H:List Blk):bkA id Q .ret e H=Q .ret e H:=rfl
theorem yP6(id:Nat)(Q:QA)(e:List A)(H:List Blk):bkA id Q (.exit id) e H=Q .nxt e H:=by simp [bkA]
theorem yv2(id i:Nat)(Q:QA)(e:List A)(H:List Blk)(hne:i≠id):bkA id Q (.exit i) e H=Q (.exit i) e H:=by
 simp only[bkA];rw[if_neg hne]
theorem y2c{α:Type}(n0:Nat)(I:α→Prop)(env:α→List A)(mem:α→List Blk)(m:α→Nat)(n:Nat)(Q:QA)(e:List A)(H:List Blk):lgA n0 I env mem m n Q .nxt e H=∃a,I a∧m a<n∧Cut n0 e H (env a) (mem a):=rfl
theorem yP7{α:Type}(n0:Nat)(I:α→Prop)(env:α→List A)(mem:α→List Blk)(m:α→Nat)(n:Nat)(Q:QA)(e:List A)(H:List Blk)(i:Nat):lgA n0 I env mem m n Q (.exit i) e H=Q (.exit i) e H:=rfl
theorem y2d{α:Type}(n0:Nat)(I:α→Prop)(env:α→List A)(mem:α→List Blk)(m:α→Nat)(n:Nat)(Q:QA)(e:List A)(H:List Blk):lgA n0 I env mem m n Q .ret e H=Q .ret e H:=rfl
theorem yv3(n0:Nat)(F:Fun)(R:A→List Blk→Prop)(e:List A)(H:List Blk):z8b n0 F R .ret e H=bw (resA e H F.res) (yH2 n0 H R):=rfl
theorem yv4(n0:Nat)(F:Fun)(R:A→List Blk→Prop)(e:List A)(H:List Blk):z8b n0 F R .nxt e H=bw (resA e H F.res) (yH2 n0 H R):=rfl
theorem yP8(e:List A)(H:List Blk):resA e H []=some []:=rfl
theorem yv5(e:List A)(H:List Blk)(x:X)(r:List X):resA e H (x :: r)=ob (x.av e H) fun v=>ob (resA e H r) fun l=>some (v :: l):=rfl
theorem yP9(a:A):retA [a]=a:=rfl
theorem yQ0(a b:A):retA [a,b]=.tup [a,b]:=rfl
theorem yh0(a b c:A):retA [a,b,c]=.tup [a,b,c]:=rfl
theorem yv6(a b c d:A):retA [a,b,c,d]=.tup [a,b,c,d]:=rfl
theorem yQ1:retA []=.tup []:=rfl
theorem y2e(a:A)(K:Unit→Prop):ck (some a) K=K ():=by simp [ck]
theorem y7a(t:Bool)(a b:A)(K:Unit→Prop):ck (itA (some (.v (.bool t))) (some a) (some b)) K=K ():=by cases t<;>simp [ck,itA]
theorem yQ2(t:Bool)(K:Bool→Prop):iwA (some (.v (.bool t))) K=ib t K:=by
 unfold iwA ib;simp
theorem y2f(H:List Blk)(R:A→List Blk→Prop)(cs:List A):abox H R cs=R (.lp H.length 0 0) (H++[⟨0,cs⟩]):=rfl
theorem y7b(size:Nat)(z:List Value)(H:List Blk)(R:A→List Blk→Prop)(li ci:Int):amk size z H R li ci=gd (z.length=size) (R (.sl H.length 0 size 0 li.toNat) (H++[⟨0,repA li.toNat (z.map .v)⟩])):=rfl
theorem y2g(size len:Nat)(z:List Value)(H:List Blk)(R:A→List Blk→Prop)(cs:List A):alit size len z H R cs=gd (z.length=size) (R (.sl H.length 0 size 0 len) (H++[⟨0,cs⟩])):=rfl
theorem y2h(kp:Bool)(H:List Blk)(size bytes:Nat)(R:A→List Blk→Prop)(sa:A)(m:Nat)(news:List A):aapp kp H size bytes R sa (m,news)=appA kp H size bytes m news R sa:=rfl
theorem y2i(H:List Blk)(size:Nat)(R:A→List Blk→Prop)(sa:A)(m:Nat)(news:List A):acpy H size R sa (m,news)=cpyA H size m news R sa:=rfl
theorem y7c(H:List Blk)(n:Nat)(R:A→List Blk→Prop)(pa:A)(cs:List A):ast H n R pa cs=gd (cs.length=n) (stA H cs R pa):=rfl
theorem y7d(H:List Blk)(cs:List A)(R:A→List Blk→Prop)(i ver o:Nat):stA H cs R (.lp i ver o)=bw (blkAt H i ver) (astl i ver o H cs R):=rfl
theorem y2j(i ver o:Nat)(H:List Blk)(cs:List A)(R:A→List Blk→Prop)(l:List A):astl i ver o H cs R l=gd (o+cs.length≤l.length) (R (.v undef) (H.set i ⟨ver,splA l o cs⟩)):=rfl
theorem y2k(H:List Blk)(size bytes m:Nat)(news:List A)(R:A→List Blk→Prop)(i ver n:Nat)(h1:(n+m)*bytes≤140737488355328)(h2:n+m≤9223372036854775807):appA false H size bytes m news R (.sl i ver size 0 n)=bw (blkAt H i ver) (xg0 i ver n m size H news R):=by
 simp only[appA,h1,h2,true_and];rfl
def xh4(i ver n m size:Nat)(H:List Blk)(news:List A)(R:A→List Blk→Prop):List A→Prop:=fun cs=>n*size≤cs.length∧R (.vs i (ver+1) size (n+m)) (H.set i ⟨ver+1,cs.take (n*size)++news⟩)
theorem y2l(H:List Blk)(size bytes m:Nat)(news:List A)(R:A→List Blk→Prop)(i ver n:Nat)(h1:(n+m)*bytes≤140737488355328)(h2:n+m≤9223372036854775807):appA false H size bytes m news R (.vs i ver size n)=bw (blkAt H i ver) (xh4 i ver n m size H news R):=by
 simp only[appA,h1,h2,true_and];rfl
theorem yQ3(i ver n m size:Nat)(H:List Blk)(news:List A)(R:A→List Blk→Prop)(cs:List A):xh4 i ver n m size H news R cs=gd (n*size≤cs.length) (R (.vs i (ver+1) size (n+m)) (H.set i ⟨ver+1,cs.take (n*size)++news⟩)):=rfl
theorem yQ4(kp:Bool)(H:List Blk)(size bytes m:Nat)(news:List A)(R:A→List Blk→Prop)(h0:0<m)(h1:m*bytes≤140737488355328)(h2:m≤9223372036854775807):appA kp H size bytes m news R (.v (.slice none 0 0))=R (.sl H.length 0 size 0 m) (H++[⟨0,news⟩]):=by
 simp [appA,h1,h2,h0,Nat.pos_iff_ne_zero.1 h0]
theorem yv7(kp:Bool)(H:List Blk)(size bytes m:Nat)(news:List A)(R:A→List Blk→Prop)(h0:m=0):appA kp H size bytes m news R (.v (.slice none 0 0))=R (.v (.slice none 0 0)) H:=by
 subst h0;simp [appA]
theorem yQ5(i ver n m size:Nat)(H:List Blk)(news:List A)(R:A→List Blk→Prop)(cs:List A):xg0 i ver n m size H news R cs=gd (n*size≤cs.length) (R (.sl i (ver+1) size 0 (n+m)) (H.set i ⟨ver+1,cs.take (n*size)++news⟩)):=rfl
theorem y2m(H:List Blk)(size m:Nat)(news:List A)(R:A→List Blk→Prop)(i ver o n:Nat):cpyA H size m news R (.sl i ver size o n)=bw (blkAt H i ver) (xg1 i ver o n m size H news R):=by
 simp only[cpyA,true_and];rfl
theorem yQ6(i ver o n m size:Nat)(H:List Blk)(news:List A)(R:A→List Blk→Prop)(l:List A):xg1 i ver o n m size H news R l=gd (o+n*size≤l.length) (R (.v (.int .i64 (min m n:Nat))) (H.set i ⟨ver,splA l o (news.take (min m n*size))⟩)):=rfl
def nthc(o:Nat)(l:List A):Option A:=nthA l o
def ldac(n o:Nat)(l:List A):Option A:=if o+n≤l.length then some (.agg ((l.drop o).take n))else none
theorem xh5(e:List A)(H:List Blk)(i:Nat):(X.var i).av e H=some (e.getD i .any):=rfl
theorem xh6(e:List A)(H:List Blk)(v:Value):(X.lit v).av e H=some (z29 v):=rfl
theorem xh7(e:List A)(H:List Blk)(a:X):(X.u .len a).av e H=ob (a.av e H) lenA:=rfl
theorem y7e(e:List A)(H:List Blk)(a:X):(X.u .nilc a).av e H=ob (a.av e H) yG7:=rfl
theorem xh8(e:List A)(H:List Blk)(n:Nat)(a:X):(X.u (.fld n) a).av e H=ob (a.av e H) (fldA n):=rfl
theorem xh9(e:List A)(H:List Blk)(a:X):(X.u .ld1 a).av e H=ob (a.av e H) (ldA H):=rfl
theorem xi0(e:List A)(H:List Blk)(n:Nat)(a:X):(X.u (.lda n) a).av e H=ob (a.av e H) (ldaA n H):=rfl
theorem v_un(e:List A)(H:List Blk)(op:UnOp)(a:X):(X.u (.un op) a).av e H=ob (a.av e H) (s1A (.un op)):=rfl
theorem y7f(e:List A)(H:List Blk)(k:IntKind)(a:X):(X.u (.conv k) a).av e H=ob (a.av e H) (s1A (.conv k)):=rfl
theorem xi1(e:List A)(H:List Blk)(n:Nat)(a:X):(X.u (.prt n) a).av e H=ob (a.av e H) (prtA n):=rfl
theorem y7g(e:List A)(H:List Blk)(n k:Nat)(a:X):(X.u (.prta n k) a).av e H=ob (a.av e H) (y5P n k):=rfl
theorem xi2(e:List A)(H:List Blk)(n:Nat)(a:X):(X.u (.ext n) a).av e H=ob (a.av e H) (extA n):=rfl
theorem xi3(e:List A)(H:List Blk)(op:BinOp)(a c:X):(X.b (.bin op) a c).av e H=ob (a.av e H) fun x=>ob (c.av e H) fun y=>s2A (.bin op) x y:=rfl
theorem xi4(e:List A)(H:List Blk)(g:Bool)(a c:X):(X.b (.eqb g) a c).av e H=ob (a.av e H) fun x=>ob (c.av e H) fun y=>s2A (.eqb g) x y:=rfl
theorem v_mx(e:List A)(H:List Blk)(a c:X):(X.b .mx a c).av e H=ob (a.av e H) fun x=>ob (c.av e H) fun y=>s2A .mx x y:=rfl
theorem v_mn(e:List A)(H:List Blk)(a c:X):(X.b .mn a c).av e H=ob (a.av e H) fun x=>ob (c.av e H) fun y=>s2A .mn x y:=rfl
theorem xi5(e:List A)(H:List Blk)(g:Bool)(a c:X):(X.b (.eqp g) a c).av e H=ob (a.av e H) fun x=>ob (c.av e H) fun y=>eqpA g x y:=rfl
theorem xi6(e:List A)(H:List Blk)(g:Bool)(a c:X):(X.b (.eqs g) a c).av e H=ob (a.av e H) fun x=>ob (c.av e H) fun y=>eqsA g x y:=rfl
theorem xi7(e:List A)(H:List Blk)(g:Bool)(a c:X):(X.b (.eqf g) a c).av e H=ob (a.av e H) fun x=>ob (c.av e H) fun y=>eqfA g x y:=rfl
theorem xi8(e:List A)(H:List Blk)(n:Nat)(g:Bool)(a c:X):(X.b (.eqi n g) a c).av e H=ob (a.av e H) fun x=>ob (c.av e H) fun y=>eqiA n g x y:=rfl
theorem xi9(e:List A)(H:List Blk)(n:Nat)(a c:X):(X.b (.idx n) a c).av e H=ob (a.av e H) fun x=>ob (c.av e H) fun y=>idxA n x y:=rfl
theorem y7h(e:List A)(H:List Blk)(m n:Nat)(a c:X):(X.b (.idxa m n) a c).av e H=ob (a.av e H) fun x=>ob (c.av e H) fun y=>yu1 m n x y:=rfl
theorem xj0(e:List A)(H:List Blk)(m n:Nat)(g:Bool)(a c:X):(X.b (.ixv m n g) a c).av e H=ob (a.av e H) fun x=>ob (c.av e H) fun y=>ixvA m n g x y:=rfl
theorem xj1(e:List A)(H:List Blk)(c a d:X):(X.ite c a d).av e H=itA (c.av e H) (a.av e H) (d.av e H):=rfl
theorem xj2(e:List A)(H:List Blk)(arr:Option Nat)(n:Nat)(a lo hi:X):(X.slc arr n a lo hi .nl).av e H=ob (a.av e H) fun x=>ob (lo.av e H) fun l=>ob (hi.av e H) fun u=>slcA H arr n x l u none:=rfl
theorem y7i(e:List A)(H:List Blk)(arr:Option Nat)(n:Nat)(a lo hi:X)(i:Nat):(X.slc arr n a lo hi (.var i)).av e H=ob (a.av e H) fun x=>ob (lo.av e H) fun l=>ob (hi.av e H) fun u=>slcA H arr n x l u (some (e.getD i .any)):=rfl
theorem v_fn(e:List A)(H:List Blk)(f:Nat)(c:X):(X.fn f c).av e H=ob (c.avs e H) fun vs=>some (.fn f vs):=rfl
theorem xj3(e:List A)(H:List Blk)(z:List Value)(p:X):(X.bld z p).av e H=ob (p.avp e H) fun vs=>ob (z5h (z.map .v) vs) fun cs=>some (.agg cs):=rfl
theorem xj4(e:List A)(H:List Blk):(X.nl).avs e H=some []:=rfl
theorem xj5(e:List A)(H:List Blk)(a r:X):(X.cn a r).avs e H=ob (a.av e H) fun x=>ob (r.avs e H) fun xs=>some (x :: xs):=rfl
theorem xj6(e:List A)(H:List Blk):(X.nl).avp e H=some []:=rfl
def plc(off size:Nat)(x:A)(r:Option (List (Nat×A))):List A→Option (List (Nat×A)):=fun cs=>if cs.length=size then ob r fun xs=>some ((off,x) :: xs)else none
theorem xj7(e:List A)(H:List Blk)(off size:Nat)(a r:X):(X.pl off size a r).avp e H=ob (a.av e H) fun x=>ob x.cells (plc off size x (r.avp e H)):=rfl
theorem y7j(off size:Nat)(x:A)(r:Option (List (Nat×A)))(cs:List A):plc off size x r cs=ob (ifo (cs.length=size) ()) fun _=>ob r fun xs=>some ((off,x) :: xs):=by
 unfold plc ifo;split<;>rfl
theorem yQ7(k:IntKind)(n:Int):z29 (.int k n)=.v (.int k n):=rfl
theorem yv8(b:Bool):z29 (.bool b)=.v (.bool b):=rfl
theorem yQ8(a:Option Addr):z29 (.pointer a)=.v (.pointer a):=rfl
theorem yh1(a:Option Addr)(n c:Nat):z29 (.slice a n c)=.v (.slice a n c):=rfl
theorem y2n(f:Nat):z29 (.func (.func f) #[] #[])=.fn f []:=rfl
theorem yh2:z29 undef=.v undef:=rfl
theorem yQ9(cs:Array Value):z29 (.agg cs)=.v (.agg cs):=rfl
theorem yh3(cs:Array Value):z29 (.tuple cs)=.v (.tuple cs):=rfl
theorem yR0(s:ByteArray):z29 (.string s)=.v (.string s):=rfl
theorem y7k(w:Bool)(l:List A):lenA (.fs w l)=some (.v (.int .i64 l.length)):=rfl
theorem y7l(i ver k o n:Nat):lenA (.sl i ver k o n)=some (.v (.int .i64 n)):=rfl
theorem y7m(i ver k n:Nat):lenA (.vs i ver k n)=some (.v (.int .i64 n)):=rfl
theorem y2o:lenA (.v (.slice none 0 0))=some (.v (.int .i64 0)):=rfl
theorem y2p(i ver o:Nat):yG7 (.lp i ver o)=some (.lp i ver o):=rfl
theorem y2q(w:Bool)(l:List A):yG7 (.fp w l)=some (.fp w l):=rfl
theorem yR1(f:Nat)(l:List A):yG7 (.fn f l)=some (.fn f l):=rfl
theorem y7n(i ver o n:Nat):fldA n (.lp i ver o)=some (.lp i ver (o+n)):=rfl
theorem y2r(w:Bool)(l:List A):fldA 0 (.fp w l)=some (.fp w l):=by simp [fldA]
theorem y2s(w:Bool)(a:A)(l:List A)(n:Nat):fldA (n+1) (.fp w (a :: l))=fldA n (.fp w l):=by simp [fldA]
theorem xj8(H:List Blk)(w:Bool)(l:List A):ldA H (.fp w l)=nthA l 0:=rfl
theorem xj9(H:List Blk)(i ver o:Nat):ldA H (.lp i ver o)=ob (blkAt H i ver) (nthc o):=rfl
theorem y2t(o:Nat)(l:List A):nthc o l=nthA l o:=rfl
theorem yv9(a:A)(l:List A):nthA (a :: l) 0=some a:=rfl
theorem yw0(a:A)(l:List A)(n:Nat):nthA (a :: l) (n+1)=nthA l n:=rfl
theorem y7o(H:List Blk)(n i ver o:Nat):ldaA n H (.lp i ver o)=ob (blkAt H i ver) (ldac n o):=rfl
theorem y7p(H:List Blk)(n:Nat)(w:Bool)(l:List A):ldaA n H (.fp w l)=ifo (n≤l.length) (.agg (l.take n)):=rfl
theorem y2u(n o:Nat)(l:List A):ldac n o l=ifo (o+n≤l.length) (.agg ((l.drop o).take n)):=rfl
theorem yR2(n:Nat)(l:List A):prtA n (.agg l)=nthA l n:=rfl
theorem yw1(n k:Nat)(l:List A):y5P n k (.agg l)=some (.agg ((l.drop n).take k)):=rfl
theorem yR3(n:Nat)(l:List A):extA n (.tup l)=nthA l n:=rfl
theorem xk0(b:Bool):s1A (.un .not) (.v (.bool b))=some (.v (.bool !b)):=rfl
theorem xk1(k:IntKind)(n:Int):s1A (.un .neg) (.v (.int k n))=some (.v (.int k (k.wrap (0-n)))):=by cases k<;>rfl
theorem xk2(k k':IntKind)(n:Int):s1A (.conv k) (.v (.int k' n))=some (.v (.int k (k.wrap n))):=rfl
theorem xk3(k:IntKind)(a b:Int):s2A (.bin .add) (.v (.int k a)) (.v (.int k b))=some (.v (.int k (k.wrap (a+b)))):=by cases k<;>rfl
theorem xk4(k:IntKind)(a b:Int):s2A (.bin .sub) (.v (.int k a)) (.v (.int k b))=some (.v (.int k (k.wrap (a-b)))):=by cases k<;>rfl
theorem xk5(k:IntKind)(a b:Int):s2A (.bin .mul) (.v (.int k a)) (.v (.int k b))=some (.v (.int k (k.wrap (a*b)))):=by cases k<;>rfl
theorem xk6(k:IntKind)(a b:Int):s2A (.bin .lss) (.v (.int k a)) (.v (.int k b))=some (.v (.bool (decide (a<b)))):=by cases k<;>rfl
theorem xk7(k:IntKind)(a b:Int):s2A (.bin .leq) (.v (.int k a)) (.v (.int k b))=some (.v (.bool (decide (a≤b)))):=by cases k<;>rfl
theorem xk8(k:IntKind)(a b:Int):s2A (.bin .gtr) (.v (.int k a)) (.v (.int k b))=some (.v (.bool (decide (b<a)))):=by cases k<;>rfl
theorem xk9(k:IntKind)(a b:Int):s2A (.bin .geq) (.v (.int k a)) (.v (.int k b))=some (.v (.bool (decide (b≤a)))):=by cases k<;>rfl
theorem xl0(k:IntKind)(a b:Int):s2A (.bin .eql) (.v (.int k a)) (.v (.int k b))=some (.v (.bool (decide (a=b)))):=by
 simp only[s2A,xz1];rfl
theorem xl1(k:IntKind)(a b:Int):s2A (.bin .neq) (.v (.int k a)) (.v (.int k b))=some (.v (.bool (decide (a≠b)))):=by
 simp only[s2A,xz2];rfl
theorem xl2(k:IntKind)(a b:Int)(hb:b≠0):s2A (.bin .quo) (.v (.int k a)) (.v (.int k b))=some (.v (.int k (k.wrap (a.tdiv b)))):=by
 simp only[s2A,xz3 k a b hb];rfl
theorem xl3(k:IntKind)(a b:Int)(hb:b≠0):s2A (.bin .rem) (.v (.int k a)) (.v (.int k b))=some (.v (.int k (a.tmod b))):=by
 simp only[s2A,xz4 k a b hb];rfl
theorem y7q(g a b:Bool):s2A (.eqb g) (.v (.bool a)) (.v (.bool b))=some (.v (.bool ((a == b) != g))):=rfl
theorem s_mx(k:IntKind)(a b:Int):s2A .mx (.v (.int k a)) (.v (.int k b))=some (.v (.int k (max a b))):=by
 simp only[s2A,xe9];rfl
theorem s_mn(k:IntKind)(a b:Int):s2A .mn (.v (.int k a)) (.v (.int k b))=some (.v (.int k (min a b))):=by
 simp only[s2A,xf0];rfl
theorem y7r(g:Bool)(i ver o:Nat):eqpA g (.lp i ver o) (.v (.pointer none))=some (.v (.bool g)):=rfl
theorem y7s(g w:Bool)(l:List A):eqpA g (.fp w l) (.v (.pointer none))=some (.v (.bool g)):=rfl
theorem y2v(g:Bool):eqpA g (.v (.pointer none)) (.v (.pointer none))=some (.v (.bool (true != g))):=rfl
theorem y7t(g:Bool)(i ver k o n:Nat)(m c:Nat):eqsA g (.sl i ver k o n) (.v (.slice none m c))=some (.v (.bool g)):=rfl
theorem y2w(g:Bool):eqsA g (.v (.slice none 0 0)) (.v (.slice none 0 0))=some (.v (.bool (true != g))):=rfl
theorem y7u(g:Bool)(f:Nat)(l:List A):eqfA g (.fn f l) (.v .nilFunc)=some (.v (.bool g)):=rfl
theorem yR4(g:Bool)(a b c d:Int)(k l:IntKind):eqiA 2 g (.agg [.v (.int k a),.v (.int l b)]) (.agg [.v (.int k c),.v (.int l d)])=some (.v (.bool ((decide (a=c) && decide (b=d)) != g))):=by
 simp [eqiA,eqiL]
theorem yR5(g:Bool)(a b c d a' b' c' d':Int):eqiA 4 g (.agg [.v (.int .i64 a),.v (.int .i64 b),.v (.int .i64 c),.v (.int .i64 d)]) (.agg [.v (.int .i64 a'),.v (.int .i64 b'),.v (.int .i64 c'),.v (.int .i64 d')])=some (.v (.bool ((decide (a=a') && (decide (b=b') && (decide (c=c') && decide (d=d')))) != g))):=by
 simp [eqiA,eqiL]
theorem yh4:z29 .nilFunc=.v .nilFunc:=rfl
theorem yR6(k:IntKind)(n:Int):Lft.one (.int k n)=true:=rfl
theorem yh5(a:Option Addr)(n c:Nat):Lft.one (.slice a n c)=true:=rfl
theorem yw2(b:Bool):Lft.one (.bool b)=true:=rfl
theorem yR7(a:Option Addr):Lft.one (.pointer a)=true:=rfl
theorem yw3(a:Value)(l:List Value):(a :: l).all Lft.one=(Lft.one a && l.all Lft.one):=rfl
theorem yR8:([]:List Value).all Lft.one=true:=rfl
theorem y7v(n i ver k o m:Nat)(kk:IntKind)(j:Int)(h1:0≤j)(h2:j<m):idxA n (.sl i ver k o m) (.v (.int kk j))=some (.lp i ver (o+j.toNat*n)):=by
 simp [idxA,h1,h2]
theorem y7w(n i ver k m:Nat)(kk:IntKind)(j:Int)(h1:0≤j)(h2:j<m):idxA n (.vs i ver k m) (.v (.int kk j))=some (.lp i ver (j.toNat*n)):=by
 simp [idxA,h1,h2]
theorem y2x(len n i ver o:Nat)(kk:IntKind)(j:Int)(h1:0≤j)(h2:j<len):yu1 len n (.lp i ver o) (.v (.int kk j))=some (.lp i ver (o+j.toNat*n)):=by
 simp [yu1,h1,h2]
theorem y2y(len n:Nat)(w:Bool)(l:List A)(kk:IntKind)(j:Int)(h1:0≤j)(h2:j<len):yu1 len n (.fp w l) (.v (.int kk j))=ifo (j.toNat*n≤l.length) (.fp w (l.drop (j.toNat*n))):=by
 simp [yu1,h1,h2,ifo]
theorem yR9(len:Nat)(l:List A)(kk:IntKind)(j:Int)(h1:0≤j)(h2:j<len):ixvA len 1 false (.agg l) (.v (.int kk j))=nthA l j.toNat:=by
 simp [ixvA,h1,h2]
theorem y2z(a b:Option A):itA (some (.v (.bool true))) a b=a:=rfl
theorem yS0(a b:Option A):itA (some (.v (.bool false))) a b=b:=rfl
theorem xl4(t u:Bool):itA (some (.v (.bool t))) (some (.v (.bool true))) (some (.v (.bool u)))=some (.v (.bool (t || u))):=by cases t<;>rfl
theorem y7x(t u:Bool):itA (some (.v (.bool t))) (some (.v (.bool u))) (some (.v (.bool false)))=some (.v (.bool (t && u))):=by cases t<;>rfl
theorem y7y(p:Prop)[Decidable p](a b:Option A)(h:p):itA (some (.v (.bool (decide p)))) a b=a:=by simp [h,itA]
theorem y7z(p:Prop)[Decidable p](a b:Option A)(h:¬p):itA (some (.v (.bool (decide p)))) a b=b:=by simp [h,itA]
theorem yh6(ver:Nat)(l:List A)(H:List Blk):blkAt (⟨ver,l⟩ :: H) 0 ver=some l:=by simp [blkAt]
theorem yh7(B:Blk)(H:List Blk)(i ver:Nat):blkAt (B :: H) (i+1) ver=blkAt H i ver:=rfl
theorem y2A(H:List Blk)(n i ver o m:Nat)(k k':IntKind)(a b:Int)(h1:0≤a)(h2:a≤b)(h3:b≤m):slcA H none n (.sl i ver n o m) (.v (.int k a)) (.v (.int k' b)) none=some (.sl i ver n (o+a.toNat*n) (b.toNat-a.toNat)):=by
 simp [slcA,h1,h2,h3]
theorem y2B(H:List Blk)(n:Nat)(w:Bool)(l:List A)(k k':IntKind)(a b:Int)(h1:0≤a)(h2:a≤b):slcA H none n (.fs w l) (.v (.int k a)) (.v (.int k' b)) none=ob (cnd (szB n l) ()) fun _=>ifo (b≤l.length) (.fs w ((l.take b.toNat).drop a.toNat)):=by
 cases h:szB n l<;>simp [slcA,h1,h2,cnd,ifo,ob,h]
def slcl(i ver o n len:Nat)(a b:Int):List A→Option A:=fun l=>if o+len*n≤l.length then some (.sl i ver n (o+a.toNat*n) (b.toNat-a.toNat))else none
theorem y2C(H:List Blk)(n i ver o len:Nat)(k k':IntKind)(a b:Int)(h1:0≤a)(h2:a≤b)(h3:b≤len):slcA H (some len) n (.lp i ver o) (.v (.int k a)) (.v (.int k' b)) none=ob (blkAt H i ver) (slcl i ver o n len a b):=by
 simp only[slcA,ob];congr 1;funext l;simp [slcl,h1,h2,h3]
theorem y2D(i ver o n len:Nat)(a b:Int)(l:List A):slcl i ver o n len a b l=ifo (o+len*n≤l.length) (.sl i ver n (o+a.toNat*n) (b.toNat-a.toNat)):=rfl
def newc(o m size:Nat):List A→Option (Nat×List A):=fun l=>if o+m*size≤l.length∧((l.drop o).take (m*size)).all A.one=true then some (m,(l.drop o).take (m*size))else none
theorem y2E(H:List Blk)(size j ver o m:Nat):zz6 H size (.sl j ver size o m)=ob (blkAt H j ver) (newc o m size):=by
 simp only[zz6,if_true,ob];rfl
def newv(m size:Nat):List A→Option (Nat×List A):=fun l=>if m*size≤l.length∧(l.take (m*size)).all A.one=true then some (m,l.take (m*size))else none
theorem y2F(H:List Blk)(size j ver m:Nat):zz6 H size (.vs j ver size m)=ob (blkAt H j ver) (newv m size):=by
 simp only[zz6,if_true,ob];rfl
theorem y2G(m size:Nat)(l:List A):newv m size l=ob (ifo (m*size≤l.length) ()) fun _=>cnd ((l.take (m*size)).all A.one) (m,l.take (m*size)):=by
 unfold newv ifo cnd ob;by_cases h1:m*size≤l.length<;>by_cases h2:(l.take (m*size)).all A.one=true<;>simp [h1,h2]
theorem yS1(H:List Blk)(size:Nat):zz6 H size (.v (.slice none 0 0))=some (0,[]):=rfl
theorem y2H(o m size:Nat)(l:List A):newc o m size l=ob (ifo (o+m*size≤l.length) ()) fun _=>cnd (((l.drop o).take (m*size)).all A.one) (m,(l.drop o).take (m*size)):=by
 unfold newc ifo cnd ob;by_cases h1:o+m*size≤l.length<;>by_cases h2:((l.drop o).take (m*size)).all A.one=true<;>simp [h1,h2]
theorem xl5(k:IntKind)(n:Int):A.cells (.v (.int k n))=some [.v (.int k n)]:=rfl
theorem y7A(b:Bool):A.cells (.v (.bool b))=some [.v (.bool b)]:=rfl
theorem xl6(a:Option Addr):A.cells (.v (.pointer a))=some [.v (.pointer a)]:=rfl
theorem y2I(a:Option Addr)(n c:Nat):A.cells (.v (.slice a n c))=some [.v (.slice a n c)]:=rfl
theorem xl7(s:ByteArray):A.cells (.v (.string s))=some [.v (.string s)]:=rfl
theorem y2J:A.cells (.v .nilFunc)=some [.v .nilFunc]:=rfl
theorem c_fn(f:Nat)(l:List A):A.cells (.fn f l)=some [.fn f l]:=rfl
theorem c_fs(w:Bool)(l:List A):A.cells (.fs w l)=some [.fs w l]:=rfl
theorem c_fp(w:Bool)(l:List A):A.cells (.fp w l)=some [.fp w l]:=rfl
theorem c_sl(i ver k o n:Nat):A.cells (.sl i ver k o n)=some [.sl i ver k o n]:=rfl
theorem c_lp(i ver o:Nat):A.cells (.lp i ver o)=some [.lp i ver o]:=rfl
theorem c_vs(i ver k n:Nat):A.cells (.vs i ver k n)=some [.vs i ver k n]:=rfl
theorem xl8(l:List A):A.cells (.agg l)=cnd (l.all A.one) l:=rfl
theorem xl9(k:IntKind)(n:Int):A.one (.v (.int k n))=true:=rfl
theorem y7B(b:Bool):A.one (.v (.bool b))=true:=rfl
theorem xm0(a:Option Addr):A.one (.v (.pointer a))=true:=rfl
theorem y2K(a:Option Addr)(n c:Nat):A.one (.v (.slice a n c))=true:=rfl
theorem xm1(s:ByteArray):A.one (.v (.string s))=true:=rfl
theorem y2L:A.one (.v .nilFunc)=true:=rfl
theorem o_fn(f:Nat)(l:List A):A.one (.fn f l)=true:=rfl
theorem o_fs(w:Bool)(l:List A):A.one (.fs w l)=true:=rfl
theorem o_fp(w:Bool)(l:List A):A.one (.fp w l)=true:=rfl
theorem o_sl(i ver k o n:Nat):A.one (.sl i ver k o n)=true:=rfl
theorem o_lp(i ver o:Nat):A.one (.lp i ver o)=true:=rfl
theorem o_vs(i ver k n:Nat):A.one (.vs i ver k n)=true:=rfl
theorem yw4(a:A)(l:List A):(a :: l).all A.one=(a.one && l.all A.one):=rfl
theorem yS2:([]:List A).all A.one=true:=rfl
def filc(c:List A)(off:Nat)(r:List (Nat×A)):List A→Option (List A):=fun cs=>if off+cs.length≤c.length then z5h (splA c off cs) r else none
theorem yw5(c:List A):z5h c []=some c:=rfl
theorem yh8(c:List A)(off:Nat)(a:A)(r:List (Nat×A)):z5h c ((off,a) :: r)=ob a.cells (filc c off r):=rfl
theorem y2M(c:List A)(off:Nat)(r:List (Nat×A))(cs:List A):filc c off r cs=ob (ifo (off+cs.length≤c.length) ()) fun _=>z5h (splA c off cs) r:=by
 unfold filc ifo;split<;>rfl
theorem zP1(c:List A)(o:Nat)(a:A)(h:o<c.length):splA c o [a]=c.set o a:=by
 unfold splA;rw[List.set_eq_take_append_cons_drop,if_pos h];simp
theorem yk9{α:Type}(f:α→A)(xs:List α)(o:Nat)(y:α)(h:o<xs.length):splA (xs.map f) o [f y]=(xs.set o y).map f:=by
 rw[zP1 _ _ _ (by simpa using h),List.map_set]
theorem y2N(c:List A)(o:Nat):splA c o []=c:=by simp [splA]
theorem z3b(a:A)(c cs:List A)(o:Nat):splA (a :: c) (o+1) cs=a :: splA c o cs:=by
 unfold splA;simp [show o+1+cs.length=o+cs.length+1 by omega]
theorem yS3(a b:A)(c cs:List A):splA (a :: c) 0 (b :: cs)=b :: splA c 0 cs:=by
 unfold splA;simp
theorem y2O(n:Nat)(a:A):repA n [a]=List.replicate n a:=yO7 n a
theorem yS4(z:List A):repL 0 z=[]:=rfl
theorem yS5(n:Nat)(z:List A):repL (n+1) z=z++repL n z:=by
 unfold repL repA;rw[List.replicate_succ,List.flatten_cons]
theorem yw6(x:Value)(l:List Value):(x :: l).map A.v=.v x :: l.map A.v:=rfl
theorem yS6(n:Nat)(x:Value):(List.replicate n x).map A.v=List.replicate n (A.v x):=List.map_replicate
theorem yS7:([]:List Value).map A.v=[]:=rfl
theorem yw7(a:A)(l:List A):(a :: l).length=l.length+1:=rfl
theorem yS8:([]:List A).length=0:=rfl
theorem yw8(a:Blk)(l:List Blk):(a :: l).length=l.length+1:=rfl
theorem yS9:([]:List Blk).length=0:=rfl
theorem yw9(a:Value)(l:List Value):(a :: l).length=l.length+1:=rfl
theorem yT0:([]:List Value).length=0:=rfl
theorem yx0(a:Blk)(l m:List Blk):(a :: l)++m=a :: (l++m):=rfl
theorem yT1(m:List Blk):[]++m=m:=rfl
theorem yx1(a:A)(l m:List A):(a :: l)++m=a :: (l++m):=rfl
theorem y2P(m:List A):[]++m=m:=rfl
theorem yT2(l:List A):l.take 0=[]:=rfl
theorem yT3(a:A)(l:List A)(n:Nat):(a :: l).take (n+1)=a :: l.take n:=rfl
theorem y2Q(n:Nat):([]:List A).take n=[]:=by cases n<;>rfl
theorem yT4(l:List A):l.drop 0=l:=rfl
theorem yT5(a:A)(l:List A)(n:Nat):(a :: l).drop (n+1)=l.drop n:=rfl
theorem y2R(n:Nat):([]:List A).drop n=[]:=by cases n<;>rfl
theorem yT6(a d:A)(l:List A):(a :: l).getD 0 d=a:=rfl
theorem yT7(a d:A)(l:List A)(n:Nat):(a :: l).getD (n+1) d=l.getD n d:=rfl
theorem y2S(d:A)(n:Nat):([]:List A).getD n d=d:=rfl
theorem yT8(a b:A)(l:List A):(a :: l).set 0 b=b :: l:=rfl
theorem yT9(a b:A)(l:List A)(n:Nat):(a :: l).set (n+1) b=a :: l.set n b:=rfl
theorem yU0(a b:Blk)(l:List Blk):(a :: l).set 0 b=b :: l:=rfl
theorem yU1(a b:Blk)(l:List Blk)(n:Nat):(a :: l).set (n+1) b=a :: l.set n b:=rfl
theorem yU2(t:Nat)(V:List Nat)(args:List A):envA (t :: V) args=args.getD t .any :: envA V args:=rfl
theorem y2T(args:List A):envA [] args=[]:=rfl
theorem yU3{α:Type}(x:α)(k:α→Prop):bw (some x) k=k x:=y86 x k
theorem yU4{α β:Type}(x:α)(f:α→Option β):ob (some x) f=f x:=rfl
theorem yU5(K:Bool→Prop):ib true K=K true:=rfl
theorem yx2(K:Bool→Prop):ib false K=K false:=rfl
theorem y2U(p:Prop)[Decidable p](K:Bool→Prop)(h:p):ib (decide p) K=K true:=xe2 h
theorem y2V(p:Prop)[Decidable p](K:Bool→Prop)(h:¬p):ib (decide p) K=K false:=xe3 h
theorem aW:type_of% (ai9 @xg2<|ai9 @y66<|ai9 @xg3<|ai9 @xg4<|ai9 @xg5<|ai9 @xg6<|ai9 @y67<|ai9 @xg7<|ai9 @xg8<|ai9 @y68<|ai9 @y69<|ai9 @y12<|ai9 @yu5<|ai9 @y13<|ai9 @xg9<|ai9 @a_mk<|ai9 @y14<|ai9 @xh0<|ai9 @xh1<|ai9 @xh2<|ai9 @xh3<|ai9 @y15<|ai9 @yP2<|ai9 @a_st<|ai9 @y16<|ai9 @y17<|ai9 @yu6<|ai9 @yu7<|ai9 @yu8<|ai9 @yu9<|ai9 @yP3<|ai9 @yv0<|ai9 @yP4<|ai9 @yv1<|ai9 @y18<|ai9 @yP5<|ai9 @y19<|ai9 @y2a<|ai9 @y2b<|ai9 @yP6<|ai9 @yv2<|ai9 @y2c<|ai9 @yP7<|ai9 @y2d<|ai9 @yv3<|ai9 @yv4<|ai9 @yP8<|ai9 @yv5<|ai9 @yP9<|ai9 @yQ0<|ai9 @yh0<|ai9 @yv6<|ai9 @yQ1<|ai9 @y2e<|ai9 @y7a<|ai9 @yQ2<|ai9 @y2f<|ai9 @y7b<|ai9 @y2g<|ai9 @y2h<|ai9 @y2i<|ai9 @y7c<|ai9 @y7d<|ai9 @y2j<|ai9 @y2k<|ai9 @y2l<|ai9 @yQ3<|ai9 @yQ4<|ai9 @yv7<|ai9 @yQ5<|ai9 @y2m<|ai9 @yQ6<|ai9 @y65<|ai9 @y10<|ai9 @y11<|ai9 @yP0<|ai9 @yP1<|ai9 @yU3<|ai9 @yU4<|ai9 @yU5<|ai9 @yx2<|ai9 @y2U<|@y2V):=⟨@xg2,@y66,@xg3,@xg4,@xg5,@xg6,@y67,@xg7,@xg8,@y68,@y69,@y12,@yu5,@y13,@xg9,@a_mk,@y14,@xh0,@xh1,@xh2,@xh3,@y15,@yP2,@a_st,@y16,@y17,@yu6,@yu7,@yu8,@yu9,@yP3,@yv0,@yP4,@yv1,@y18,@yP5,@y19,@y2a,@y2b,@yP6,@yv2,@y2c,@yP7,@y2d,@yv3,@yv4,@yP8,@yv5,@yP9,@yQ0,@yh0,@yv6,@yQ1,@y2e,@y7a,@yQ2,@y2f,@y7b,@y2g,@y2h,@y2i,@y7c,@y7d,@y2j,@y2k,@y2l,@yQ3,@yQ4,@yv7,@yQ5,@y2m,@yQ6,@y65,@y10,@y11,@yP0,@yP1,@yU3,@yU4,@yU5,@yx2,@y2U,@y2V⟩
theorem aX:type_of% (ai9 @xh5<|ai9 @xh6<|ai9 @xh7<|ai9 @y7e<|ai9 @xh8<|ai9 @xh9<|ai9 @xi0<|ai9 @v_un<|ai9 @y7f<|ai9 @xi1<|ai9 @y7g<|ai9 @xi2<|ai9 @xi3<|ai9 @xi4<|ai9 @v_mx<|ai9 @v_mn<|ai9 @xi5<|ai9 @xi6<|ai9 @xi7<|ai9 @xi8<|ai9 @xi9<|ai9 @y7h<|ai9 @xj0<|ai9 @xj1<|ai9 @xj2<|ai9 @y7i<|ai9 @v_fn<|ai9 @xj3<|ai9 @xj4<|ai9 @xj5<|ai9 @xj6<|ai9 @xj7<|ai9 @y7j<|ai9 @yQ7<|ai9 @yv8<|ai9 @yQ8<|ai9 @yh1<|ai9 @y2n<|ai9 @yh2<|ai9 @yQ9<|ai9 @yh3<|ai9 @yR0<|ai9 @yh4<|ai9 @y2z<|ai9 @yS0<|ai9 @xl4<|ai9 @y7x<|ai9 @y7y<|ai9 @y7z<|ai9 @yh6<|@yh7):=⟨@xh5,@xh6,@xh7,@y7e,@xh8,@xh9,@xi0,@v_un,@y7f,@xi1,@y7g,@xi2,@xi3,@xi4,@v_mx,@v_mn,@xi5,@xi6,@xi7,@xi8,@xi9,@y7h,@xj0,@xj1,@xj2,@y7i,@v_fn,@xj3,@xj4,@xj5,@xj6,@xj7,@y7j,@yQ7,@yv8,@yQ8,@yh1,@y2n,@yh2,@yQ9,@yh3,@yR0,@yh4,@y2z,@yS0,@xl4,@y7x,@y7y,@y7z,@yh6,@yh7⟩
theorem aV:type_of% (ai9 @y7k<|ai9 @y7l<|ai9 @y7m<|ai9 @y2o<|ai9 @y2p<|ai9 @y2q<|ai9 @yR1<|ai9 @y7n<|ai9 @y2r<|ai9 @y2s<|ai9 @xj8<|ai9 @xj9<|ai9 @y2t<|ai9 @yv9<|ai9 @yw0<|ai9 @y7o<|ai9 @y7p<|ai9 @y2u<|ai9 @yR2<|ai9 @yw1<|ai9 @yR3<|ai9 @xk0<|ai9 @xk1<|ai9 @xk2<|ai9 @xk3<|ai9 @xk4<|ai9 @xk5<|ai9 @xk6<|ai9 @xk7<|ai9 @xk8<|ai9 @xk9<|ai9 @xl0<|ai9 @xl1<|ai9 @xl2<|ai9 @xl3<|ai9 @y7q<|ai9 @s_mx<|ai9 @s_mn<|ai9 @y7r<|ai9 @y7s<|ai9 @y2v<|ai9 @y7t<|ai9 @y2w<|ai9 @y7u<|ai9 @yR4<|ai9 @yR5<|ai9 @y7v<|ai9 @y7w<|ai9 @y2x<|ai9 @y2y<|ai9 @yR9<|ai9 @y2A<|ai9 @y2B<|ai9 @y2C<|ai9 @y2D<|ai9 @y2E<|ai9 @y2F<|ai9 @y2G<|ai9 @yS1<|@y2H):=⟨@y7k,@y7l,@y7m,@y2o,@y2p,@y2q,@yR1,@y7n,@y2r,@y2s,@xj8,@xj9,@y2t,@yv9,@yw0,@y7o,@y7p,@y2u,@yR2,@yw1,@yR3,@xk0,@xk1,@xk2,@xk3,@xk4,@xk5,@xk6,@xk7,@xk8,@xk9,@xl0,@xl1,@xl2,@xl3,@y7q,@s_mx,@s_mn,@y7r,@y7s,@y2v,@y7t,@y2w,@y7u,@yR4,@yR5,@y7v,@y7w,@y2x,@y2y,@yR9,@y2A,@y2B,@y2C,@y2D,@y2E,@y2F,@y2G,@yS1,@y2H⟩
theorem aB:type_of% (ai9 @xl5<|ai9 @y7A<|ai9 @xl6<|ai9 @y2I<|ai9 @xl7<|ai9 @y2J<|ai9 @c_fn<|ai9 @c_fs<|ai9 @c_fp<|ai9 @c_sl<|ai9 @c_lp<|ai9 @c_vs<|ai9 @xl8<|ai9 @xl9<|ai9 @y7B<|ai9 @xm0<|ai9 @y2K<|ai9 @xm1<|ai9 @y2L<|ai9 @o_fn<|ai9 @o_fs<|ai9 @o_fp<|ai9 @o_sl<|ai9 @o_lp<|ai9 @o_vs<|ai9 @yw4<|ai9 @yS2<|ai9 @yR6<|ai9 @yh5<|ai9 @yw2<|ai9 @yR7<|ai9 @yw3<|ai9 @yR8<|ai9 @yw5<|ai9 @yh8<|ai9 @y2M<|ai9 @y2N<|ai9 @z3b<|ai9 @yS3<|ai9 @y2O<|ai9 @yS4<|ai9 @yS5<|ai9 @yw6<|ai9 @yS7<|ai9 @yS6<|ai9 @yw7<|ai9 @yS8<|ai9 @yw8<|ai9 @yS9<|ai9 @yw9<|ai9 @yT0<|ai9 @yx0<|ai9 @yT1<|ai9 @yx1<|ai9 @y2P<|ai9 @yT2<|ai9 @yT3<|ai9 @y2Q<|ai9 @yT4<|ai9 @yT5<|ai9 @y2R<|ai9 @yT6<|ai9 @yT7<|ai9 @y2S<|ai9 @yT8<|ai9 @yT9<|ai9 @yU0<|ai9 @yU1<|ai9 @yU2<|@y2T):=⟨@xl5,@y7A,@xl6,@y2I,@xl7,@y2J,@c_fn,@c_fs,@c_fp,@c_sl,@c_lp,@c_vs,@xl8,@xl9,@y7B,@xm0,@y2K,@xm1,@y2L,@o_fn,@o_fs,@o_fp,@o_sl,@o_lp,@o_vs,@yw4,@yS2,@yR6,@yh5,@yw2,@yR7,@yw3,@yR8,@yw5,@yh8,@y2M,@y2N,@z3b,@yS3,@y2O,@yS4,@yS5,@yw6,@yS7,@yS6,@yw7,@yS8,@yw8,@yS9,@yw9,@yT0,@yx0,@yT1,@yx1,@y2P,@yT2,@yT3,@y2Q,@yT4,@yT5,@y2R,@yT6,@yT7,@y2S,@yT8,@yT9,@yU0,@yU1,@yU2,@y2T⟩
theorem aN:type_of% (ai9 @xe4<|ai9 @xe5<|ai9 @tand<|ai9 @andt<|ai9 @fand<|ai9 @andf<|ai9 @tor<|ai9 @ort<|ai9 @for_<|ai9 @orf<|ai9 @xe6<|ai9 @xe7<|ai9 @bnf<|ai9 @bnt<|ai9 @tb<|ai9 @fb<|ai9 @bt<|ai9 @bf<|ai9 @y6R<|ai9 @y1H<|ai9 @y1I<|ai9 @yG6<|ai9 @yN6<|ai9 @yN7<|ai9 @nm1<|ai9 @n1m<|ai9 @n0m<|ai9 @n0a<|ai9 @na0<|ai9 @ns0<|ai9 @tnat<|@xf5):=⟨@xe4,@xe5,@tand,@andt,@fand,@andf,@tor,@ort,@for_,@orf,@xe6,@xe7,@bnf,@bnt,@tb,@fb,@bt,@bf,@y6R,@y1H,@y1I,@yG6,@yN6,@yN7,@nm1,@n1m,@n0m,@n0a,@na0,@ns0,@tnat,@xf5⟩
def ints(xs:List Int):List A:=xs.map fun n=>.v (.int .i64 n)
def za9(xs:List Bool):List A:=xs.map fun n=>.v (.bool n)
section
variable {α:Type} {f:α→A}
theorem yl0(xs:List α)(k:Nat)(d:α)(h:k<xs.length):nthA (xs.map f) k=some (f (xs.getD k d)):=by
 rw[Y8,List.getElem?_map];simp [h]
theorem map_set(xs:List α)(k:Nat)(y:α):(xs.map f).set k (f y)=(xs.set k y).map f:=by rw[List.map_set]
theorem yl1(xs:List α)(h:∀x,(f x).one=true):(xs.map f).all A.one=true:=by
 rw[List.all_eq_true];intro a ha;obtain⟨x,_,rfl⟩:=List.mem_map.1 ha;exact h x
theorem z1C(n:Nat)(xs:List α)(h:∀x,(f x).bd n=true):A.bdL n (xs.map f)=true:=zP0.2 fun a ha=>by
 obtain⟨x,_,rfl⟩:=List.mem_map.1 ha;exact h x
theorem z1D(xs:List α)(h:∀x,(f x).cl=true):A.clL (xs.map f)=true:=zH6.2 fun a ha=>by
 obtain⟨x,_,rfl⟩:=List.mem_map.1 ha;exact h x
theorem y2W(n:Nat)(xs:List α)(cs:α→List A)(h:∀x,(f x).cells=some (cs x))(hn:∀x,(cs x).length=n):szB n (xs.map f)=true:=by
 unfold szB;rw[List.all_eq_true];intro a ha;obtain⟨x,_,rfl⟩:=List.mem_map.1 ha;rw[h];simp [hn]
theorem yl2(n:Nat)(cs:α→List A)(h:∀x,(f x).cells=some (cs x))(hn:∀x,(cs x).length=n):∀(xs:List α),za5 n (xs.map f)=some (xs.flatMap cs)
 | []=>rfl
 | x :: r=>by simp [za5,h,hn,yl2 n cs h hn r]
theorem zH7(n:Nat)(w:Bool)(xs:List α)(d:α)(kk:IntKind)(j:Int)(cs:α→List A)(h:∀x,(f x).cells=some (cs x))(hn:∀x,(cs x).length=n)(h1:0≤j)(h2:j<xs.length):
    idxA n (.fs w (xs.map f)) (.v (.int kk j))=some (.fp w (cs (xs.getD j.toNat d))):=by
  simp only[idxA,List.length_map]
  rw[if_pos ⟨h1,h2⟩,yl0 xs _ d (by omega)]
  simp [h,hn]
end
theorem zl5:∀{l:List A},l.all A.one=true→za5 1 l=some l
 | [],_=>rfl
 | a :: l,h=>by
  simp only[List.all_cons,Bool.and_eq_true]at h
  have hc:a.cells=some [a]:=by cases a<;>first|(cases h.1;done)|(simp only[A.cells];rw[if_pos h.1])
  simp [za5,hc,zl5 h.2]
theorem zU1(xs:List Int):(ints xs).length=xs.length:=by simp [ints]
theorem y7C(xs:List Int)(k:Nat)(h:k<xs.length):nthA (ints xs) k=some (.v (.int .i64 (xs.getD k 0))):=yl0 xs k 0 h
theorem y7D(w:Bool)(xs:List Int)(kk:IntKind)(j:Int)(h1:0≤j)(h2:j<xs.length):idxA 1 (.fs w (ints xs)) (.v (.int kk j))=some (.fp w [.v (.int .i64 (xs.getD j.toNat 0))]) :=
 zH7 1 w xs 0 kk j (fun n=>[.v (.int .i64 n)]) (fun _=>rfl) (fun _=>rfl) h1 h2
theorem y7E(xs:List Int)(k:Nat)(y:Int):(ints xs).set k (.v (.int .i64 y))=ints (xs.set k y):=map_set xs k y
theorem y2X(xs:List Int)(k:Nat)(y:Int)(h:k<xs.length):splA (ints xs) k [.v (.int .i64 y)]=ints (xs.set k y):=yk9 (fun n=>.v (.int .i64 n)) xs k y h
theorem y2Y(xs:List Int)(y:Int):ints xs++[.v (.int .i64 y)]=ints (xs++[y]):=by simp [ints]
theorem y7F(xs ys:List Int):ints xs++ints ys=ints (xs++ys):=by simp [ints]
theorem y7G(n:Nat)(y:Int):List.replicate n (A.v (.int .i64 y))=ints (List.replicate n y):=by simp [ints]
theorem z8d(n:Nat)(xs:List Int):(ints xs).take n=ints (xs.take n):=by simp [ints,List.map_take]
theorem y2Z(n:Nat)(xs:List Int):(ints xs).drop n=ints (xs.drop n):=by simp [ints,List.map_drop]
theorem yU6(xs:List Int):(ints xs).all A.one=true:=yl1 xs fun _=>rfl
theorem zl4(n:Nat)(xs:List Int):A.bdL n (ints xs)=true:=z1C n xs fun _=>rfl
theorem yl3(xs:List Int):A.clL (ints xs)=true:=z1D xs fun _=>rfl
theorem xm2(xs:List Int):szB 1 (ints xs)=true:=y2W 1 xs (fun n=>[.v (.int .i64 n)]) (fun _=>rfl) (fun _=>rfl)
theorem z5l(xs:List Int):za5 1 (ints xs)=some (ints xs):=zl5 (yU6 xs)
theorem y7H(H:List Blk)(w:Bool)(xs:List Int):zz6 H 1 (.fs w (ints xs))=some (xs.length,ints xs):=by
 simp only[zz6,z5l,Option.bind_some,yU6,if_true,zU1]
theorem yU7(xs:List Bool):(za9 xs).length=xs.length:=by simp [za9]
theorem xm3(xs:List Bool)(k:Nat)(h:k<xs.length):nthA (za9 xs) k=some (.v (.bool (xs.getD k false))):=yl0 xs k false h
theorem xm4(w:Bool)(xs:List Bool)(kk:IntKind)(j:Int)(h1:0≤j)(h2:j<xs.length):idxA 1 (.fs w (za9 xs)) (.v (.int kk j))=some (.fp w [.v (.bool (xs.getD j.toNat false))]) :=
 zH7 1 w xs false kk j (fun n=>[.v (.bool n)]) (fun _=>rfl) (fun _=>rfl) h1 h2
theorem xm5(xs:List Bool)(k:Nat)(y:Bool):(za9 xs).set k (.v (.bool y))=za9 (xs.set k y):=map_set xs k y
theorem xm6(xs:List Bool)(k:Nat)(y:Bool)(h:k<xs.length):splA (za9 xs) k [.v (.bool y)]=za9 (xs.set k y):=yk9 (fun n=>.v (.bool n)) xs k y h
theorem y7I(xs:List Bool)(y:Bool):za9 xs++[.v (.bool y)]=za9 (xs++[y]):=by simp [za9]
theorem xm7(n:Nat)(y:Bool):List.replicate n (A.v (.bool y))=za9 (List.replicate n y):=by simp [za9]
theorem y20(n:Nat)(xs:List Bool):(za9 xs).take n=za9 (xs.take n):=by simp [za9,List.map_take]
theorem y7J(n:Nat)(xs:List Bool):(za9 xs).drop n=za9 (xs.drop n):=by simp [za9,List.map_drop]
theorem y9c(xs:List Bool):(za9 xs).all A.one=true:=yl1 xs fun _=>rfl
theorem b_bd(n:Nat)(xs:List Bool):A.bdL n (za9 xs)=true:=z1C n xs fun _=>rfl
theorem b_cl(xs:List Bool):A.clL (za9 xs)=true:=z1D xs fun _=>rfl
theorem y21(xs:List Bool):za5 1 (za9 xs)=some (za9 xs):=zl5 (y9c xs)
def xz6(a:Int×Int):A:=.agg [.v (.int .i64 a.1),.v (.int .i64 a.2)]
def yH3(l:List (Int×Int)):List A:=l.map xz6
def W1(l:List (Int×Int)):List A:=l.flatMap fun a=>[.v (.int .i64 a.1),.v (.int .i64 a.2)]
theorem y9d(l:List (Int×Int)):(yH3 l).length=l.length:=by simp [yH3]
theorem xm8(w:Bool)(l:List (Int×Int))(kk:IntKind)(j:Int)(h1:0≤j)(h2:j<l.length):idxA 2 (.fs w (yH3 l)) (.v (.int kk j))=some (.fp w [.v (.int .i64 (l.getD j.toNat (0,0)).1),.v (.int .i64 (l.getD j.toNat (0,0)).2)]) :=
 zH7 2 w l (0,0) kk j (fun a=>[.v (.int .i64 a.1),.v (.int .i64 a.2)]) (fun _=>rfl) (fun _=>rfl) h1 h2
theorem p_bd(n:Nat)(l:List (Int×Int)):A.bdL n (yH3 l)=true:=z1C n l fun _=>rfl
theorem p_cl(l:List (Int×Int)):A.clL (yH3 l)=true:=z1D l fun _=>rfl
theorem y22(l:List (Int×Int)):za5 2 (yH3 l)=some (W1 l):=yl2 2 _ (fun _=>rfl) (fun _=>rfl) l
theorem y23(l:List (Int×Int)):(W1 l).length=l.length*2:=by unfold W1;induction l with
 | nil=>rfl
 | cons a r ih=>rw[List.flatMap_cons,List.length_append,ih];simp;omega
theorem y24(l:List (Int×Int)):(W1 l).all A.one=true:=by unfold W1;induction l with
 | nil=>rfl
 | cons a r ih=>rw[List.flatMap_cons,List.all_append,ih];rfl
theorem xm9(n:Nat)(l:List (Int×Int)):A.bdL n (W1 l)=true:=by unfold W1;induction l with
 | nil=>rfl
 | cons a r ih=>simp [List.flatMap_cons,A.bdL,A.bd];simpa using ih
theorem y7K(l m:List (Int×Int)):W1 l++W1 m=W1 (l++m):=by simp [W1]
theorem y25(l:List (Int×Int))(x y:Int):W1 l++[.v (.int .i64 x),.v (.int .i64 y)]=W1 (l++[(x,y)]):=by simp [W1]
theorem xn0(H:List Blk)(w:Bool)(l:List (Int×Int)):zz6 H 2 (.fs w (yH3 l))=some (l.length,W1 l):=by
 simp only[zz6,y22,Option.bind_some,y24,if_true,y9d]
def rows(w:Bool)(l:List (List Int)):List A:=l.map fun r=>.fs w (ints r)
theorem zH8(w:Bool)(l:List (List Int)):(rows w l).length=l.length:=by simp [rows]
theorem xn1(w:Bool)(l:List (List Int))(k:Nat)(h:k<l.length):nthA (rows w l) k=some (.fs w (ints (l.getD k []))):=yl0 l k [] h
theorem xn2(w v:Bool)(l:List (List Int))(kk:IntKind)(j:Int)(h1:0≤j)(h2:j<l.length):idxA 1 (.fs w (rows v l)) (.v (.int kk j))=some (.fp w [.fs v (ints (l.getD j.toNat []))]) :=
 zH7 1 w l [] kk j (fun r=>[.fs v (ints r)]) (fun _=>rfl) (fun _=>rfl) h1 h2
theorem xn3(w:Bool)(l:List (List Int))(k:Nat)(r:List Int)(h:k<l.length):splA (rows w l) k [.fs w (ints r)]=rows w (l.set k r):=yk9 (fun r=>.fs w (ints r)) l k r h
theorem y26(w:Bool)(l:List (List Int))(r:List Int):rows w l++[.fs w (ints r)]=rows w (l++[r]):=by simp [rows]
theorem xn4(w:Bool)(l:List (List Int))(k:Nat)(r:List Int):(rows w l).set k (.fs w (ints r))=rows w (l.set k r):=map_set l k r
theorem yU8(n:Nat)(w:Bool)(l:List (List Int)):(rows w l).take n=rows w (l.take n):=by simp [rows,List.map_take]
theorem y7L(n:Nat)(w:Bool)(l:List (List Int)):(rows w l).drop n=rows w (l.drop n):=by simp [rows,List.map_drop]
theorem y5Y(w:Bool)(l:List (List Int)):(rows w l).all A.one=true:=yl1 l fun _=>rfl
theorem r_bd(n:Nat)(w:Bool)(l:List (List Int)):A.bdL n (rows w l)=true:=z1C n l fun r=>zl4 n r
theorem r_cl(l:List (List Int)):A.clL (rows true l)=true:=z1D l fun r=>by simp [A.cl,yl3]
theorem r_sz(w:Bool)(l:List (List Int)):szB 1 (rows w l)=true:=y2W 1 l (fun r=>[.fs w (ints r)]) (fun _=>rfl) (fun _=>rfl)
theorem z3c(w:Bool)(l:List (List Int)):za5 1 (rows w l)=some (rows w l):=zl5 (y5Y w l)
theorem xn5(H:List Blk)(v w:Bool)(l:List (List Int)):zz6 H 1 (.fs v (rows w l))=some (l.length,rows w l):=by
 simp only[zz6,z3c,Option.bind_some,y5Y,if_true,zH8]
theorem y27(n:Nat)(xs:List Int)(h:xs.length≤n):xs.take n=xs:=List.take_of_length_le h
theorem y28(n:Nat)(xs:List Bool)(h:xs.length≤n):xs.take n=xs:=List.take_of_length_le h
theorem y29(n:Nat)(xs:List (List Int))(h:xs.length≤n):xs.take n=xs:=List.take_of_length_le h
theorem tkPc(n:Nat)(l:List (Int×Int))(h:n=l.length):(W1 l).take (n*2)=W1 l:=by
 subst h;rw[← y23,List.take_length]
theorem yU9(xs:List Int):xs.drop 0=xs:=rfl
theorem yV0(xs:List Bool):xs.drop 0=xs:=rfl
theorem yV1(xs:List (List Int)):xs.drop 0=xs:=rfl
theorem yH4(xs:List Int):xs.take xs.length=xs:=List.take_length
theorem y9e(xs:List Bool):xs.take xs.length=xs:=List.take_length
theorem y3a(xs:List (List Int)):xs.take xs.length=xs:=List.take_length
theorem y3b(xs:List A):xs.take xs.length=xs:=List.take_length
theorem y3c(xs:List Int)(k:Nat)(y:Int):(xs.set k y).length=xs.length:=List.length_set
theorem y3d(xs:List Bool)(k:Nat)(y:Bool):(xs.set k y).length=xs.length:=List.length_set
theorem y3e(xs:List (List Int))(k:Nat)(y:List Int):(xs.set k y).length=xs.length:=List.length_set
theorem y3f(xs:List Int)(y:Int):(xs++[y]).length=xs.length+1:=by simp
theorem y3g(xs:List Bool)(y:Bool):(xs++[y]).length=xs.length+1:=by simp
theorem y3h(xs:List (Int×Int))(y:Int×Int):(xs++[y]).length=xs.length+1:=by simp
theorem y3i(xs:List (List Int))(y:List Int):(xs++[y]).length=xs.length+1:=by simp
theorem y3j(n:Nat)(y:Int):(List.replicate n y).length=n:=List.length_replicate
theorem y3k(n:Nat)(y:Bool):(List.replicate n y).length=n:=List.length_replicate
theorem y7M(m:Nat)(H:List Blk)(a:A):Fz m H a .any=True:=eq_true Fz.any
theorem fz_v(m:Nat)(H:List Blk)(x:Value):Fz m H (.v x) (.v x)=True:=eq_true (Fz.refl rfl)
theorem xn6(m:Nat)(H:List Blk)(w:Bool)(l:List A)(h:A.bdL m l=true):Fz m H (.fs w l) (.fs w l)=True:=eq_true (Fz.refl (by simpa [A.bd]using h))
theorem xn7(m:Nat)(H:List Blk)(w:Bool)(l:List A)(h:A.bdL m l=true):Fz m H (.fp w l) (.fp w l)=True:=eq_true (Fz.refl (by simpa [A.bd]using h))
theorem xn8(m:Nat)(H:List Blk)(i ver k o n:Nat)(h:i<m):Fz m H (.sl i ver k o n) (.sl i ver k o n)=True:=eq_true (Fz.refl (by simpa [A.bd]using h))
theorem xn9(m:Nat)(H:List Blk)(i ver o:Nat)(h:i<m):Fz m H (.lp i ver o) (.lp i ver o)=True:=eq_true (Fz.refl (by simpa [A.bd]using h))
theorem xo0(m:Nat)(H:List Blk)(i ver k n:Nat)(h:i<m):Fz m H (.vs i ver k n) (.vs i ver k n)=True:=eq_true (Fz.refl (by simpa [A.bd]using h))
theorem y7N(m:Nat)(H:List Blk)(l:List A)(h:A.bdL m l=true):Fz m H (.agg l) (.agg l)=True:=eq_true (Fz.refl (by simpa [A.bd]using h))
theorem y7O(m:Nat)(H:List Blk)(l:List A)(h:A.bdL m l=true):Fz m H (.tup l) (.tup l)=True:=eq_true (Fz.refl (by simpa [A.bd]using h))
theorem xo1(m:Nat)(H:List Blk)(f:Nat)(l:List A)(h:A.bdL m l=true):Fz m H (.fn f l) (.fn f l)=True:=eq_true (Fz.refl (by simpa [A.bd]using h))
theorem yV2(m:Nat)(H:List Blk)(a b:A)(l r:List A):FzL m H (a :: l) (b :: r)=(Fz m H a b∧FzL m H l r):=rfl
theorem y3l(m:Nat)(H:List Blk):FzL m H [] []=True:=rfl
theorem yV3(m:Nat)(H:List Blk)(l:List A)(h:A.bdL m l=true):FzL m H l l=True:=eq_true (FzL.refl h)
theorem yV4(n:Nat)(a:A)(l:List A):A.bdL n (a :: l)=(a.bd n && A.bdL n l):=rfl
theorem y3m(n:Nat):A.bdL n []=true:=rfl
theorem y7P(n:Nat):A.bd n .any=true:=rfl
theorem bd_v(n:Nat)(x:Value):A.bd n (.v x)=true:=rfl
theorem xo2(n:Nat)(w:Bool)(l:List A):A.bd n (.fs w l)=A.bdL n l:=rfl
theorem xo3(n:Nat)(w:Bool)(l:List A):A.bd n (.fp w l)=A.bdL n l:=rfl
theorem y7Q(n:Nat)(l:List A):A.bd n (.agg l)=A.bdL n l:=rfl
theorem y7R(n:Nat)(l:List A):A.bd n (.tup l)=A.bdL n l:=rfl
theorem xo4(n f:Nat)(l:List A):A.bd n (.fn f l)=A.bdL n l:=rfl
theorem xo5(n i ver k o m:Nat)(h:i<n):A.bd n (.sl i ver k o m)=true:=by simpa [A.bd]using h
theorem xo6(n i ver o:Nat)(h:i<n):A.bd n (.lp i ver o)=true:=by simpa [A.bd]using h
theorem xo7(n i ver k m:Nat)(h:i<n):A.bd n (.vs i ver k m)=true:=by simpa [A.bd]using h
theorem y3n(a:A)(l:List A):A.clL (a :: l)=(a.cl && A.clL l):=rfl
theorem y7S:A.clL []=true:=rfl
theorem cl_v(x:Value):A.cl (.v x)=true:=rfl
theorem xo8(w:Bool)(l:List A):A.cl (.fs w l)=(w && A.clL l):=rfl
theorem xo9(w:Bool)(l:List A):A.cl (.fp w l)=(w && A.clL l):=rfl
theorem y7T(l:List A):A.cl (.agg l)=A.clL l:=rfl
theorem y7U(l:List A):A.cl (.tup l)=A.clL l:=rfl
theorem xp0(i ver k o m:Nat):A.cl (.sl i ver k o m)=true:=rfl
theorem xp1(i ver k m:Nat):A.cl (.vs i ver k m)=true:=rfl
theorem xp2(i ver o:Nat):A.cl (.lp i ver o)=true:=rfl
theorem zK3(m:Nat)(H:List Blk)(i ver:Nat)(n:Nat)(xs:List Int)(hi:m≤i)(hn:n=xs.length)(hb:blkAt H i ver=some (ints xs)):Fz m H (.sl i ver 1 0 n) (.fs true (ints xs)):=by
 subst hn
 exact Fz.sl hi hb (FzL.refl (zl4 m xs)) (by simp [z8d,z5l,yH4]) (zU1 xs) (by simp [zU1])
theorem xp3(m:Nat)(H:List Blk)(i ver:Nat)(n:Nat)(xs:List (List Int))(hi:m≤i)(hn:n=xs.length)(hb:blkAt H i ver=some (rows true xs)):Fz m H (.sl i ver 1 0 n) (.fs true (rows true xs)):=by
 subst hn
 exact Fz.sl hi hb (FzL.refl (r_bd m true xs)) (by simp [yU8,z3c,y3a]) (zH8 true xs) (by simp [zH8])
theorem xp4(m:Nat)(H:List Blk)(i ver:Nat)(n:Nat)(xs:List Int)(hi:m≤i)(hn:n=xs.length)(hb:blkAt H i ver=some (ints xs)):Fz m H (.vs i ver 1 n) (.fs true (ints xs)):=by
 subst hn
 exact Fz.vs hi hb (FzL.refl (zl4 m xs)) (by simp [z8d,z5l,yH4]) (zU1 xs) (by simp [zU1])
theorem xp5(m:Nat)(H:List Blk)(i ver:Nat)(n:Nat)(xs:List Bool)(hi:m≤i)(hn:n=xs.length)(hb:blkAt H i ver=some (za9 xs)):Fz m H (.vs i ver 1 n) (.fs true (za9 xs)):=by
 subst hn
 exact Fz.vs hi hb (FzL.refl (b_bd m xs)) (by simp [y20,y21,y9e]) (yU7 xs) (by simp [yU7])
theorem y7V(m:Nat)(H:List Blk)(i ver:Nat)(n:Nat)(xs:List (List Int))(hi:m≤i)(hn:n=xs.length)(hb:blkAt H i ver=some (rows true xs)):Fz m H (.vs i ver 1 n) (.fs true (rows true xs)):=by
 subst hn
 exact Fz.vs hi hb (FzL.refl (r_bd m true xs)) (by simp [yU8,z3c,y3a]) (zH8 true xs) (by simp [zH8])
theorem z3d(m:Nat)(H:List Blk):Fz m H (.v (.slice none 0 0)) (.fs true []):=fun c v hH hs hr=>by
 cases hr;exact .fs0 true none 0
theorem y7W(H:List Blk)(a:A):Ld H a .any=True:=eq_true Ld.any
theorem ld_v(H:List Blk)(x:Value):Ld H (.v x) (.v x)=True:=eq_true (Ld.refl rfl)
theorem xp6(H:List Blk)(w:Bool)(l:List A)(h:A.bdL 0 l=true):Ld H (.fs w l) (.fs false l)=True:=eq_true (Ld.fs h)
theorem y7X(H:List Blk)(w:Bool)(l:List A)(h:A.bdL 0 l=true):Ld H (.fs w l) (.fs w l)=True:=eq_true (Ld.refl (by simpa [A.bd]using h))
theorem y7Y(H:List Blk)(w:Bool)(l:List A)(h:A.bdL 0 l=true):Ld H (.fp w l) (.fp false l)=True:=eq_true (Ld.fp h)
theorem y7Z(H:List Blk)(w:Bool)(l:List A)(h:A.bdL 0 l=true):Ld H (.fp w l) (.fp w l)=True:=eq_true (Ld.refl (by simpa [A.bd]using h))
theorem y3o(H:List Blk)(l r:List A)(h:LdL H l r):Ld H (.agg l) (.agg r)=True:=eq_true (Ld.agg h)
theorem y70(H:List Blk)(f:Nat)(l:List A)(h:A.bdL 0 l=true):Ld H (.fn f l) (.fn f l)=True:=eq_true (Ld.refl (by simpa [A.bd]using h))
theorem yV5(H:List Blk)(a b:A)(l r:List A):LdL H (a :: l) (b :: r)=(Ld H a b∧LdL H l r):=rfl
theorem y3p(H:List Blk):LdL H [] []=True:=rfl
theorem zD6(H:List Blk)(i ver:Nat)(n:Nat)(xs:List Int)(hn:n=xs.length)(hb:blkAt H i ver=some (ints xs)):Ld H (.sl i ver 1 0 n) (.fs false (ints xs)):=by
 subst hn
 exact Ld.sl hb (LdL.refl (zl4 0 xs)) (by simp [z8d,z5l,yH4]) (zU1 xs) (by simp [zU1])
theorem y9f(H:List Blk):Ld H (.v (.slice none 0 0)) (.fs false []):=fun c v hH hs hr=>by
 cases hr;exact .fs0 false none 0
def FzB(m:Nat)(H:List Blk):List Blk→List Blk→Prop
 | _,[]=>True
 | B :: r,B' :: r'=>B.ver=B'.ver∧FzL m H B.cells B'.cells∧FzB m H r r'
 | [],_ :: _=>False
theorem FzB.get{m:Nat}{H:List Blk}:∀{l r:List Blk},FzB m H l r→∀(i:Nat) (B':Blk),r[i]?=some B'→∃B,l[i]?=some B∧B.ver=B'.ver∧FzL m H B.cells B'.cells
 | _,[],_,i,B',h=>by simp at h
 | B :: l,C :: r,hz,i,B',h=>by
  cases i with
  | zero=>simp at h;subst h;exact⟨B,by simp,hz.1,hz.2.1⟩
  | succ i=>simp at h;obtain⟨D,h1,h2⟩:=FzB.get hz.2.2 i B' h;exact⟨D,by simpa using h1,h2⟩
 | [],_ :: _,hz,_,_,_=>hz.elim
theorem yH5(m:Nat)(H l:List Blk):FzB m H l []=True:=by cases l<;>rfl
theorem yV6(m:Nat)(H:List Blk)(v v':Nat)(c c':List A)(l r:List Blk):FzB m H (⟨v,c⟩ :: l) (⟨v',c'⟩ :: r)=(v=v'∧FzL m H c c'∧FzB m H l r):=rfl
theorem Cut.of'{n0:Nat}{e e':List A}{H H':List Blk}(m:Nat)(hl:H'.length=m)(hm:n0≤m)(hb:FzB m H H H')(he:FzL m H e e'):Cut n0 e H e' H':=Cut.of hm hl (FzB.get hb) he
theorem Cut.refl(n0:Nat)(e:List A)(H:List Blk):Cut n0 e H e H:=fun c ev h1 h2 h3 h4=>⟨c,h1,rfl,Lat.refl _ _,h3,h4⟩
theorem aL:type_of% (ai9 @zU1<|ai9 @y7C<|ai9 @y7D<|ai9 @y7E<|ai9 @y2X<|ai9 @y2Y<|ai9 @y7F<|ai9 @y7G<|ai9 @z8d<|ai9 @y2Z<|ai9 @yU6<|ai9 @zl4<|ai9 @yl3<|ai9 @xm2<|ai9 @z5l<|ai9 @y7H<|ai9 @yU7<|ai9 @xm3<|ai9 @xm4<|ai9 @xm5<|ai9 @xm6<|ai9 @y7I<|ai9 @xm7<|ai9 @y20<|ai9 @y7J<|ai9 @y9c<|ai9 @b_bd<|ai9 @b_cl<|ai9 @y21<|ai9 @y9d<|ai9 @xm8<|ai9 @p_bd<|ai9 @p_cl<|ai9 @y22<|ai9 @y23<|ai9 @y24<|ai9 @xm9<|ai9 @y7K<|ai9 @y25<|ai9 @xn0<|ai9 @zH8<|ai9 @xn1<|ai9 @xn2<|ai9 @xn3<|ai9 @y26<|ai9 @xn4<|ai9 @yU8<|ai9 @y7L<|ai9 @y5Y<|ai9 @r_bd<|ai9 @r_cl<|ai9 @r_sz<|ai9 @z3c<|ai9 @xn5<|ai9 @y27<|ai9 @y28<|ai9 @y29<|ai9 @tkPc<|ai9 @yU9<|ai9 @yV0<|ai9 @yV1<|ai9 @y3b<|ai9 @y3c<|ai9 @y3d<|ai9 @y3e<|ai9 @y3f<|ai9 @y3g<|ai9 @y3h<|ai9 @y3i<|ai9 @y3j<|@y3k):=⟨@zU1,@y7C,@y7D,@y7E,@y2X,@y2Y,@y7F,@y7G,@z8d,@y2Z,@yU6,@zl4,@yl3,@xm2,@z5l,@y7H,@yU7,@xm3,@xm4,@xm5,@xm6,@y7I,@xm7,@y20,@y7J,@y9c,@b_bd,@b_cl,@y21,@y9d,@xm8,@p_bd,@p_cl,@y22,@y23,@y24,@xm9,@y7K,@y25,@xn0,@zH8,@xn1,@xn2,@xn3,@y26,@xn4,@yU8,@y7L,@y5Y,@r_bd,@r_cl,@r_sz,@z3c,@xn5,@y27,@y28,@y29,@tkPc,@yU9,@yV0,@yV1,@y3b,@y3c,@y3d,@y3e,@y3f,@y3g,@y3h,@y3i,@y3j,@y3k⟩
theorem aF:type_of% (ai9 @y7M<|ai9 @fz_v<|ai9 @xn6<|ai9 @xn7<|ai9 @xn8<|ai9 @xn9<|ai9 @xo0<|ai9 @y7N<|ai9 @y7O<|ai9 @xo1<|ai9 @yV2<|ai9 @y3l<|ai9 @yV3<|ai9 @yV4<|ai9 @y3m<|ai9 @y7P<|ai9 @bd_v<|ai9 @xo2<|ai9 @xo3<|ai9 @y7Q<|ai9 @y7R<|ai9 @xo4<|ai9 @xo5<|ai9 @xo6<|ai9 @xo7<|ai9 @y3n<|ai9 @y7S<|ai9 @cl_v<|ai9 @xo8<|ai9 @xo9<|ai9 @y7T<|ai9 @y7U<|ai9 @xp0<|ai9 @xp2<|ai9 @xp1<|ai9 @y7W<|ai9 @ld_v<|ai9 @xp6<|ai9 @y7X<|ai9 @y7Y<|ai9 @y7Z<|ai9 @y3o<|ai9 @y70<|ai9 @yV5<|ai9 @y3p<|ai9 @yH5<|@yV6):=⟨@y7M,@fz_v,@xn6,@xn7,@xn8,@xn9,@xo0,@y7N,@y7O,@xo1,@yV2,@y3l,@yV3,@yV4,@y3m,@y7P,@bd_v,@xo2,@xo3,@y7Q,@y7R,@xo4,@xo5,@xo6,@xo7,@y3n,@y7S,@cl_v,@xo8,@xo9,@y7T,@y7U,@xp0,@xp2,@xp1,@y7W,@ld_v,@xp6,@y7X,@y7Y,@y7Z,@y3o,@y70,@yV5,@y3p,@yH5,@yV6⟩
end Go.Lft
