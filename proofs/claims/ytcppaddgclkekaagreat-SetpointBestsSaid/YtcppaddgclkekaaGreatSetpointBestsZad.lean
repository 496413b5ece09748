/- Lemmas and walks that the proof of SetpointBests uses. No statement is claimed here. -/
import Derived.Test.YtcppaddgclkekaaGreatSetpointBestsZac
namespace Go.Lft
open Go
section
variable {P:Program} {ops:Array Oper} {V:List Nat} {m:Nat} {kp:Nat→Bool} {D:List Deferred}
structure Good(D:List Deferred)(m:Nat)(a:Act):Prop where
 defers:a.defers=D
 size:a.tmps.size=m
theorem Good.put{a:Act}(h:Good D m a)(d:Option Nat)(v:Value):Good D m (a.put d v):=by
 cases d with
 | none=>exact h
 | some d=>exact⟨h.defers,by simp [Act.put,h.size]⟩
theorem y84{a:Act}{d:Option Nat}{v:Value}(hV:zC2 V=true)(hd:∀t,d=some t→t<a.tmps.size):x4 V (a.put d v)=put (x4 V a) (d.bind (pos V)) v:=by
 cases d with
 | none=>rfl
 | some d =>
  simp only[Option.bind_some]
  cases hp':pos V d with
  | none=>rw[W3 hp'];rfl
  | some k=>rw[zg5 hV (hd d rfl) hp'];rfl
theorem y1E{σ:List Ent}{a:Act}{h:Heap}{d:Option Nat}{v:Value}(hV:zC2 V=true)(hd:∀t,d=some t→t<a.tmps.size)(hI:Inv ops V σ a h):
    Inv ops V (z77 ops V d σ) (a.put d v) h:=by
  cases d with
  | none=>exact hI
  | some d =>
    cases hp':pos V d with
    | some k=>simp only[z77,hp'];exact zO7 hV (hd d rfl) hp' hI
    | none=>simp only[z77,hp'];exact zD3 hp' hI
theorem z5e{i:Nat}{o:Oper}(ho:ops[i]?=some o):kdAt ops i=kdOf o.op:=by simp [kdAt,ho]
theorem y1F(op:Op):kdOf op≤4:=by unfold kdOf;split<;>omega
theorem zO8 {i : Nat} {o : Oper} {a : Act} {h : Heap} {K : Act → Heap → Prop} (ho : ops[i]? = some o) (hw : Region.wanted o (yielded ops a.tmps) = true) (hk : kdOf o.op < 2) {v : Value}
    (hs:∀w,(kdOf o.op=0∨Ext h (hp w))→(execOp a.eval o).run P w=.ok (.value v) w) (hK:K (a.put o.dst v) h):zr8 P ops (kdAt ops) kp i K a h:=by
  unfold zr8
  simp only[ho,hw,if_true,z5e ho]
  have:kdOf o.op=0∨kdOf o.op=1:=by omega
  rcases this with h0|h0<;>simp only[h0]
  · exact⟨v,fun w _=>hs w (.inl h0),hK⟩
  · exact⟨v,fun w hw'=>hs w (.inr (hw'.resolve_left (by simp))),hK⟩
theorem yg4{i:Nat}{o:Oper}{a:Act}{h:Heap}{K:Act→Heap→Prop}(ho:ops[i]?=some o)(hw:Region.wanted o (yielded ops a.tmps)=false)(hK:K (a.put o.dst undef) h):zr8 P ops (kdAt ops) kp i K a h:=by
 unfold zr8
 simp only[ho,hw,if_false,Bool.false_eq_true]
 exact hK
theorem Calls.did {o : Oper} {a : Act} {w : World} {f : Nat} {args : Array Value} {K : Act → World → Prop} (hr : (execOp a.eval o).run P w = .ok (.enter f args) w)
    (hc:Calls P f args w fun e w'=>∃v,e=.returned v∧K (a.put o.dst v) w'):o.wp P a w K (fun _ _ _=>False):=by
  unfold Oper.wp
  rw[hr]
  refine Calls.mono hc fun e w' he=>?_
  obtain⟨v,rfl,hK⟩:=he
  exact hK
theorem y1G{o:Oper}{a:Act}{c:Call}{x:Operand}{l:Nat}{w:World}(ho:o.op=.call c)(hc:c.callee=.value x)(hx:a.eval x=.func (.yield l) #[] #[]):
    (execOp a.eval o).run P w=(Instr.yield l (c.args.map a.eval)).run P w:=by
  simp only[execOp,ho,resolve,hc,hx,Deferred.ofValue,Sem.run_bind,Sem.run_pure,Result.andThen_ok,invoke,Array.empty_append,Array.append_empty]
theorem zx4 (hV : zC2 V = true) {leaf : List Ent → Option S} {Q : Ex → List Value → Heap → Prop} {QC : Act → Heap → Prop}
    (hleaf:∀σ s a h,leaf σ=some s→Good D m a→Inv ops V σ a h→s.wp P Q (x4 V a) h→QC a h) :
    ∀(f:Nat) (σ:List Ent) (l:List Nat) (s:S),zf2 P ops m V kp leaf f σ l=some s→∀(a:Act) (h:Heap),Good D m a→Inv ops V σ a h→s.wp P Q (x4 V a) h→wpC P ops (kdAt ops) kp QC l a h
  | 0,σ,l,s,hc,_,_,_,_,_=>by simp [zf2]at hc
  | f+1,σ,[],s,hc,a,h,hg,hI,hs=>hleaf σ s a h (by simpa [zf2]using hc) hg hI hs
  | f+1,σ,i :: rest,s,hc,a,h,hg,hI,hs=>by
    have IH:=zx4 hV hleaf f
    simp only[zf2,Option.bind_eq_some_iff]at hc
    obtain⟨o,ho,hc⟩:=hc
    by_cases hdm:y8Z m o.dst=true
    case neg=>rw[if_neg hdm]at hc;cases hc
    rw[if_pos hdm]at hc
    have hd:∀t,o.dst=some t→t<a.tmps.size:=fun t ht=>by
      rw[ht]at hdm
      rw[hg.size];simpa [y8Z]using hdm
    simp only[wpC]
    split at hc
    · cases hc
    ·
      rename_i hst
      refine yg4 ho (y0N hI hst) ?_
      split at hc
      · rename_i hdst
        rw[hdst]
        exact IH σ rest s hc _ _ hg hI hs
      · rename_i d hdst
        rw[hdst]
        split at hc
        · rename_i k hk
          obtain⟨s',hs',rfl⟩:=Option.map_eq_some_iff.1 hc
          obtain⟨v,hv,hw⟩:=hs
          simp only[X.ev,Option.some.injEq]at hv
          subst hv
          refine IH _ rest s' hs' _ _ (hg.put _ _) (zO7 hV (hd d hdst) hk hI) ?_
          rw[zg5 hV (hd d hdst) hk];exact hw
        · rename_i hk
          refine IH _ rest s hc _ _ (hg.put _ _) (z7H ⟨?_,fun g x hb=>by cases hb⟩ (zD3 hk hI)) ?_
          · simp only[X.ev];rw[zh3 (hd d hdst)]
          · rw[W3 hk];exact hs
    ·
      rename_i hst
      have hwant:=y1C hI hst
      split at hc
      · rename_i hk2
        simp only[Option.bind_eq_some_iff]at hc
        obtain⟨k,hkc,hc⟩:=hc
        have hT:=zg4 hI (ok:=[]) (fun g hg=>by cases hg)
        have after:∀v h',((kdOf o.op=3→Ext h h'))→k.wp P Q (put (x4 V a) (o.dst.bind (pos V)) v) h'→wpC P ops (kdAt ops) kp QC rest (a.put o.dst v) h':=by
          intro v h' he hw
          refine IH _ rest k hkc _ _ (hg.put _ _) ?_ (by rw[y84 hV hd];exact hw)
          split
          · rename_i h3
            exact y83 (he h3) (y1E hV hd hI)
          · exact y82 (y1E hV hd hI)
        split at hc
        · rename_i e he
          cases hc
          have hle:=y1F o.op
          have hkd:kdOf o.op=2∨kdOf o.op=3∨kdOf o.op=4:=by omega
          rcases hkd with hkd|hkd|hkd
          · have:=y1y (P:=P) (a:=a) hT hkd he hs
            unfold zr8
            simp only[ho,hwant,if_true,z5e ho,hkd]
            intro w hw
            refine Oper.wpIn_mono ?_ (Oper.wpIn_of_wp (this w hw))
            rintro a' w' ⟨hr,v,rfl,hkp,hw'⟩
            exact⟨hr,hkp,after v _ (fun h3=>by omega) hw'⟩
          · obtain⟨sh,O,hm,hR⟩:=y0M (P:=P) (a:=a) hT hkd he hs
            unfold zr8
            simp only[ho,hwant,if_true,z5e ho,hkd]
            exact⟨sh,O,hm,fun b hb=>after _ _ (fun _=>Ext.upd hb O) (hR b hb).2⟩
          · obtain⟨b,off,vs,h',hst',hwr,hR⟩:=yG4 (P:=P) (a:=a) hT hkd he hs
            unfold zr8
            simp only[ho,hwant,if_true,z5e ho,hkd]
            exact⟨b,off,vs,h',hst',hwr,after _ _ (fun h3=>by omega) hR.2⟩
        · split at hc
          · rename_i c hcall
            have hkd:kdOf o.op=2:=by
              have hle:=y1F o.op
              rw[hcall]at hk2 ⊢
              unfold kdOf at hk2 ⊢
              split at hk2<;>first|contradiction|omega|rfl
            unfold xd9 at hc
            have fin : ∀ (x : Operand) (g : Nat) (caps : Array Value) (vs : List Value), c.callee = .value x → a.eval x = .func (.func g) #[] caps → zs0 P g = true → c.args.toList.map a.eval = vs →
                (Runs P g (vs++caps.toList) h fun v h'=>(kp i=true→Ext h h')∧k.wp P Q (put (x4 V a) (o.dst.bind (pos V)) v) h')→zr8 P ops (kdAt ops) kp i (wpC P ops (kdAt ops) kp QC rest) a h:=by
              intro x g caps vs hcal hx hb hvs hfn
              unfold zr8
              simp only[ho,hwant,if_true,z5e ho,hkd]
              intro w hw
              have hargs:c.args.map a.eval++caps=(vs++caps.toList).toArray:=by
                apply Array.ext';simp [← hvs]
              refine Oper.wpIn_of_wp (Calls.did (y5M hcall hcal hx hb) ?_)
              rw[hargs]
              refine(hfn w hw).mono ?_
              rintro e w' ⟨v,rfl,⟨hkp,hw'⟩,hr⟩
              exact⟨v,rfl,hr,hkp,after v _ (fun h3=>by omega) hw'⟩
            split at hc
            · rename_i g hcal
              split at hc
              · rename_i hb
                obtain⟨as,has,rfl⟩:=Option.map_eq_some_iff.1 hc
                obtain⟨vs,hvs,hfn⟩:=hs
                have:=z05 hT _ _ has
                rw[this]at hvs
                simp only[Option.some.injEq]at hvs
                exact fin _ g #[] vs hcal rfl hb hvs (by simpa using hfn)
              · cases hc
            · rename_i x hcal
              simp only[Option.bind_eq_some_iff]at hc
              obtain⟨fx,hfx,hc⟩:=hc
              obtain⟨as,has,rfl⟩:=Option.map_eq_some_iff.1 hc
              obtain⟨fv,vs,hgv,hvs,hfn⟩:=hs
              have h1:=hT _ _ hfx
              rw[h1]at hgv
              simp only[Option.some.injEq]at hgv
              have:=z05 hT _ _ has
              rw[this]at hvs
              simp only[Option.some.injEq]at hvs
              rcases hfn with⟨g,caps,rfl,hb,hfn⟩|⟨l,rfl,hfn⟩
              · exact fin _ g caps vs hcal hgv hb hvs hfn
              · unfold zr8
                simp only[ho,hwant,if_true,z5e ho,hkd]
                intro w hw
                obtain⟨fn,tmps,assign,body,hy,hR⟩:=hfn w hw
                refine z56 ?_
                rw[y1G hcall hcal hgv,show c.args.map a.eval=vs.toArray by apply Array.ext';simp [← hvs],hy]
                refine⟨fun _=>Nat.le_refl _,hR.mono ?_⟩
                rintro e w' ⟨v,rfl,⟨hkp,hw'⟩,hr⟩
                exact⟨hr,hkp,after v _ (fun h3=>by omega) hw'⟩
            · cases hc
          · cases hc;exact hs.elim
          · cases hc
      · rename_i hk2
        simp only[Option.bind_eq_some_iff]at hc
        obtain⟨x,hx,hc⟩:=hc
        have hrun:=fun{v:Value} (hv:x.ev (x4 V a) h=some v) (w:World) (hw:kdOf o.op=0∨Ext h (hp w))=>z78 (P:=P) hI (ok:=[]) (fun g hg=>by cases hg) hx hv hw
        split at hc
        · rename_i hdst
          obtain⟨s',hs',rfl⟩:=Option.map_eq_some_iff.1 hc
          obtain⟨v,hv,hw⟩:=hs
          refine zO8 ho hwant (by omega) (hrun hv) ?_
          rw[hdst]
          exact IH σ rest s' hs' _ _ hg hI hw
        · rename_i d hdst
          split at hc
          · rename_i k hk
            obtain⟨s',hs',rfl⟩:=Option.map_eq_some_iff.1 hc
            obtain⟨v,hv,hw⟩:=hs
            refine zO8 ho hwant (by omega) (hrun hv) ?_
            rw[hdst]
            refine IH _ rest s' hs' _ _ (hg.put _ _) (zO7 hV (hd d hdst) hk hI) ?_
            rw[zg5 hV (hd d hdst) hk];exact hw
          · rename_i hk
            obtain⟨s',hs',rfl⟩:=Option.map_eq_some_iff.1 hc
            obtain⟨v,hv,hw⟩:=hs
            refine zO8 ho hwant (by omega) (hrun hv) ?_
            rw[hdst]
            refine IH _ rest s' hs' _ _ (hg.put _ _) (z7H ⟨?_,fun g x hb=>by cases hb⟩ (zD3 hk hI)) ?_
            · rw[W3 hk,zh3 (hd d hdst)];exact hv
            · rw[W3 hk];exact hw
    ·
      rename_i g hst
      have hgd:=y1D hst
      split at hc
      · rename_i hk2
        simp only[Option.bind_eq_some_iff]at hc
        obtain⟨⟨d,c⟩,hb,s1,hs1,hc⟩:=hc
        obtain⟨s2,hs2,rfl⟩:=Option.map_eq_some_iff.1 hc
        obtain⟨t,ht,h1,h2⟩:=hs
        have hbv:=yg3 hI _ _ hb
        rw[hbv]at ht
        simp only[Option.some.injEq]at ht
        cases t with
        | true=>exact IH _ (i :: rest) s1 hs1 a h hg (yg2 ht hI) (h1 rfl)
        | false=>exact IH _ (i :: rest) s2 hs2 a h hg (yg2 ht hI) (h2 rfl)
      · rename_i hk2
        simp only[Option.bind_eq_some_iff]at hc
        obtain⟨x,hx,y,hy,hc⟩:=hc
        have step:∀v,y.ev (x4 V a) h=some v→wpC P ops (kdAt ops) kp QC rest (a.put o.dst v) h→zr8 P ops (kdAt ops) kp i (wpC P ops (kdAt ops) kp QC rest) a h:=by
          intro v hv hK
          obtain⟨g1,g2⟩:=zZ3 hI _ _ _ _ _ hy hv
          cases hw:Region.wanted o (yielded ops a.tmps)with
          | true =>
            have hyj:=(z08 hgd).1 hw
            exact zO8 ho hw (by omega) (fun w hw'=>z78 (P:=P) hI (ok:=[g]) (fun g' hg'=>by simp at hg';subst hg';exact hyj) hx (g1 hyj) hw') hK
          | false =>
            have hyj:yielded ops a.tmps g.1≠some g.2:=fun hc=>by rw[(z08 hgd).2 hc]at hw;cases hw
            have:=g2 hyj
            subst this
            exact yg4 ho hw hK
        split at hc
        · rename_i hdst
          obtain⟨s',hs',rfl⟩:=Option.map_eq_some_iff.1 hc
          obtain⟨v,hv,hw⟩:=hs
          refine step v hv ?_
          rw[hdst]
          exact IH σ rest s' hs' _ _ hg hI hw
        · rename_i d hdst
          split at hc
          · rename_i k hk
            obtain⟨s',hs',rfl⟩:=Option.map_eq_some_iff.1 hc
            obtain⟨v,hv,hw⟩:=hs
            refine step v hv ?_
            rw[hdst]
            refine IH _ rest s' hs' _ _ (hg.put _ _) (zO7 hV (hd d hdst) hk hI) ?_
            rw[zg5 hV (hd d hdst) hk];exact hw
          · rename_i hk
            obtain⟨s',hs',rfl⟩:=Option.map_eq_some_iff.1 hc
            obtain⟨v,hv,hw⟩:=hs
            refine step v hv ?_
            rw[hdst]
            refine IH _ rest s' hs' _ _ (hg.put _ _) (z7H ⟨?_,fun g' x' hb=>?_⟩ (zD3 hk hI)) ?_
            · rw[W3 hk,zh3 (hd d hdst)];exact hv
            · dsimp only at hb
              split at hb
              · cases hb
              · rename_i hne
                simp only[Option.some.injEq,Prod.mk.injEq]at hb
                obtain⟨rfl,rfl⟩:=hb
                obtain⟨g1,g2⟩:=zZ3 hI _ _ _ _ _ hy hv
                rw[z2u (by simpa using hne),W3 hk]
                simp only[zh3 (hd d hdst)]
                exact⟨g1,g2⟩
            · rw[W3 hk];exact hw
theorem z5f{a:Act}{h:Heap}:Inv ops V [] a h:=fun n hn=>by cases hn
theorem zr0 {nk : Bool} (hV : zC2 V = true) {leaf : List Ent → Option S} {Q : Ex → List Value → Heap → Prop} {QC : Act → Heap → Prop}
    (hleaf:∀σ s a h,leaf σ=some s→Good D m a→Inv ops V σ a h→s.wp P Q (x4 V a) h→QC a h) :
    ∀(f:Nat) (ex:List (Nat×Nat)) (s:S),z07 P m V nk ops leaf f ex=some s→∀(a:Act) (w:World),Good D m a→s.wp P Q (x4 V a) (hp w)→z75 P ops QC ex a w
  | 0,_,_,hc,_,_,_,_=>by simp [z07]at hc
  | f+1,ex,s,hc,a,w,hg,hs=>by
    simp only[z07]at hc
    split at hc
    · rename_i hok
      exact ys9 hok (zx4 hV hleaf _ _ _ _ hc a _ hg z5f hs)
    · split at hc
      · cases hc
      · split at hc
        · cases hc
        · rename_i i j _ hne
          simp only[Option.bind_eq_some_iff]at hc
          obtain⟨s1,h1,hc⟩:=hc
          obtain⟨s2,h2,rfl⟩:=Option.map_eq_some_iff.1 hc
          exact yt0 hne (zr0 hV hleaf f _ _ h1 a w hg hs.1) (zr0 hV hleaf f _ _ h2 a w hg hs.2)
theorem zO9 {nk : Bool} (hm : P.follows .mixedOrders = true) (hV : zC2 V = true) {id : Nat} {draw : Bool} {leaf : List Ent → Option S} {Q : Ex → List Value → Heap → Prop} {QC : Act → Heap → Prop}
    (hleaf:∀σ s a h,leaf σ=some s→Good D m a→Inv ops V σ a h→s.wp P Q (x4 V a) h→QC a h) {s:S} (hc:zo8 P m V nk ops draw leaf=some s) {a:Act} {w:World} (hg:Good D m a) (hs:s.wp P Q (x4 V a) (hp w)) :
    (Code.region id ops draw).wp P (fun e a w'=>e=.normal∧Rest w w'∧QC a (hp w')) a w:=by
  unfold zo8 at hc
  cases draw with
  | true=>exact y1u hm (zr0 hV hleaf _ _ _ hc a w hg hs)
  | false=>exact y5J (zx4 hV hleaf _ _ _ _ hc a _ hg z5f hs)
def CQ(D:List Deferred)(m:Nat)(V:List Nat)(w0:World)(Q:Ex→List Value→Heap→Prop):Exit→Act→World→Prop:=fun e a w =>
 Good D m a∧Rest w0 w∧match e with
  | .normal=>Q .nxt (x4 V a) (hp w)
  | .exit i=>Q (.exit i) (x4 V a) (hp w)
  | .ret=>Q .ret (x4 V a) (hp w)
  | _=>False
theorem zZ5{Q:Ex→List Value→Heap→Prop}:∀(a b:S) (e:List Value) (h:Heap),(a.app b).wp P Q e h→(S.seq a b).wp P Q e h
 | .nxt,b,e,h,hs=>hs
 | .set i x s,b,e,h,hs=>by
  obtain⟨v,h1,h2⟩:=hs
  exact⟨v,h1,zZ5 s b _ _ h2⟩
 | .chk x s,b,e,h,hs=>by
  obtain⟨v,h1,h2⟩:=hs
  exact⟨v,h1,zZ5 s b _ _ h2⟩
 | .eff p d f s,b,e,h,hs=>by
  have hs':E.ok e h (fun v h'=>(p=true→Ext h h')∧(s.app b).wp P Q (put e d v) h') f:=hs
  have:=E.ok_mono (R':=fun v h'=>(p=true→Ext h h')∧(S.seq s b).wp P Q (put e d v) h') (fun _ _ hh=>⟨hh.1,zZ5 s b _ _ hh.2⟩) hs'
  exact this
 | .call p d f as s,b,e,h,hs=>by
  obtain⟨vs,h1,h2⟩:=hs
  exact⟨vs,h1,h2.mono fun _ _ hh=>⟨hh.1,zZ5 s b _ _ hh.2⟩⟩
 | .callv p d f as s,b,e,h,hs=>by
  obtain⟨fv,vs,h1,h2,h3⟩:=hs
  exact⟨fv,vs,h1,h2,h3.mono fun _ _ hh=>⟨hh.1,zZ5 s b _ _ hh.2⟩⟩
 | .ite c x y,b,e,h,hs=>hs
 | .both x y,b,e,h,hs=>hs
 | .seq x y,b,e,h,hs=>hs
 | .blk i x,b,e,h,hs=>hs
 | .loop x,b,e,h,hs=>hs
 | .exit i,b,e,h,hs=>hs
 | .ret,b,e,h,hs=>hs
 | .stop,b,e,h,hs=>hs
theorem z09{σ:List Ent}{a:Act}{h:Heap}{c:Operand}{q:X}(hI:Inv ops V σ a h)(ht:trans V σ [] c=some q):q.ev (x4 V a) h=some (a.eval c):=zg4 hI (fun g hg=>by cases hg) _ _ ht
theorem z5g{Q:Exit→Act→World→Prop}{c:Operand}{x y:Code}{a:Act}{w:World}{t:Bool}(hc:a.eval c=.bool t)(h1:t=true→x.wp P Q a w)(h2:t=false→y.wp P Q a w):(Code.cond c x y).wp P Q a w:=wp_cond_split hc h1 h2
theorem zz3{nk:Bool}(hm:P.follows .mixedOrders=true)(hV:zC2 V=true){w0:World}:∀(c:Code) (s:S),comp P m V nk c=some s→∀(Q:Ex→List Value→Heap→Prop) (a:Act) (w:World),Good D m a→Rest w0 w→s.wp P Q (x4 V a) (hp w)→c.wp P (CQ D m V w0 Q) a w:=by
  have reg : ∀ {id : Nat} {ops : Array Oper} {draw : Bool} {s : S} (_ : zo8 P m V nk ops draw (fun _ => some .nxt) = some s) (Q : Ex → List Value → Heap → Prop) (a : Act) (w : World), Good D m a → Rest w0 w → s.wp P Q (x4 V a) (hp w) →
      (Code.region id ops draw).wp P (CQ D m V w0 Q) a w:=by
    intro id ops draw s hc Q a w hg hr hs
    refine wp_mono (zO9 hm hV (QC:=fun a h=>Good D m a∧Q .nxt (x4 V a) h) (fun σ s a h h1 h2 h3 h4=>?_) hc hg hs) ?_
    · cases h1;exact⟨h2,h4⟩
    · rintro e a' w' ⟨rfl,hr',hg',hq⟩
      exact⟨hg',hr.trans hr',hq⟩
  have regc : ∀ {id : Nat} {ops : Array Oper} {draw : Bool} {s A B : S} {c : Operand} {x y : Code} (_ : zo8 P m V nk ops draw (fun σ => (trans V σ [] c).map fun q => .ite q A B) = some s) (Q : Ex → List Value → Heap → Prop) (a : Act) (w : World),
      (∀(a:Act) (w:World),Good D m a→Rest w0 w→A.wp P Q (x4 V a) (hp w)→x.wp P (CQ D m V w0 Q) a w)→(∀(a:Act) (w:World),Good D m a→Rest w0 w→B.wp P Q (x4 V a) (hp w)→y.wp P (CQ D m V w0 Q) a w) →
      Good D m a→Rest w0 w→s.wp P Q (x4 V a) (hp w)→(Code.seq (.region id ops draw) (.cond c x y)).wp P (CQ D m V w0 Q) a w:=by
    intro id ops draw s A B c x y hc Q a w hA hB hg hr hs
    refine Go.wp_seq (wp_mono (zO9 hm hV (QC:=fun a h=>Good D m a∧∃t,a.eval c=.bool t∧(t=true→A.wp P Q (x4 V a) h)∧(t=false→B.wp P Q (x4 V a) h)) (fun σ s a h h1 h2 h3 h4=>?_) hc hg hs) ?_)
    · obtain⟨q,hq,rfl⟩:=Option.map_eq_some_iff.1 h1
      obtain⟨t,ht,g1,g2⟩:=h4
      rw[z09 h3 hq]at ht
      exact⟨h2,t,by simpa using ht,g1,g2⟩
    · rintro e a' w' ⟨rfl,hr',hg',t,ht,g1,g2⟩
      exact z5g ht (fun h=>hA a' w' hg' (hr.trans hr') (g1 h)) (fun h=>hB a' w' hg' (hr.trans hr') (g2 h))
  have sq : ∀ {c1 c2 : Code} {A B : S} (Q : Ex → List Value → Heap → Prop) (a : Act) (w : World), (∀ (Q : Ex → List Value → Heap → Prop) (a : Act) (w : World), Good D m a → Rest w0 w → A.wp P Q (x4 V a) (hp w) → c1.wp P (CQ D m V w0 Q) a w) →
      (∀(a:Act) (w:World),Good D m a→Rest w0 w→B.wp P Q (x4 V a) (hp w)→c2.wp P (CQ D m V w0 Q) a w)→Good D m a→Rest w0 w→(S.seq A B).wp P Q (x4 V a) (hp w)→(Code.seq c1 c2).wp P (CQ D m V w0 Q) a w:=by
    intro c1 c2 A B Q a w h1 h2 hg hr hs
    refine Go.wp_seq (wp_mono (h1 _ a w hg hr hs) ?_)
    rintro e a' w' ⟨hg',hr',hq⟩
    cases e with
    | normal=>exact h2 a' w' hg' hr' hq
    | exit i=>exact⟨hg',hr',hq⟩
    | ret=>exact⟨hg',hr',hq⟩
    | goto l=>exact hq.elim
    | panic ch=>exact hq.elim
    | outgrown=>exact hq.elim
  intro c
  induction c using comp.induct with
  | case1=>intro s hc Q a w hg hr hs;simp only[comp,Option.some.injEq]at hc;subst hc;exact Go.wp_skip ⟨hg,hr,hs⟩
  | case2 l=>intro s hc Q a w hg hr hs;simp only[comp,Option.some.injEq]at hc;subst hc;exact Go.wp_label ⟨hg,hr,hs⟩
  | case3 id ops d=>intro s hc Q a w hg hr hs;simp only[comp]at hc;exact reg hc Q a w hg hr hs
  | case4 id ops d c x y ihx ihy =>
    intro s hc Q a w hg hr hs
    rw[comp.eq_4]at hc
    simp only[Option.bind_eq_some_iff]at hc
    obtain⟨A,hA,B,hB,hc⟩:=hc
    split at hc
    · rename_i t
      split at hc
      · rename_i k hk
        obtain⟨r,hr',rfl⟩:=Option.map_eq_some_iff.1 hc
        have hs2:=zZ5 _ _ _ _ hs
        refine sq Q a w (fun Q a w=>reg hr' Q a w) ?_ hg hr hs2
        intro a' w' hg' hr2 hs3
        obtain⟨tv,ht,h1,h2⟩:=hs3
        have ht':a'.eval (.tmp t)=.bool tv:=by
          simp only[X.ev,z2t hk,Option.some.injEq]at ht
          exact ht
        exact z5g ht' (fun h=>ihx A hA Q a' w' hg' hr2 (h1 h)) (fun h=>ihy B hB Q a' w' hg' hr2 (h2 h))
      · exact regc hc Q a w (fun a w=>ihx A hA Q a w) (fun a w=>ihy B hB Q a w) hg hr hs
    · exact regc hc Q a w (fun a w=>ihx A hA Q a w) (fun a w=>ihy B hB Q a w) hg hr hs
  | case5 c1 c2 hno ih1 ih2 =>
    intro s hc Q a w hg hr hs
    rw[comp.eq_5 _ _ _ _ _ _ hno]at hc
    simp only[Option.bind_eq_some_iff]at hc
    obtain⟨A,hA,hc⟩:=hc
    obtain⟨B,hB,rfl⟩:=Option.map_eq_some_iff.1 hc
    exact sq Q a w (fun Q a w=>ih1 A hA Q a w) (fun a w=>ih2 B hB Q a w) hg hr (zZ5 _ _ _ _ hs)
  | case6 c x y ihx ihy =>
    intro s hc Q a w hg hr hs
    simp only[comp,Option.bind_eq_some_iff]at hc
    obtain⟨A,hA,B,hB,hc⟩:=hc
    obtain⟨q,hq,rfl⟩:=Option.map_eq_some_iff.1 hc
    obtain⟨t,ht,h1,h2⟩:=hs
    rw[z09 (ops:=#[]) z5f hq]at ht
    exact z5g (by simpa using ht) (fun h=>ihx A hA Q a w hg hr (h1 h)) (fun h=>ihy B hB Q a w hg hr (h2 h))
  | case7 id c ih =>
    intro s hc Q a w hg hr hs
    simp only[comp]at hc
    obtain⟨A,hA,rfl⟩:=Option.map_eq_some_iff.1 hc
    refine Go.wp_block (wp_mono (ih A hA _ a w hg hr hs) ?_)
    rintro e a' w' ⟨hg',hr',hq⟩
    cases e with
    | normal=>exact⟨hg',hr',hq⟩
    | exit i =>
      simp only[Exit.inBlock]
      dsimp only at hq
      split
      · rename_i hi;rw[if_pos hi]at hq;exact⟨hg',hr',hq⟩
      · rename_i hi;rw[if_neg hi]at hq;exact⟨hg',hr',hq⟩
    | ret=>exact⟨hg',hr',hq⟩
    | goto l=>exact hq.elim
    | panic ch=>exact hq.elim
    | outgrown=>exact hq.elim
  | case8 c ih =>
    intro s hc Q a w hg hr hs
    simp only[comp]at hc
    obtain⟨A,hA,rfl⟩:=Option.map_eq_some_iff.1 hc
    obtain⟨n,hn⟩:=hs
    refine Go.wp_loop_rounds n ?_
    have key:∀(n:Nat) (a:Act) (w:World),Good D m a→Rest w0 w→z25 (fun Q e h=>A.wp P Q e h) Q n (x4 V a) (hp w)→Code.rounds P c (CQ D m V w0 Q) n a w:=by
      intro n
      induction n with
      | zero=>intro a w _ _ h;exact h.elim
      | succ n ihn =>
        intro a w hg hr h
        refine wp_mono (ih A hA _ a w hg hr h) ?_
        rintro e a' w' ⟨hg',hr',hq⟩
        cases e with
        | normal=>exact ihn a' w' hg' hr' hq
        | exit i=>exact⟨hg',hr',hq⟩
        | ret=>exact⟨hg',hr',hq⟩
        | goto l=>exact hq.elim
        | panic ch=>exact hq.elim
        | outgrown=>exact hq.elim
    exact key n a w hg hr hn
  | case9 c ih =>
    intro s hc Q a w hg hr hs
    simp only[comp]at hc
    refine wp_scope_straight (wp_mono (ih s hc Q a w hg hr hs) ?_)
    rintro e a' w' hq
    cases e with
    | goto l=>exact hq.2.2.elim
    | _=>exact hq
  | case10 id=>intro s hc Q a w hg hr hs;simp only[comp,Option.some.injEq]at hc;subst hc;exact Go.wp_exit ⟨hg,hr,hs⟩
  | case11=>intro s hc Q a w hg hr hs;simp only[comp,Option.some.injEq]at hc;subst hc;exact Go.wp_ret ⟨hg,hr,hs⟩
  | case12 t h1 h2 h3 h4 h5 h6 h7 h8 h9 h10 h11 =>
    intro s hc
    rw[comp.eq_12 _ _ _ _ _ h1 h2 h3 h4 h5 h6 h7 h8 h9 h10 h11]at hc
    cases hc
theorem y0O{a b:Value}(h:y80 a b=true):a=b:=by
 unfold y80 at h
 split at h<;>first|(simp at h;done)|skip
 ·simp only[Bool.and_eq_true,beq_iff_eq]at h;rw[h.1,h.2]
 ·simp only[beq_iff_eq]at h;rw[h]
 ·rfl
 ·simp only[Bool.and_eq_true,beq_iff_eq]at h;rw[h.1,h.2]
theorem K1.eq_spec{a b:K1}(h:a.eq b=true):a=b:=by
 unfold K1.eq at h
 split at h<;>first|rfl|(simp only[beq_iff_eq]at h;rw[h];done)|(simp only[Bool.and_eq_true,beq_iff_eq]at h;rw[h.1,h.2];done)|cases h
theorem K2.eq_spec{a b:K2}(h:a.eq b=true):a=b:=by
 unfold K2.eq at h
 split at h<;>first|rfl|(simp only[beq_iff_eq]at h;rw[h];done)|(simp only[Bool.and_eq_true,beq_iff_eq]at h;rw[h.1,h.2];done)|(simp only[Bool.and_eq_true,beq_iff_eq]at h;rw[h.1.1,h.1.2,h.2];done)|cases h
theorem X.eq_spec:∀{x y:X},x.eq y=true→x=y:=by
 intro x
 induction x with
 | var i=>intro y h;cases y<;>simp [X.eq]at h;rw[h]
 | lit v=>intro y h;cases y<;>simp [X.eq]at h;rw[y0O h]
 | u k a ih=>intro y h;cases y<;>simp [X.eq]at h;rw[K1.eq_spec h.1,ih h.2]
 | b k a c iha ihc=>intro y h;cases y<;>simp [X.eq]at h;rw[K2.eq_spec h.1.1,iha h.1.2,ihc h.2]
 | ite c a d ihc iha ihd=>intro y h;cases y<;>simp [X.eq]at h;rw[ihc h.1.1,iha h.1.2,ihd h.2]
 | _=>intro y h;simp [X.eq]at h
def X.has'(e:List Value)(h:Heap)(x:X):Prop:=(∃v,x.ev e h=some v)∨(∃v,x.evs e h=some v)∨∃v,x.evp e h=some v
theorem zb8{e:List Value}{h:Heap}:∀(f:Nat) {x y:X},cov f x y=true→y.has' e h→∃v,x.ev e h=some v
 | 0,x,y,hc,_=>by simp [cov]at hc
 | f+1,x,y,hc,hy=>by
  simp only[cov,Bool.or_eq_true]at hc
  rcases hc with((hc|hc)|hc)|hc
  ·split at hc
   ·exact⟨_,rfl⟩
   ·exact⟨_,rfl⟩
   ·cases hc
  ·have:=X.eq_spec hc
   subst this
   rcases hy with hy|⟨v,hv⟩|⟨v,hv⟩
   ·exact hy
   ·cases x<;>simp [X.eq]at hc<;>simp [X.evs]at hv
   ·cases x<;>simp [X.eq]at hc<;>simp [X.evp]at hv
  ·unfold y6Q at hc
   split at hc
   ·rename_i c a b c' a' b'
    simp only[Bool.and_eq_true]at hc
    have:=X.eq_spec hc.1.1
    subst this
    rcases hy with⟨v,hv⟩|⟨v,hv⟩|⟨v,hv⟩
    ·simp only[X.ev,Option.bind_eq_some_iff]at hv ⊢
     obtain⟨t,ht,hv⟩:=hv
     split at hv
     ·obtain⟨u,hu⟩:=zb8 f hc.1.2 (.inl ⟨_,hv⟩)
      exact⟨u,_,ht,hu⟩
     ·obtain⟨u,hu⟩:=zb8 f hc.2 (.inl ⟨_,hv⟩)
      exact⟨u,_,ht,hu⟩
     ·cases hv
    ·simp [X.evs]at hv
    ·simp [X.evp]at hv
   ·cases hc
  ·split at hc
   ·rcases hy with⟨v,hv⟩|⟨v,hv⟩|⟨v,hv⟩
    ·simp only[X.ev,Option.bind_eq_some_iff]at hv
     obtain⟨t,ht,_⟩:=hv
     exact zb8 f hc (.inl ⟨_,ht⟩)
    ·simp [X.evs]at hv
    ·simp [X.evp]at hv
   ·rcases hy with⟨v,hv⟩|⟨v,hv⟩|⟨v,hv⟩
    ·simp only[X.ev,Option.bind_eq_some_iff]at hv
     obtain⟨t,ht,u,hu,_⟩:=hv
     simp only[Bool.or_eq_true]at hc
     rcases hc with hc|hc
     ·exact zb8 f hc (.inl ⟨_,ht⟩)
     ·exact zb8 f hc (.inl ⟨_,hu⟩)
    ·simp [X.evs]at hv
    ·simp [X.evp]at hv
   ·rcases hy with⟨v,hv⟩|⟨v,hv⟩|⟨v,hv⟩
    ·simp only[X.ev,Option.bind_eq_some_iff]at hv
     obtain⟨t,ht,_⟩:=hv
     exact zb8 f hc (.inl ⟨_,ht⟩)
    ·simp [X.evs]at hv
    ·simp [X.evp]at hv
   ·rename_i arr n a l u m
    rcases hy with⟨v,hv⟩|⟨v,hv⟩|⟨v,hv⟩
    ·have hq : ∃ t1 t2 t3, a.ev e h = some t1 ∧ l.ev e h = some t2 ∧ u.ev e h = some t3 := by
      cases m<;>simp only[X.ev,Option.bind_eq_some_iff]at hv<;>(obtain⟨t1,g1,t2,g2,t3,g3,_⟩:=hv;exact⟨t1,t2,t3,g1,g2,g3⟩)
     obtain⟨t1,t2,t3,g1,g2,g3⟩:=hq
     simp only[Bool.or_eq_true]at hc
     rcases hc with(hc|hc)|hc
     ·exact zb8 f hc (.inl ⟨_,g1⟩)
     ·exact zb8 f hc (.inl ⟨_,g2⟩)
     ·exact zb8 f hc (.inl ⟨_,g3⟩)
    ·simp [X.evs]at hv
    ·simp [X.evp]at hv
   ·rcases hy with⟨v,hv⟩|⟨v,hv⟩|⟨v,hv⟩
    ·simp only[X.ev,Option.map_eq_some_iff]at hv
     obtain⟨t,ht,_⟩:=hv
     exact zb8 f hc (.inr (.inl ⟨_,ht⟩))
    ·simp [X.evs]at hv
    ·simp [X.evp]at hv
   ·rcases hy with⟨v,hv⟩|⟨v,hv⟩|⟨v,hv⟩
    ·simp only[X.ev,Option.bind_eq_some_iff]at hv
     obtain⟨t,ht,_⟩:=hv
     exact zb8 f hc (.inr (.inr ⟨_,ht⟩))
    ·simp [X.evs]at hv
    ·simp [X.evp]at hv
   ·rcases hy with⟨v,hv⟩|⟨v,hv⟩|⟨v,hv⟩
    ·simp [X.ev]at hv
    ·simp only[X.evs,Option.bind_eq_some_iff,Option.map_eq_some_iff]at hv
     obtain⟨t,ht,u,hu,_⟩:=hv
     simp only[Bool.or_eq_true]at hc
     rcases hc with hc|hc
     ·exact zb8 f hc (.inl ⟨_,ht⟩)
     ·exact zb8 f hc (.inr (.inl ⟨_,hu⟩))
    ·simp [X.evp]at hv
   ·rcases hy with⟨v,hv⟩|⟨v,hv⟩|⟨v,hv⟩
    ·simp [X.ev]at hv
    ·simp [X.evs]at hv
    ·simp only[X.evp,Option.bind_eq_some_iff]at hv
     obtain⟨t,ht,hv⟩:=hv
     split at hv
     ·simp only[Option.map_eq_some_iff]at hv
      obtain⟨u,hu,_⟩:=hv
      simp only[Bool.or_eq_true]at hc
      rcases hc with hc|hc
      ·exact zb8 f hc (.inl ⟨_,ht⟩)
      ·exact zb8 f hc (.inr (.inr ⟨_,hu⟩))
     ·cases hv
   ·cases hc
theorem yg5{Q:Ex→List Value→Heap→Prop}{e:List Value}{h:Heap}:∀{s:S},s.wp P Q e h→∀y∈s.first,y.has' e h
 | .set i x k,hs,y,hy=>by simp [S.first]at hy;subst hy;exact .inl ⟨_,hs.choose_spec.1⟩
 | .chk x k,hs,y,hy=>by simp [S.first]at hy;subst hy;exact .inl ⟨_,hs.choose_spec.1⟩
 | .ite c a b,hs,y,hy=>by simp [S.first]at hy;subst hy;exact .inl ⟨_,hs.choose_spec.1⟩
 | .call p d f as k,hs,y,hy=>by simp [S.first]at hy;subst hy;exact .inr (.inl ⟨_,hs.choose_spec.1⟩)
 | .callv p d f as k,hs,y,hy=>by
  obtain⟨fv,vs,h1,h2,_⟩:=hs
  simp [S.first]at hy
  rcases hy with rfl|rfl
  ·exact .inl ⟨_,h1⟩
  ·exact .inr (.inl ⟨_,h2⟩)
 | .eff p d f k,hs,y,hy=>by
  cases f with
  | alloc t z=>simp [S.first]at hy
  | box t x=>simp [S.first]at hy;subst hy;obtain⟨v,h1,_⟩:=hs;exact .inl ⟨_,h1⟩
  | st n q v =>
   obtain⟨b,o,x,h',h1,h2,_⟩:=hs
   simp [S.first]at hy
   rcases hy with rfl|rfl
   ·exact .inl ⟨_,h1⟩
   ·exact .inl ⟨_,h2⟩
  | mk t size bytes z l c =>
   obtain⟨kl,kc,li,ci,h1,h2,_⟩:=hs
   simp [S.first]at hy
   rcases hy with rfl|rfl
   ·exact .inl ⟨_,h1⟩
   ·exact .inl ⟨_,h2⟩
  | app t size bytes z s x =>
   obtain⟨a,sl,sc,y',yl,yc,news,h1,h2,_⟩:=hs
   simp [S.first]at hy
   rcases hy with rfl|rfl
   ·exact .inl ⟨_,h1⟩
   ·exact .inl ⟨_,h2⟩
  | lit t size len z ps=>simp [S.first]at hy;subst hy;obtain⟨vs,cs,h1,_⟩:=hs;exact .inr (.inr ⟨_,h1⟩)
  | cpy size d s=>simp [S.first]at hy
  | clr z s=>simp [S.first]at hy
 | .seq a b,hs,y,hy=>yg5 (s:=a) hs y (by simpa [S.first]using hy)
 | .nxt,_,y,hy=>by simp [S.first]at hy
 | .both _ _,_,y,hy=>by simp [S.first]at hy
 | .blk _ _,_,y,hy=>by simp [S.first]at hy
 | .loop _,_,y,hy=>by simp [S.first]at hy
 | .exit _,_,y,hy=>by simp [S.first]at hy
 | .ret,_,y,hy=>by simp [S.first]at hy
 | .stop,_,y,hy=>by simp [S.first]at hy
theorem y85{Q:Ex→List Value→Heap→Prop}{x:X}{k:S}{e:List Value}{h:Heap}(hs:(chkO x k).wp P Q e h):(S.chk x k).wp P Q e h:=by
 unfold chkO at hs
 split at hs
 ·rename_i hc
  obtain⟨y,hy,hcv⟩:=List.any_eq_true.1 hc
  obtain⟨v,hv⟩:=zb8 40 hcv (yg5 hs y hy)
  exact⟨v,hv,hs⟩
 ·exact hs
theorem zi8:∀(s:S) {Q:Ex→List Value→Heap→Prop} {e:List Value} {h:Heap},s.opt.wp P Q e h→s.wp P Q e h
  | .nxt,_,_,_,hs=>hs
  | .set i x k,_,_,_,hs=>by obtain⟨v,h1,h2⟩:=hs;exact⟨v,h1,zi8 k h2⟩
  | .chk x k,_,_,_,hs=>by obtain⟨v,h1,h2⟩:=y85 hs;exact⟨v,h1,zi8 k h2⟩
  | .eff p d f k,Q,e,h,hs=>by
    have hs':E.ok e h (fun v h'=>(p=true→Ext h h')∧k.opt.wp P Q (put e d v) h') f:=hs
    have:=E.ok_mono (R':=fun v h'=>(p=true→Ext h h')∧k.wp P Q (put e d v) h') (fun _ _ hh=>⟨hh.1,zi8 k hh.2⟩) hs'
    exact this
  | .call p d f as k,_,_,_,hs=>by obtain⟨vs,h1,h2⟩:=hs;exact⟨vs,h1,h2.mono fun _ _ hh=>⟨hh.1,zi8 k hh.2⟩⟩
  | .callv p d f as k,_,_,_,hs=>by obtain⟨fv,vs,h1,h2,h3⟩:=hs;exact⟨fv,vs,h1,h2,h3.mono fun _ _ hh=>⟨hh.1,zi8 k hh.2⟩⟩
  | .ite c a b,_,_,_,hs=>by obtain⟨t,h1,h2,h3⟩:=hs;exact⟨t,h1,fun ht=>zi8 a (h2 ht),fun ht=>zi8 b (h3 ht)⟩
  | .both a b,_,_,_,hs=>⟨zi8 a hs.1,zi8 b hs.2⟩
  | .seq a b, _, _, _, hs => S.wp_mono a (fun x e h hx => by
      cases x with
      | nxt=>exact zi8 b hx
      | exit i=>exact hx
      | ret=>exact hx) (zi8 a hs)
  | .blk id a,_,_,_,hs=>zi8 a hs
  | .loop a,Q,e,h,hs=>by
    obtain⟨n,hn⟩:=hs
    refine⟨n,?_⟩
    have key:∀(n:Nat) (e:List Value) (h:Heap),z25 (fun Q e h=>a.opt.wp P Q e h) Q n e h→z25 (fun Q e h=>a.wp P Q e h) Q n e h:=by
      intro n
      induction n with
      | zero=>intro e h hh;exact hh
      | succ n ih =>
        intro e h hh
        refine S.wp_mono a (fun x e h hx=>?_) (zi8 a hh)
        cases x with
        | nxt=>exact ih e h hx
        | exit i=>exact hx
        | ret=>exact hx
    exact key n e h hn
  | .exit id,_,_,_,hs=>hs
  | .ret,_,_,_,hs=>hs
  | .stop,_,_,_,hs=>hs
def resV(e:List Value)(h:Heap):List X→Option (List Value)
 | []=>some []
 | x :: r=>(x.ev e h).bind fun v=>(resV e h r).map fun l=>v :: l
def zT8:List Value→Value
 | [v]=>v
 | l=>.tuple l.toArray
def Fun.post(f:Fun)(R:Value→Heap→Prop):Ex→List Value→Heap→Prop
 | .exit _,_,_=>False
 | _,e,h=>∃l,resV e h f.res=some l∧R (zT8 l) h
theorem z7I{e:List Value}{h:Heap}{a:Act}{w:World}(he:e=x4 V a)(hh:h=hp w):∀(rs:List ResultVar) (xs:List X) (l:List Value),resX P V rs=some xs→resV e h xs=some l →
    (rs.mapM fun r=>(match r with | .tmp t=>pure (a.tmps.getD t undef) | .cell p t=>(do loadVar t (← asAddr (a.tmps.getD p undef))):Sem Value)).run P w=.ok l w
  | [],xs,l,hx,hl=>by
    simp only[resX,Option.some.injEq]at hx;subst hx
    simp only[resV,Option.some.injEq]at hl;subst hl
    simp
  | .tmp t :: r,xs,l,hx,hl=>by
    simp only[resX,Option.bind_eq_some_iff]at hx
    obtain⟨i,hi,hx⟩:=hx
    obtain⟨l',hl',rfl⟩:=Option.map_eq_some_iff.1 hx
    simp only[resV,Option.bind_eq_some_iff]at hl
    obtain⟨v,hv,hl⟩:=hl
    obtain⟨l2,hl2,rfl⟩:=Option.map_eq_some_iff.1 hl
    have ih:=z7I he hh r l' l2 hl' hl2
    subst he
    simp only[X.ev,z2t hi,Option.some.injEq]at hv
    subst hv
    simp only[List.mapM_cons,Sem.run_bind,Sem.run_pure,Result.andThen_ok,ih]
  | .cell t ty :: r,xs,l,hx,hl=>by
    simp only[resX,Option.bind_eq_some_iff]at hx
    obtain⟨i,hi,g,hg,n,hn,hx⟩:=hx
    obtain⟨l',hl',rfl⟩:=Option.map_eq_some_iff.1 hx
    simp only[resV,Option.bind_eq_some_iff]at hl
    obtain⟨v,hv,hl⟩:=hl
    obtain⟨l2,hl2,rfl⟩:=Option.map_eq_some_iff.1 hl
    have ih:=z7I he hh r l' l2 hl' hl2
    subst he
    subst hh
    simp only[X.ev,z2t hi,Option.bind_some]at hv
    have hload:((do loadVar ty (← asAddr (a.tmps.getD t undef))):Sem Value).run P w=.ok v w:=by
      cases g with
      | true =>
        obtain⟨b,o,vs,hp',hr,rfl⟩:=y8W hv
        obtain⟨hlen,hc⟩:=yk3 hr
        have:=run_loadCells_list (P:=P) w ⟨_,_,none⟩ vs hc
        rw[hlen]at this
        simp only[hp',asAddr,Sem.run_bind,Sem.run_pure,Result.andThen_ok,loadVar,zq8 hg,if_true,x7 hn,this]
      | false =>
        obtain⟨b,o,hp',hr⟩:=y8V hv
        have:=yt2 (P:=P) hr
        simp only[hp',asAddr,Sem.run_bind,Sem.run_pure,Result.andThen_ok,loadVar,zq8 hg,Bool.false_eq_true,if_false,this]
    simp only[List.mapM_cons,Sem.run_bind,hload,Sem.run_pure,Result.andThen_ok,ih]
def env0(V:List Nat)(args:List Value):List Value:=V.map fun t=>args.getD t undef
theorem y5N {nk : Bool} (hm : P.follows .mixedOrders = true) {f : Nat} {fn : Func} (hf : P.funcs[f]? = some fn) {F : Fun} (hc : yt7 P fn V nk = some F) {args : List Value} (hn : args.length ≤ fn.ntmps) {h : Heap} {R : Value → Heap → Prop}
    (hs:F.body.wp P (F.post R) (env0 V args) h):Runs P f args h R:=by
  intro w hw
  subst hw
  unfold yt7 at hc
  split at hc
  case isFalse=>cases hc
  rename_i hV
  simp only[Bool.and_eq_true]at hV
  simp only[Option.bind_eq_some_iff]at hc
  obtain⟨c,hb,s,hcs,hc⟩:=hc
  obtain⟨r,hr,rfl⟩:=Option.map_eq_some_iff.1 hc
  have hs:=zi8 s hs
  refine calls_of_wp hf hb ?_
  have henv:env0 V args=x4 V {tmps:=args.toArray++Array.replicate (fn.ntmps-args.toArray.size) undef,defers:=[]}:=by
    unfold env0 x4
    apply List.map_congr_left
    intro t _
    by_cases ht:t<args.length
    · simp [Array.getElem?_append,ht]
    · by_cases ht2:t-args.length<fn.ntmps-args.length
      · simp [Array.getElem?_append,ht,ht2]
      · simp [Array.getElem?_append,ht,ht2]
  rw[henv]at hs
  refine wp_mono (zz3 hm hV.1 (w0:=w) c s hcs _ _ w ⟨rfl,by simp;omega⟩ (Rest.refl w) hs) ?_
  have fin:∀(a:Act) (w':World),Good [] fn.ntmps a→Rest w w'→(∃l,resV (x4 V a) (hp w') r=some l∧R (zT8 l) (hp w'))→a.defers=[]∧∃v,(results fn a.tmps).run P w'=.ok v w'∧∃v',Ending.returned v=.returned v'∧R v' (hp w')∧Rest w w':=by
    rintro a w' hg hr' ⟨l,hl,hR⟩
    refine⟨hg.defers,zT8 l,?_,_,rfl,hR,hr'⟩
    have:=z7I (P:=P) (V:=V) (a:=a) (w:=w') rfl rfl _ _ _ hr hl
    have h2:(fn.results.mapM fun r=>(match r with | .tmp t=>pure (a.tmps.getD t undef) | .cell p t=>(do loadVar t (← asAddr (a.tmps.getD p undef))):Sem Value)).run P w'=.ok l.toArray w':=by
      rw[Array.mapM_eq_mapM_toList]
      simp only[Sem.run_map,this,Result.andThen_ok]
    unfold results
    simp only[Sem.run_bind]
    refine Eq.trans (congrArg (fun q=>Result.andThen q _) h2) ?_
    simp only[Result.andThen_ok,Sem.run_pure]
    congr 1
    unfold zT8
    split
    · rename_i h1
      match l,h1 with
      | [v],_=>rfl
    · rename_i h1
      match l,h1 with
      | [],_=>rfl
      | [v],h1=>exact absurd rfl h1
      | _ :: _ :: _,_=>rfl
  rintro e a w' ⟨hg,hr',hq⟩
  cases e with
  | normal=>exact fin a w' hg hr' hq
  | ret=>exact fin a w' hg hr' hq
  | exit i=>exact hq.elim
  | goto l=>exact hq.elim
  | panic ch=>exact hq.elim
  | outgrown=>exact hq.elim
end
end Go.Lft
