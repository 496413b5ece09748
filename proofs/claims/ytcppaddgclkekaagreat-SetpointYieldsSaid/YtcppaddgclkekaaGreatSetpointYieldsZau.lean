/- Lemmas and walks that the proof of SetpointYields uses. No statement is claimed here. -/
import Derived.Test.YtcppaddgclkekaaGreatSetpointYieldsZat
namespace Go.Proofs.YtcppaddgclkekaaGreat
open Go Go.Lft
set_option linter.unusedSimpArgs false
set_option linter.unusedVariables false
attribute [local congr] W0 W1 W2 W4 Z3 Z4 W5 Z5 Z6 Z7 W6 W3
theorem Cut.appK{n0:Nat}{e e':List A}{H:List Blk}(P T:List Blk)(hn:n0≤(H++P).length)(hb:okB (H++P).length (H++P))(he:FzL (H++P).length (H++(P++T)) e e'):Cut n0 e (H++(P++T)) e' (H++P):=by
 rw[← List.append_assoc]at he ⊢
 exact Cut.app hn hb he
theorem yu1 {u : Bool} {L : List (List Og)} (hL : L.length ≤ 1000) (h4 : ∀ l ∈ L, l.length ≤ 1000) {c1 : Cfg} {l n : Nat} {Km : List (List Int) → List Blk} (hn : ∀ pre, (Km pre).length = n) (hb : ∀ pre m, n ≤ m → okB m (Km pre)) (hH : c1.H = Km []) (hs : St c1)
    (hY:∀pre pk,allP L=pre++sfx L pk→PkOk L pk→YR P n c1 l [.fs true (ints pk)] (Km pre++[⟨0,ints pk⟩]) (fun r H'=>r=.v (.bool true)∧H'=Km (pre++[pk])++[⟨0,ints pk⟩])) :
    IterR P zb3 c1 l [.fp true [.fs u (ogL u L)]] (fun H3=>H3=Km (allP L)):=by
  refine IterR.of (F:=zu9) (V:=zv0) (nt:=45) (fun hl _ _ hs=>y66 (nk:=false) z66 Tryz.func77 (by kernel_rfl) (by rw[Tryz.ntmps77];exact hl) hs) hs hH (by simp) ?_
  rw[hn []]
  show AWJ P n c1 zb4 _ _ _
  have hk0:=hn []
  refine AWJ.chain 2 (aw_sound ?_)
  conv=>arg 3;simp only[zb4,S.pre]
  simp (disch:=(try simp only[lZ]);omega) only[aZ,aM,aG37,zv0]
  rw[hk0]
  conv=>arg 4;simp only[zb4,S.post]
  have hz:=yi4 L
  have hpz:PkOk L (List.replicate L.length 0):=⟨by simp,fun m hm=>by
    have e:(List.replicate L.length (0:Int)).getD m 0=0:=by simp [List.getD_eq_getElem?_getD,hm]
    rw[e]
    by_cases h:(L.getD m []).length=0
    · exact⟨by omega,.inr ⟨h,rfl⟩⟩
    · exact⟨by omega,.inl (by omega)⟩⟩
  refine AWJ.blk (AWJ.loop (fun x:List (List Int)×List Int=>allP L=x.1++sfx L x.2∧PkOk L x.2) (fun _=>[.v (yv l),.fp true [.fs u (ogL u L)],.sl n 0 1 0 L.length,.any,.any,.any,.any,.any]) (fun x=>Km x.1++[⟨0,ints x.2⟩]) (fun x=>(sfx L x.2).length) ([],List.replicate L.length 0) ⟨by rw[List.nil_append,hz],hpz⟩ (Cut.fg (by simp (disch:=first|omega|simp (disch:=omega) only[aG,aM,aG37]) only[fZ,aM,aG37,y0,z9,or_true,true_or])) ?_)
  clear hz hpz hk0 hH
  rintro⟨pre,pk⟩ ⟨hpre,hpk⟩
  simp only at hpre hpk
  have hround:=hY pre pk hpre hpk
  have hnx:=y3C L pk hpk.1 (fun i=>by
    by_cases hi:i<L.length
    · exact(hpk.2 i hi).1
    · rw[List.getD_eq_getElem?_getD,List.getElem?_eq_none (by have:=hpk.1;omega)];simp)
  have hk:=hn pre
  have hpl:=hpk.1
  refine AWJ.blk (AWJ.chain 2 (aw_sound ?_))
  conv=>arg 3;simp only[S.pre]
  have aP:∀(T:List Blk),blkAt (Km pre++(⟨0,ints pk⟩ :: T)) n 0=some (ints pk):=fun T=>by rw[← hk];exact x5 _ _ _
  simp (disch:=(try simp only[lZ]);omega) only[aZ,aM,aG37,aP]
  conv=>arg 4;simp only[S.post]
  have okK:okB (Km pre++[(⟨0,ints pk⟩:Blk)]).length (Km pre++[(⟨0,ints pk⟩:Blk)]):=by
    rw[List.length_append,hk]
    exact(hb pre _ (by omega)).app fun B hB=>by rw[List.mem_singleton.1 hB];exact zn2 _ _
  refine AWJ.cut (e':=[.v (yv l),.fp true [.fs u (ogL u L)],.sl n 0 1 0 L.length,.any,.any,.any,.fs true (ints pk),.any]) (H':=Km pre++[⟨0,ints pk⟩]) (Cut.appK [⟨0,ints pk⟩] [⟨1,ints pk⟩] (by rw[List.length_append];omega) okK ?_) ?_
  · have hlen:(Km pre++[(⟨0,ints pk⟩:Blk)]).length=n+1:=by rw[List.length_append,hk];rfl
    rw[hlen]
    refine⟨Fz.refl rfl,Fz.refl (by simp (disch:=first|omega|simp (disch:=omega) only[aG,aM,aG37]) only[fZ,aM,aG37]),Fz.refl (by simp [A.bd]),Fz.any,Fz.any,Fz.any,?_,Fz.any,trivial⟩
    exact zQ2 _ _ _ _ _ pk (by omega) hpl.symm (by rw[zf3];rfl)
  refine AWJ.yield rfl rfl (hround.mono ?_)
  rintro r H' ⟨rfl,rfl⟩
  have hk2:=hn (pre++[pk])
  have okK2:=hb (pre++[pk])
  generalize hKK:Km (pre++[pk])=K at *
  have okP:∀j,okB (K++[(⟨0,ints (zr pk j)⟩:Blk)]).length (K++[(⟨0,ints (zr pk j)⟩:Blk)]):=fun j=>by
    rw[List.length_append,hk2]
    exact(okK2 _ (by omega)).app fun B hB=>by rw[List.mem_singleton.1 hB];exact zn2 _ _
  refine AWJ.of (z7 ?_)
  simp (disch:=(try simp only[lZ]);omega) only[aZ,aM,aG37]
  refine AWP.loopM zU4 (fun j:Nat=>j≤L.length∧∀i,j≤i→i<L.length→((L.getD i []).length:Int)≤pk.getD i 0+1) (fun j=>[(3,.v (.int .i64 ((j:Int)-1)))]) (fun j=>K++[⟨0,ints (zr pk j)⟩]) (fun j=>j) L.length ⟨by omega,fun i h1 h2=>absurd h1 (by omega)⟩ ?_ ?_
  · rw[← hpl,xi7]
    exact Cut.fg (by simp (disch:=first|omega|simp (disch:=omega) only[aG,aM,aG37]) only[fZ,aM,aG37,y0,z9,or_true,true_or])
  rintro j ⟨hj,hg⟩
  have zl:=y3D pk j
  have zA:∀(T:List Blk),blkAt (K++(⟨0,ints (zr pk j)⟩ :: T)) n 0=some (ints (zr pk j)):=fun T=>by rw[← hk2];exact x5 _ _ _
  have sK:∀(B C:Blk),(K++[B]).set n C=K++[C]:=fun B C=>by rw[← hk2,List.set_append_right _ _ (Nat.le_refl _),Nat.sub_self];rfl
  cases j with
  | zero =>
    have hno:=yi5 L pk hpl (fun i hi=>hg i (by omega) hi)
    rw[hno]at hnx
    have hall:allP L=pre++[pk]:=by rw[hpre,hnx]
    simp (disch:=(try simp only[lZ]);omega) only[aZ,aM,aG37,zA,z0Q]
    rw[hall,hKK]
    exact xn4 (r:=.any) (by rw[hk2];exact Nat.le_refl _) (okK2 _ (by omega)) Fz.any rfl
  | succ m =>
    have hm:m<L.length:=by omega
    have e1:(((m+1:Nat):Int)-1)=(m:Int):=by omega
    have q2:=hpk.2 m hm
    have hlm:=h4 _ (x4 [] hm)
    have zg:=y6P pk (m+1) m (by omega)
    have zs:=xi8 pk m (by omega)
    by_cases hge:pk.getD m 0+1≥((L.getD m []).length:Int)
    · simp (disch:=(try simp only[lZ]);omega) only[aZ,aM,aG37,e1,zA,zg,zs,decide_eq_true hge]
      rw[sK]
      refine⟨m,⟨by omega,fun i h1 h2=>?_⟩,by omega,?_⟩
      · by_cases e:i=m
        · subst e;exact hge
        · exact hg i (by omega) h2
      · exact Cut.fg (by simp (disch:=first|omega|simp (disch:=omega) only[aG,aM,aG37]) only[fZ,aM,aG37,y0,z9,or_true,true_or])
    · have hsome:=yR4 L pk m hpl hm (fun i h1 h2=>hg i (by omega) h2) (by omega)
      simp (disch:=(try simp only[lZ]);omega) only[aZ,aM,aG37,e1,zA,zg,decide_eq_false hge]
      rw[sK,← hKK]
      rw[hsome]at hnx
      simp only at hnx
      generalize hq:(zr pk (m+1)).set m (pk.getD m 0+1)=q at *
      have hql:q.length=L.length:=by rw[← hq,List.length_set,y3D];exact hpl
      refine⟨(pre++[pk],q),⟨by rw[hpre,hnx];simp,hql,fun i hi=>?_⟩,by rw[hnx];simp,?_⟩
      · have hqi : q.getD i 0 = if i = m then pk.getD m 0 + 1 else if i < m then pk.getD i 0 else 0 := by
          rw[← hq,List.getD_eq_getElem?_getD]
          by_cases e:i=m
          · subst e
            rw[List.getElem?_set_self (by rw[y3D];omega),if_pos rfl];rfl
          · rw[List.getElem?_set_ne (fun h=>e h.symm),← List.getD_eq_getElem?_getD,if_neg e]
            by_cases h2:i<m
            · rw[if_pos h2,y6P _ _ _ (by omega)]
            · rw[if_neg h2]
              unfold zr
              rw[List.getD_eq_getElem?_getD,List.getElem?_append_right (by simp;omega),List.getElem?_replicate]
              split<;>rfl
        have q3:=hpk.2 i hi
        rw[hqi]
        by_cases e:i=m
        · subst e;rw[if_pos rfl];omega
        · rw[if_neg e]
          by_cases h2:i<m
          · rw[if_pos h2];exact q3
          · rw[if_neg h2]
            by_cases h0:(L.getD i []).length=0
            · exact⟨by omega,.inr ⟨h0,rfl⟩⟩
            · exact⟨by omega,.inl (by omega)⟩
      · exact Cut.fg (by simp (disch:=first|omega|simp (disch:=omega) only[aG,aM,aG37]) only[fZ,aM,aG37,y0,z9,or_true,true_or])
def yi6(p:Pl)(L:List (List Og))(xs:List Int)(gl:List Bt)(pk:List Int):Option Int :=
 if(yldR (zr8 p L pk) xs).2=0 then some (wrtS (yldL (zr8 p L pk) xs) gl-spcS L pk)else none
def y3F(p:Pl)(L:List (List Og))(xs:List Int)(gl:List Bt)(b:Option (List Int×Int))(pk:List Int):Option (List Int×Int) :=
 match yi6 p L xs gl pk with
 | none=>b
 | some v=>match b with
  | none=>some (pk,v)
  | some q=>if v>q.2 then some (pk,v)else b
def bstL(p:Pl)(L:List (List Og))(xs:List Int)(gl:List Bt)(l:List (List Int)):Option (List Int×Int):=l.foldl (y3F p L xs gl) none
def bstO:Option (List Int×Int)→(List Int×Int)×Int
 | none=>(([],0),40)
 | some q=>(q,0)
noncomputable def z0n(p:Pl)(L:List (List Og))(xs:List Int)(gl:List Bt):(List Int×Int)×Int :=
 if x0 p≠0 then(([],0),x0 p)else if zr7 p L≠0 then(([],0),zr7 p L)else if 256<prd L then(([],0),8)else if fedE p xs≠0 then(([],0),fedE p xs)else if zw4 p gl≠0 then(([],0),zw4 p gl)else
 bstO (bstL p L xs gl (allP L))
def y8j(x:(List Int×Int)×Int):A:=.tup [.agg [.fs true (ints x.1.1),.v (.int .i64 x.1.2)],.v (.int .i64 x.2)]
def bstC:Option (List Int×Int)→List A
 | none=>[.v (.slice none 0 0),.v (.int .i64 0)]
 | some q=>[.fs true (ints q.1),.v (.int .i64 q.2)]
theorem y3G(p:Pl)(L:List (List Og))(xs:List Int)(gl:List Bt)(l:List (List Int))(pk:List Int):bstL p L xs gl (l++[pk])=y3F p L xs gl (bstL p L xs gl l) pk:=by
 unfold bstL;rw[List.foldl_append];rfl
theorem y8k{Y:List (List Int)}{l:List Bt}(hl:l.length≤24)(hg:∀g∈l,yt8 Y g):-412316860416000000≤wrtS Y l∧wrtS Y l≤412316860416000000:=by
 have h:=zP1 (wrtL Y l) (-17179869184000000) 17179869184000000 (wrtL Y l).length (Nat.le_refl _) fun i hi=>by
  rw[yh9]at hi
  rw[yi0 _ _ _ hi]
  have:=y3p (hg _ (x4 b0 hi))
  omega
 rw[zi4,yh9]at h
 unfold wrtS
 omega
theorem y8l{L:List (List Og)}{pk:List Int}(hl:L.length≤24)(hc:yR3 L)(hp:PkOk L pk):0≤spcS L pk∧spcS L pk≤24000000000000:=by
 have h:=zP1 (spcL L pk) 0 1000000000000 (spcL L pk).length (Nat.le_refl _) fun i hi=>by
  rw[yi2]at hi
  rw[yi3 _ _ _ hi]
  exact y3z hc hp hi
 rw[zi4,yi2]at h
 unfold spcS
 omega
theorem yV1{p:Pl}{L:List (List Og)}{pk xs:List Int}(hc:chkP (zr8 p L pk)=0)(hf:fedE (zr8 p L pk) xs=0){l:List Bt}(hw:zw4 p l=0):l.length≤24∧∀g∈l,yt8 (yldL (zr8 p L pk) xs) g:=by
 have ok:=y6 (zc1 hc).1
 have hml:(zr8 p L pk).ms.length=p.ms.length:=z4b p L pk
 have hl:¬24<l.length:=fun h=>by unfold zw4 at hw;rw[if_pos h]at hw;cases hw
 refine⟨by omega,fun g hg=>?_⟩
 have hb:¬badG p g:=by
  unfold zw4 at hw
  rw[if_neg hl]at hw
  split at hw
  ·rename_i h
   exact absurd hw (z2g b0 h)
  ·rename_i h
   exact z3S (by omega) g hg
 obtain⟨q1,q2,q3,q4,q5,q6,q7,q8,q9⟩:=yA1 hb
 refine⟨q1,by rw[z0I];omega,q6,q7,?_⟩
 rw[yi1 _ _ _ (by omega)]
 exact yy7 ok.mt1.2.1 (yA3 hc hf (by omega))
def bKm(w v u u1 u2:Bool)(p:Pl)(L:List (List Og))(xs:List Int)(gl:List Bt)(b:Option (List Int×Int)):List Blk :=
 [⟨0,plC w v p⟩,⟨0,[.fs u (ogL u L)]⟩,⟨0,[.fs u1 (ints xs)]⟩,⟨0,[.fs u2 (bts gl)]⟩,⟨0,[.v (.slice none 0 0),.v (.int .i64 0)]⟩,⟨0,bstC b⟩,⟨0,[.v (.bool b.isSome)]⟩]
theorem y8m(n:Nat)(b:Option (List Int×Int)):A.bdL n (bstC b)=true:=by cases b<;>simp [bstC,A.bdL,A.bd,zn2]
theorem xi9{w v u u1 u2:Bool}{p:Pl}{L:List (List Og)}{xs:List Int}{gl:List Bt}{b:Option (List Int×Int)}(m:Nat):okB m (bKm w v u u1 u2 p L xs gl b):=fun B hB=>by
 simp only[bKm,List.mem_cons,List.not_mem_nil,or_false]at hB
 rcases hB with rfl|rfl|rfl|rfl|rfl|rfl|rfl
 ·exact yL7 _ _ _ _
 ·simp [A.bdL,A.bd,yR0]
 ·simp [A.bdL,A.bd,zn2]
 ·simp [A.bdL,A.bd,yT3]
 ·rfl
 ·exact y8m _ _
 ·rfl
theorem yu2{P:Program}{n0:Nat}{sa b c:S}{g:X}{k:Nat}{r:List X}{R:A→List Blk→Prop}{e:List A}{H:List Blk}:xd9 P n0 sa b c g k r R .ret e H=z8O n0 ⟨.nxt,r⟩ R .ret e H:=rfl
theorem z2m(s:S)(r:List X):Fun.res ⟨s,r⟩=r:=rfl
theorem z0J(H:List Blk)(e:Int):Fz 0 H (.tup [.agg [.v (.slice none 0 0),.v (.int .i64 0)],.v (.int .i64 e)]) (y8j (([],0),e)) :=
 Fz.tup ⟨Fz.agg (l:=[.v (.slice none 0 0),.v (.int .i64 0)]) (r:=[.fs true [],.v (.int .i64 0)]) ⟨z5b _ _,Fz.refl rfl,trivial⟩,Fz.refl rfl,trivial⟩
set_option maxHeartbeats 4000000 in
theorem yu3{w v u1 u2:Bool}(p:Pl)(L:List (List Og))(xs:List Int)(gl:List Bt):VR P false z0e [plA w v p,.fs true (ogL true L),.fs u1 (ints xs),.fs u2 (bts gl)] [] (isR (y8j (z0n p L xs gl))):=by
 refine z6v (by simp) (.inr rfl) ?_
 have hck:=zq0 (w:=w) (v:=v) p
 unfold plA at *
 refine aw_sound ?_
 by_cases h1:x0 p=0
 case neg =>
  have e:z0n p L xs gl=(([],0),x0 p):=by unfold z0n;rw[if_pos h1]
  rw[e]
  unfold plC at *
  simp (disch:=(try simp only[lZ]);omega) only[aZ,aM,aG37,Q8,Q9]
  refine hck.same (by simp (disch:=first|omega|simp (disch:=omega) only[aG,aM,aG37]) only[fZ,aM,aG37]) rfl (z7 ?_)
  simp (disch:=(try simp only[lZ]);omega) only[aZ,aM,aG37,decide_eq_true (show ¬x0 p=0 from h1)]
  rw[yu2]
  simp (disch:=(try simp only[lZ]);omega) only[aZ,aM,aG37,z2m]
  exact x2 (z0J _ _) ⟨rfl,rfl⟩
 have ok:=y6 h1
 obtain⟨m1,m2,m3⟩:=ok.mt1
 have n2:=ok.n2
 have hpo:=z4a (w:=w) (v:=v) (u:=true) ok L
 have hfd:=yQ8 (w:=w) (v:=v) (u:=u1) ok xs
 have hwa:=z8I (w:=w) (v:=v) (u:=u2) ok gl
 have hch:=yu0 (u:=true) L
 unfold plA plC at *
 by_cases h2:zr7 p L=0
 case neg =>
  have e:z0n p L xs gl=(([],0),zr7 p L):=by unfold z0n;rw[if_neg (fun h=>h h1),if_pos h2]
  rw[e]
  simp (disch:=(try simp only[lZ]);omega) only[aZ,aM,aG37,Q8,Q9]
  refine hck.same (by simp (disch:=first|omega|simp (disch:=omega) only[aG,aM,aG37]) only[fZ,aM,aG37]) rfl (z7 ?_)
  simp (disch:=(try simp only[lZ]);omega) only[aZ,aM,aG37,h1]
  refine hpo.same (by simp (disch:=first|omega|simp (disch:=omega) only[aG,aM,aG37]) only[fZ,aM,aG37]) rfl (z7 ?_)
  simp (disch:=(try simp only[lZ]);omega) only[aZ,aM,aG37,decide_eq_true (show ¬zr7 p L=0 from h2)]
  rw[yu2]
  simp (disch:=(try simp only[lZ]);omega) only[aZ,aM,aG37,z2m]
  exact x2 (z0J _ _) ⟨rfl,rfl⟩
 obtain⟨hl,hlm⟩:=z8L h2
 have hb4:∀l∈L,l.length≤4:=fun l hl2=>by
  obtain⟨m,hm,rfl⟩:=zH0 [] hl2
  exact(hlm m (by omega)).1
 have hmy:=y3y (u:=true) L (by omega) (fun l hl2=>by have:=hb4 l hl2;omega)
 by_cases h3:256<prd L
 ·have e:z0n p L xs gl=(([],0),8):=by unfold z0n;rw[if_neg (fun h=>h h1),if_neg (fun h=>h h2),if_pos h3]
  rw[e]
  rw[decide_eq_true h3]at hmy
  simp (disch:=(try simp only[lZ]);omega) only[aZ,aM,aG37,Q8,Q9]
  refine hck.same (by simp (disch:=first|omega|simp (disch:=omega) only[aG,aM,aG37]) only[fZ,aM,aG37]) rfl (z7 ?_)
  simp (disch:=(try simp only[lZ]);omega) only[aZ,aM,aG37,h1]
  refine hpo.same (by simp (disch:=first|omega|simp (disch:=omega) only[aG,aM,aG37]) only[fZ,aM,aG37]) rfl (z7 ?_)
  simp (disch:=(try simp only[lZ]);omega) only[aZ,aM,aG37,h2]
  refine hmy.same (by simp (disch:=first|omega|simp (disch:=omega) only[aG,aM,aG37]) only[fZ,aM,aG37]) rfl (z7 ?_)
  simp (disch:=(try simp only[lZ]);omega) only[aZ,aM,aG37]
  rw[yu2]
  simp (disch:=(try simp only[lZ]);omega) only[aZ,aM,aG37,z2m]
  exact x2 (z0J _ _) ⟨rfl,rfl⟩
 rw[decide_eq_false h3]at hmy
 by_cases h4:fedE p xs=0
 case neg =>
  have e:z0n p L xs gl=(([],0),fedE p xs):=by unfold z0n;rw[if_neg (fun h=>h h1),if_neg (fun h=>h h2),if_neg h3,if_pos h4]
  rw[e]
  simp (disch:=(try simp only[lZ]);omega) only[aZ,aM,aG37,Q8,Q9]
  refine hck.same (by simp (disch:=first|omega|simp (disch:=omega) only[aG,aM,aG37]) only[fZ,aM,aG37]) rfl (z7 ?_)
  simp (disch:=(try simp only[lZ]);omega) only[aZ,aM,aG37,h1]
  refine hpo.same (by simp (disch:=first|omega|simp (disch:=omega) only[aG,aM,aG37]) only[fZ,aM,aG37]) rfl (z7 ?_)
  simp (disch:=(try simp only[lZ]);omega) only[aZ,aM,aG37,h2]
  refine hmy.same (by simp (disch:=first|omega|simp (disch:=omega) only[aG,aM,aG37]) only[fZ,aM,aG37]) rfl (z7 ?_)
  simp (disch:=(try simp only[lZ]);omega) only[aZ,aM,aG37]
  refine hfd.same (by simp (disch:=first|omega|simp (disch:=omega) only[aG,aM,aG37]) only[fZ,aM,aG37]) rfl (z7 ?_)
  simp (disch:=(try simp only[lZ]);omega) only[aZ,aM,aG37,decide_eq_true (show ¬fedE p xs=0 from h4)]
  rw[yu2]
  simp (disch:=(try simp only[lZ]);omega) only[aZ,aM,aG37,z2m]
  exact x2 (z0J _ _) ⟨rfl,rfl⟩
 by_cases h5:zw4 p gl=0
 case neg =>
  have e:z0n p L xs gl=(([],0),zw4 p gl):=by unfold z0n;rw[if_neg (fun h=>h h1),if_neg (fun h=>h h2),if_neg h3,if_neg (fun h=>h h4),if_pos h5]
  rw[e]
  simp (disch:=(try simp only[lZ]);omega) only[aZ,aM,aG37,Q8,Q9]
  refine hck.same (by simp (disch:=first|omega|simp (disch:=omega) only[aG,aM,aG37]) only[fZ,aM,aG37]) rfl (z7 ?_)
  simp (disch:=(try simp only[lZ]);omega) only[aZ,aM,aG37,h1]
  refine hpo.same (by simp (disch:=first|omega|simp (disch:=omega) only[aG,aM,aG37]) only[fZ,aM,aG37]) rfl (z7 ?_)
  simp (disch:=(try simp only[lZ]);omega) only[aZ,aM,aG37,h2]
  refine hmy.same (by simp (disch:=first|omega|simp (disch:=omega) only[aG,aM,aG37]) only[fZ,aM,aG37]) rfl (z7 ?_)
  simp (disch:=(try simp only[lZ]);omega) only[aZ,aM,aG37]
  refine hfd.same (by simp (disch:=first|omega|simp (disch:=omega) only[aG,aM,aG37]) only[fZ,aM,aG37]) rfl (z7 ?_)
  simp (disch:=(try simp only[lZ]);omega) only[aZ,aM,aG37,h4]
  refine hwa.same (by simp (disch:=first|omega|simp (disch:=omega) only[aG,aM,aG37]) only[fZ,aM,aG37]) rfl (z7 ?_)
  simp (disch:=(try simp only[lZ]);omega) only[aZ,aM,aG37,decide_eq_true (show ¬zw4 p gl=0 from h5)]
  rw[yu2]
  simp (disch:=(try simp only[lZ]);omega) only[aZ,aM,aG37,z2m]
  exact x2 (z0J _ _) ⟨rfl,rfl⟩
 have e:z0n p L xs gl=bstO (bstL p L xs gl (allP L)):=by unfold z0n;rw[if_neg (fun h=>h h1),if_neg (fun h=>h h2),if_neg h3,if_neg (fun h=>h h4),if_neg (fun h=>h h5)]
 rw[e]
 have hcost:=y3B h2
 simp (disch:=(try simp only[lZ]);omega) only[aZ,aM,aG37,Q8,Q9]
 refine hck.same (by simp (disch:=first|omega|simp (disch:=omega) only[aG,aM,aG37]) only[fZ,aM,aG37]) rfl (z7 ?_)
 simp (disch:=(try simp only[lZ]);omega) only[aZ,aM,aG37,h1]
 refine hpo.same (by simp (disch:=first|omega|simp (disch:=omega) only[aG,aM,aG37]) only[fZ,aM,aG37]) rfl (z7 ?_)
 simp (disch:=(try simp only[lZ]);omega) only[aZ,aM,aG37,h2]
 refine hmy.same (by simp (disch:=first|omega|simp (disch:=omega) only[aG,aM,aG37]) only[fZ,aM,aG37]) rfl (z7 ?_)
 simp (disch:=(try simp only[lZ]);omega) only[aZ,aM,aG37]
 refine hfd.same (by simp (disch:=first|omega|simp (disch:=omega) only[aG,aM,aG37]) only[fZ,aM,aG37]) rfl (z7 ?_)
 simp (disch:=(try simp only[lZ]);omega) only[aZ,aM,aG37,h4]
 refine hwa.same (by simp (disch:=first|omega|simp (disch:=omega) only[aG,aM,aG37]) only[fZ,aM,aG37]) rfl (z7 ?_)
 simp (disch:=(try simp only[lZ]);omega) only[aZ,aM,aG37,h5]
 refine hch.same (by simp (disch:=first|omega|simp (disch:=omega) only[aG,aM,aG37]) only[fZ,aM,aG37]) (by simp [A.cl,A.clL,A.bd,A.bdL,y3v,yR0]) (z7 ?_)
 simp (disch:=(try simp only[lZ]);omega) only[aZ,aM,aG37]
 refine⟨zb3,[.fp true [.fs true (ogL true L)]],rfl,by kernel_rfl,fun c1 l hH hs hround=>?_⟩
 have hKm:∀b,(bKm w v true u1 u2 p L xs gl b).length=7:=fun b=>rfl
 have hit:=yu1 (u:=true) (L:=L) (by omega) (fun l hl2=>by have:=hb4 l hl2;omega) (c1:=c1) (l:=l) (n:=7) (Km:=fun pre=>bKm w v true u1 u2 p L xs gl (bstL p L xs gl pre)) (fun _=>rfl) (fun _ m _=>xi9 m) hH hs ?_
 case refine_1 =>
  intro pre pk hpre hpk
  refine hround _ _ _ ?_
  refine aw_sound ?_
  simp (disch:=(try simp only[lZ]);omega) only[aZ,aM,aG37,zT7]
  refine⟨trivial,aw_sound ?_⟩
  have hst:=y3G p L xs gl pre pk
  have hpi:=z8M (w:=w) (v:=v) (u:=true) (u':=true) ok h2 hpk
  have hyi:=z0H (w:=true) (v:=true) (u:=u1) (zr8 p L pk) xs
  have hva:yi6 p L xs gl pk=if(yldR (zr8 p L pk) xs).2=0 then some (wrtS (yldL (zr8 p L pk) xs) gl-spcS L pk)else none:=rfl
  have hsb:y3F p L xs gl (bstL p L xs gl pre) pk=match yi6 p L xs gl pk with
   | none=>bstL p L xs gl pre
   | some v=>match bstL p L xs gl pre with
    | none=>some (pk,v)
    | some q=>if v>q.2 then some (pk,v)else bstL p L xs gl pre:=rfl
  have hgp:=fun hc hf=>yV1 (p:=p) (L:=L) (pk:=pk) (xs:=xs) hc hf h5
  have hsp:=y8l (L:=L) (pk:=pk) (by omega) hcost hpk
  have hsv:=yU9 (u:=true) (u':=true) L pk (by omega) hcost hpk
  have hyl:=z0I (zr8 p L pk) xs
  have hpl:(zr8 p L pk).ms.length=p.ms.length:=z4b p L pk
  rw[hst,hsb,hva]
  clear hst hsb hround
  unfold yldT at hyi
  generalize bstL p L xs gl pre=b at *
  generalize zr8 p L pk=Q at *
  unfold plA plC at *
  have hlen8:(bKm w v true u1 u2 p L xs gl b).length+1=8:=rfl
  rw[hlen8]
  by_cases hy:(yldR Q xs).2=0
  case neg =>
   rw[if_neg hy]
   simp only[bKm,plC,List.cons_append,List.nil_append]
   simp (disch:=(try simp only[lZ]);omega) only[aZ,aM,aG37,zi3]
   refine hpi.same (by simp (disch:=first|omega|simp (disch:=omega) only[aG,aM,aG37]) only[fZ,aM,aG37]) (by simp (disch:=first|omega|simp (disch:=omega) only[aG,aM,aG37]) only[fZ,aM,aG37]) (z7 ?_)
   simp (disch:=(try simp only[lZ]);omega) only[aZ,aM,aG37]
   refine hyi.same (by simp (disch:=first|omega|simp (disch:=omega) only[aG,aM,aG37]) only[fZ,aM,aG37]) (by simp (disch:=first|omega|simp (disch:=omega) only[aG,aM,aG37]) only[fZ,aM,aG37]) (z7 ?_)
   simp (disch:=(try simp only[lZ]);omega) only[aZ,aM,aG37,decide_eq_true (show ¬(yldR Q xs).2=0 from hy)]
   exact⟨trivial,trivial,trivial⟩
  rw[if_pos hy]
  obtain⟨hc,hf,hyr⟩:=yA2 hy
  obtain⟨g1,g2⟩:=hgp hc hf
  have hwo:=ya3 (u:=true) (u':=u2) (yldL Q xs) gl g1 (by omega) g2
  have hwb:=y8k g1 g2
  rw[hyr]at hyi
  generalize wrtS (yldL Q xs) gl=W at *
  generalize spcS L pk=C at *
  cases b with
  | none =>
   simp only[bKm,plC,bstC,List.cons_append,List.nil_append,Option.isSome]
   simp (disch:=(try simp only[lZ]);omega) only[aZ,aM,aG37,zi3]
   refine hpi.same (by simp (disch:=first|omega|simp (disch:=omega) only[aG,aM,aG37]) only[fZ,aM,aG37]) (by simp (disch:=first|omega|simp (disch:=omega) only[aG,aM,aG37]) only[fZ,aM,aG37]) (z7 ?_)
   simp (disch:=(try simp only[lZ]);omega) only[aZ,aM,aG37]
   refine hyi.same (by simp (disch:=first|omega|simp (disch:=omega) only[aG,aM,aG37]) only[fZ,aM,aG37]) (by simp (disch:=first|omega|simp (disch:=omega) only[aG,aM,aG37]) only[fZ,aM,aG37]) (z7 ?_)
   simp (disch:=(try simp only[lZ]);omega) only[aZ,aM,aG37]
   refine hwo.same (by simp (disch:=first|omega|simp (disch:=omega) only[aG,aM,aG37]) only[fZ,aM,aG37]) rfl (z7 ?_)
   simp (disch:=(try simp only[lZ]);omega) only[aZ,aM,aG37]
   refine hsv.same (by simp (disch:=first|omega|simp (disch:=omega) only[aG,aM,aG37]) only[fZ,aM,aG37]) rfl (z7 ?_)
   simp (disch:=(try simp only[lZ]);omega) only[aZ,aM,aG37]
   exact⟨trivial,trivial,trivial⟩
  | some q =>
   simp only[bKm,plC,bstC,List.cons_append,List.nil_append,Option.isSome]
   simp (disch:=(try simp only[lZ]);omega) only[aZ,aM,aG37,zi3]
   refine hpi.same (by simp (disch:=first|omega|simp (disch:=omega) only[aG,aM,aG37]) only[fZ,aM,aG37]) (by simp (disch:=first|omega|simp (disch:=omega) only[aG,aM,aG37]) only[fZ,aM,aG37]) (z7 ?_)
   simp (disch:=(try simp only[lZ]);omega) only[aZ,aM,aG37]
   refine hyi.same (by simp (disch:=first|omega|simp (disch:=omega) only[aG,aM,aG37]) only[fZ,aM,aG37]) (by simp (disch:=first|omega|simp (disch:=omega) only[aG,aM,aG37]) only[fZ,aM,aG37]) (z7 ?_)
   simp (disch:=(try simp only[lZ]);omega) only[aZ,aM,aG37]
   refine hwo.same (by simp (disch:=first|omega|simp (disch:=omega) only[aG,aM,aG37]) only[fZ,aM,aG37]) rfl (z7 ?_)
   simp (disch:=(try simp only[lZ]);omega) only[aZ,aM,aG37]
   refine hsv.same (by simp (disch:=first|omega|simp (disch:=omega) only[aG,aM,aG37]) only[fZ,aM,aG37]) rfl (z7 ?_)
   by_cases hgt:W-C>q.2
   ·rw[if_pos hgt]
    simp (disch:=(try simp only[lZ]);omega) only[aZ,aM,aG37,decide_eq_true hgt]
    exact⟨trivial,trivial,trivial⟩
   ·rw[if_neg hgt]
    simp (disch:=(try simp only[lZ]);omega) only[aZ,aM,aG37,decide_eq_false hgt]
    exact⟨trivial,trivial,trivial⟩
 refine fun vs ha=>(hit vs ha).mono ?_
 rintro vv hh ⟨d,e1,e2,e3,e4⟩
 refine⟨d,e1,?_,e3,e4⟩
 rw[e2]
 refine aw_sound ?_
 cases hbo:bstL p L xs gl (allP L)with
 | none =>
  simp only[bKm,plC,bstC,Option.isSome]
  simp (disch:=(try simp only[lZ]);omega) only[aZ,aM,aG37,zt9,z2m]
  exact x2 (z0J _ _) ⟨rfl,rfl⟩
 | some q =>
  simp only[bKm,plC,bstC,Option.isSome]
  simp (disch:=(try simp only[lZ]);omega) only[aZ,aM,aG37,zt9,z2m]
  exact x2 (r:=.tup [.agg [.fs true (ints q.1),.v (.int .i64 q.2)],.v (.int .i64 0)]) (Fz.refl (by simp [A.bd,A.bdL,zn2,retA])) ⟨rfl,rfl⟩
theorem y8n{p:Pl}{s:Sy}(hg:Gd p s)(he:∀x,tot p s x=s.fed.getD x 0)(hz:sumI p s=0){x:Nat}(hx:x<p.mt):binT p s x=s.fed.getD x 0:=by
 have h1:=zp0 (fun x _=>(zz3 hg x).2) hz hx
 have h2:=yz8 p s x
 have:=he x
 omega
theorem yA9{p:Pl}(hc:chkP p=0){x:Int}(hf:fedE p [x]=0)(hm:p.mt=1)(hl:p.ms.length=2)(b0:¬binN p 0)(b1:binN p 1):yldL p [x]=[[0],[x]]:=by
 have hp:=(zc1 hc).1
 have ok:=y6 hp
 obtain⟨hI,hn,hz⟩:=yt4 hc hf
 obtain⟨q1,q2,q3⟩:=z8H hf
 obtain⟨g1,g2,g3,g4⟩:=hI.1.it hp (yN p [x])
 have hfe:∀y,(yS p [x]).fed.getD y 0=([x]:List Int).getD y 0:=fun y=>by
  show(itS p _ _).fed.getD y 0=_
  rw[g4]
  show(zc2 (y7 p.mt) [x]).getD y 0=_
  rw[zP7 (zg4 _).1 q1,Y3];omega
 have he:∀y,tot p (yS p [x]) y=(yS p [x]).fed.getD y 0:=fun y=>by
  rw[hfe]
  show tot p (itS p _ _) y=_
  rw[g2,z6K ok (Gd.new p) q1,yg9];omega
 have hb:=y8n (s:=yS p [x]) g1 he hz (x:=0) (by omega)
 rw[hfe]at hb
 have hbt:binT p (yS p [x]) 0=sm p.ms.length fun m=>if binN p m then((yS p [x]).bef m).getD 0 0 else 0:=by unfold binT;rfl
 rw[hbt,hl]at hb
 simp only[sm,if_neg b0,if_pos b1]at hb
 have hok:=g1.ok.bef 1 (by omega)
 have h1:(yS p [x]).bef 1=[x]:=by
  refine Z9 0 (by have h9:((yS p [x]).bef 1).length=p.mt:=hok.1;rw[h9,hm];rfl) fun i hi=>?_
  have hi0:i=0:=by have:((yS p [x]).bef 1).length=p.mt:=hok.1;omega
  subst hi0
  simpa using hb
 unfold yldL
 rw[hl]
 show[yldM p [x] 0,yldM p [x] 1]=_
 unfold yldM
 rw[if_neg b0,if_pos b1,h1,hm]
 rfl
def exG:List Bt:=[⟨1,0,5000,900⟩]
def exL:List (List Og):=[[⟨[[1000,0]],7⟩,⟨[[500,500]],0⟩],[]]
def exB:List (List Og):=[[⟨[[0,1000]],0⟩],[]]
theorem yu4:fedE loopP [10]=0:=by decide +kernel
theorem y6Q:yldR loopP [10]=([[0],[10]],0):=by
 unfold yldR
 rw[if_neg (fun h=>h yh4),if_neg (fun h=>h yu4),yA9 yh4 yu4 rfl rfl (by decide +kernel) (by decide +kernel)]
theorem yB0:zw4 loopP exG=0:=by
 rw[ya2 (by decide) (fun i hi=>by
  have:i=0:=by simp [exG]at hi;omega
  subst this
  decide +kernel),if_neg]
 rintro⟨k,hk,i,hi,_⟩
 simp [exG]at hk;omega
theorem y6R:wrtS [[0],[10]] exG=50000:=by decide +kernel
theorem xj0:valR loopP [10] exG=(50000,0):=by
 have e:yldL loopP [10]=[[0],[10]]:=yA9 yh4 yu4 rfl rfl (by decide +kernel) (by decide +kernel)
 unfold valR
 rw[y6Q,if_neg (fun h=>h rfl),if_neg (fun h=>h yB0),e,y6R]
theorem ex_v{L:List (List Og)}{pk:List Int}(hc:chkP (zr8 loopP L pk)=0)(b0:¬binN (zr8 loopP L pk) 0)(b1:binN (zr8 loopP L pk) 1):yi6 loopP L [10] exG pk=some (50000-spcS L pk):=by
 have hf:fedE (zr8 loopP L pk) [10]=0:=by
  have h1:(zr8 loopP L pk).mt=1:=rfl
  unfold fedE
  rw[h1]
  decide +kernel
 have e:=yA9 hc hf rfl (z4b _ _ _) b0 b1
 have ey:yldR (zr8 loopP L pk) [10]=(yldL (zr8 loopP L pk) [10],0):=by unfold yldR;rw[if_neg (fun h=>h hc),if_neg (fun h=>h hf)]
 unfold yi6
 rw[ey,if_pos rfl,e,y6R]
theorem y8o:z0n loopP exL [10] exG=(([1,0],50000),0):=by
 have v1:yi6 loopP exL [10] exG [0,0]=some 49993:=by
  rw[ex_v (by decide +kernel) (by decide +kernel) (by decide +kernel)];decide +kernel
 have v2:yi6 loopP exL [10] exG [1,0]=some 50000:=by
  rw[ex_v (by decide +kernel) (by decide +kernel) (by decide +kernel)];decide +kernel
 unfold z0n
 rw[if_neg (fun h=>h (show x0 loopP=0 by decide +kernel)),if_neg (fun h=>h (show zr7 loopP exL=0 by decide +kernel)),if_neg (by decide +kernel),if_neg (fun h=>h yu4),if_neg (fun h=>h yB0),
  show allP exL=[[0,0],[1,0]] by decide +kernel]
 unfold bstL
 simp only[List.foldl_cons,List.foldl_nil,y3F,v1,v2]
 rfl
theorem y8p:z0n loopP exB [10] exG=(([],0),40):=by
 have v1:yi6 loopP exB [10] exG [0,0]=none:=by
  have hc:chkP (zr8 loopP exB [0,0])≠0:=by decide +kernel
  have ey:yldR (zr8 loopP exB [0,0]) [10]=([],chkP (zr8 loopP exB [0,0])):=by unfold yldR;rw[if_pos hc]
  unfold yi6
  rw[ey,if_neg (by exact hc)]
 unfold z0n
 rw[if_neg (fun h=>h (show x0 loopP=0 by decide +kernel)),if_neg (fun h=>h (show zr7 loopP exB=0 by decide +kernel)),if_neg (by decide +kernel),if_neg (fun h=>h yu4),if_neg (fun h=>h yB0),
  show allP exB=[[0,0]] by decide +kernel]
 unfold bstL
 simp only[List.foldl_cons,List.foldl_nil,y3F,v1]
 rfl
theorem y4Q:z44 loopP exL [1,0]=(⟨1,[[[500,500]],[[]]],loopP.bs,0⟩,0):=by
 unfold z44
 rw[if_neg (fun h=>h (show x0 loopP=0 by decide +kernel)),if_neg (fun h=>h (show zr7 loopP exL=0 by decide +kernel)),if_neg (by decide),if_neg (by decide +kernel)]
 rfl
theorem y3H:VR P false z03 [] [] (isR (plA true true loopP)):=by
 refine z7d (by simp) (.inr rfl) fun _ _=>?_
 simp (disch:=(try simp only[lZ]);omega) only[aZ,aM,aG37,zF1,z05,z8U]
 refine x2 (xe2 ?_) ⟨rfl,rfl⟩
 simp [zZ,blkAt,za1,A.cells,A.one,Lft.one,retA,A.bdL,A.bd,loopP,plA,plC,mcs,mcA,mcC,bts,btA,btC,rows,ints]
theorem yu5{w v:Bool}(a b:List Int)(hl:a.length≤1000000):VR P false z5c [.fs w (ints a),.fs v (ints b)] [] (isR (.v (.bool (decide (a=b))))):=by
 refine yc0 (by simp) (.inr rfl) fun _ _=>?_
 simp (disch:=(try simp only[lZ]);omega) only[aZ,aM,aG37,zV5,z5e]
 refine y1 (fun h1=>?_) (fun h1=>?_)
 ·simp (disch:=(try simp only[lZ]);omega) only[aZ,aM,aG37,zV6]
  exact y2 ⟨by rw[decide_eq_false (fun hc=>by rw[hc]at h1;omega)],rfl⟩
 have hll:a.length=b.length:=by omega
 simp (disch:=(try simp only[lZ]);omega) only[aZ,aM,aG37]
 refine AWP.loopP z8S (fun k:Nat=>k≤a.length∧∀i,i<k→a.getD i 0=b.getD i 0) (fun k=>[(2,.v (.bool false)),(3,.v (.int .i64 k))]) (fun _=>[]) (fun k=>a.length-k) 0 ⟨by omega,fun i hi=>by omega⟩ ?_ ?_
 ·exact Cut.fg (by simp (disch:=first|omega|simp (disch:=omega) only[aG,aM,aG37]) only[fZ,aM,aG37,y0,z9,or_true,true_or])
 rintro k ⟨hk,he⟩
 by_cases hlt:k<a.length
 ·simp (disch:=(try simp only[lZ]);omega) only[aZ,aM,aG37]
  refine y1 (fun h3=>?_) (fun h3=>?_)
  ·simp (disch:=(try simp only[lZ]);omega) only[aZ,aM,aG37,zV6]
   exact y2 ⟨by rw[decide_eq_false (fun hc=>by rw[hc]at h3;exact h3 rfl)],rfl⟩
  ·simp (disch:=(try simp only[lZ]);omega) only[aZ,aM,aG37]
   refine⟨k+1,⟨by omega,fun i hi=>?_⟩,by omega,?_⟩
   ·rcases Nat.lt_succ_iff_lt_or_eq.1 hi with h|rfl
    ·exact he i h
    ·exact Classical.not_not.1 h3
   ·exact Cut.fg (by simp (disch:=first|omega|simp (disch:=omega) only[aG,aM,aG37]) only[fZ,aM,aG37,y0,z9,or_true,true_or])
 ·have hae:a=b:=Z9 0 hll fun i hi=>he i (by omega)
  simp (disch:=(try simp only[lZ]);omega) only[aZ,aM,aG37,zV6]
  exact y2 ⟨by rw[decide_eq_true hae],rfl⟩
def rwP(r:Mc):Prop:=r.length≤30∧∀x∈r,x.length≤10
theorem y4R{H:List Blk}{l r:List A}(h:frzL (frzP H 9) l r):FzL 0 H l r:=z4S (z4T 9) h
set_option maxHeartbeats 4000000 in
theorem yV2:VR P false z2B [] [] (isR (.v (.bool true))):=by
 refine z8Q (by simp) (.inr rfl) fun _ _=>?_
 have hsm:=y3H
 have d1:=z8m (w:=true) (v:=false) (w':=true) (v':=false) [[0],[10]] [[0],[10]] (by decide) (by decide)
 have d2:=yu5 (w:=true) (v:=false) [1,0] [1,0] (by decide)
 have d3:=yu5 (w:=true) (v:=false) [500,500] [500,500] (by decide)
 rw[decide_eq_true rfl]at d1 d2 d3
 have hyi:=z0H (w:=true) (v:=true) (u:=false) loopP [10]
 rw[y6Q]at hyi
 have hva:=yU5 (w:=true) (v:=true) (u:=false) (u':=true) loopP [10] exG
 rw[xj0]at hva
 have hb1:=yu3 (w:=true) (v:=true) (u1:=false) (u2:=true) loopP exL [10] exG
 rw[y8o]at hb1
 have hb2:=yu3 (w:=true) (v:=true) (u1:=false) (u2:=true) loopP exB [10] exG
 rw[y8p]at hb2
 have hap:=yV0 (w:=true) (v:=true) (u:=true) (u':=false) loopP exL [1,0] (by decide)
 rw[y4Q]at hap
 have epl2:plA true true {mat:=1,ms:=[[[500,500]],[[]]],bs:=loopP.bs,fd:=0}=.agg [.v (.int .i64 1),.fs true (mcs true [[[500,500]],[[]]]),.fs true (bts loopP.bs),.v (.int .i64 0)]:=rfl
 have hpb:A.bd 0 (plA true true loopP)=true:=y1G _ _ _ _
 have hpb2:(plA true true loopP).cl=true:=by decide +kernel
 unfold yldT z0i y8j y4O at *
 rw[epl2]at hap
 simp (disch:=(try simp only[lZ]);omega) only[aZ,aM,aG37,zM0,z2D]
 refine hsm.same (by simp (disch:=first|omega|simp (disch:=omega) only[aG,aM,aG37]) only[fZ,aM,aG37]) (by rw[hpb,hpb2];rfl) ?_
 show AWP P 0 _ _ _ _
 refine AWP.chain 20 ?_
 conv=>arg 3;simp only[S.pre]
 have epl:plA true true loopP=.agg [.v (.int .i64 1),.fs true (mcs true loopP.ms),.fs true (bts loopP.bs),.v (.int .i64 0)]:=rfl
 rw[epl]at *
 simp (disch:=(try simp only[lZ]);omega) only[aZ,aM,aG37,putA]
 conv=>arg 3;simp only[S.post]
 refine AWP.cut (e':=[.v (.bool false),.fs true (bts exG),.fs true (ogL true exL),.fs true (ogL true exB),.fp true [.v (.int .i64 1),.fs true (mcs true loopP.ms),.fs true (bts loopP.bs),.v (.int .i64 0)],.any,.any,.any,.any,.any,.any,.any,.any,.any,.any,.any,.any,.any,.any,.any,.any,.any,.any,.any,.any,.any,.any,.any,.any,.any,.any,.any,.any,.any,.any,.any,.any,.any,.any,.any,.any,.any,.any,.any,.any]) (H':=[]) (Cut.of' 0 rfl (Nat.le_refl _) (by simp [FzB]) (y4R ?_)) ?_
 ·simp [zZ,blkAt,za1,A.cells,A.one,Lft.one,retA,A.bdL,A.bd,exG,exL,exB,ogL,ogs,ogA,ogC,loopP,mcs,mcA,mcC,bts,btA,btC,rows,ints]
 refine aw_sound ?_
 simp (disch:=(try simp only[lZ]);omega) only[aZ,aM,aG37]
 refine hyi.use ⟨Ld.refl hpb,zB0 _ 0 0 1 [10] rfl rfl,trivial⟩ (by rfl) (z7 ?_)
 simp (disch:=(try simp only[lZ]);omega) only[aZ,aM,aG37]
 refine hva.use ⟨Ld.refl hpb,zB0 _ _ _ 1 [10] rfl rfl,Ld.refl (by rfl),trivial⟩ (by rfl) (z7 ?_)
 simp (disch:=(try simp only[lZ]);omega) only[aZ,aM,aG37]
 refine hb1.use ⟨Ld.refl hpb,Ld.refl (by rfl),zB0 _ _ _ 1 [10] rfl rfl,Ld.refl (by rfl),trivial⟩ (by rfl) (z7 ?_)
 simp (disch:=(try simp only[lZ]);omega) only[aZ,aM,aG37]
 refine hb2.use ⟨Ld.refl hpb,Ld.refl (by rfl),zB0 _ _ _ 1 [10] rfl rfl,Ld.refl (by rfl),trivial⟩ (by rfl) (z7 ?_)
 simp (disch:=(try simp only[lZ]);omega) only[aZ,aM,aG37]
 refine hap.use ⟨Ld.refl hpb,Ld.refl (by rfl),zB0 _ _ _ 2 [1,0] rfl rfl,trivial⟩ (by rfl) (z7 ?_)
 simp (disch:=(try simp only[lZ]);omega) only[aZ,aM,aG37]
 refine d1.use (yq2 (by simp [zZ,blkAt,za1,A.cells,A.one,Lft.one,retA,A.bdL,A.bd,rows,ints])) (by rfl) (z7 ?_)
 simp (disch:=(try simp only[lZ]);omega) only[aZ,aM,aG37]
 refine d2.use (yq2 (by simp [zZ,blkAt,za1,A.cells,A.one,Lft.one,retA,A.bdL,A.bd,ints])) (by rfl) (z7 ?_)
 simp (disch:=(try simp only[lZ]);omega) only[aZ,aM,aG37,List.getD_cons_zero,List.getD_cons_succ,List.length_cons,List.length_nil,Int.natCast_add,Int.natCast_zero,Int.natCast_one]
 refine d3.use (yq2 (by simp [zZ,blkAt,za1,A.cells,A.one,Lft.one,retA,A.bdL,A.bd,ints])) (by rfl) (z7 ?_)
 simp (disch:=(try simp only[lZ]);omega) only[aZ,aM,aG37,yb9,List.getD_cons_zero,List.getD_cons_succ,List.length_cons,List.length_nil,Int.natCast_add,Int.natCast_zero,Int.natCast_one]
 exact y2 ⟨rfl,rfl⟩
def chN(L:List (List Og)):Int:=if 256<prd L then 257 else prd L
theorem yi7{u:Bool}(L:List (List Og))(hl:L.length≤1000)(hb:∀l∈L,l.length≤100):VR P false zV9 [.fs u (ogL u L)] [] (isR (.v (.int .i64 (chN L)))):=by
 refine z5X (by simp) (.inr rfl) fun _ _=>?_
 simp (disch:=(try simp only[lZ]);omega) only[aZ,aM,aG37,zx2,zW1]
 refine AWP.loopP z4r (fun k:Nat=>k≤L.length∧prd (L.take k)≤256) (fun k=>[(1,.v (.int .i64 0)),(2,.v (.int .i64 (prd (L.take k)))),(3,.v (.int .i64 k))]) (fun _=>[]) (fun k=>L.length-k) 0 ⟨by omega,by simp [prd]⟩ ?_ ?_
 ·exact Cut.fg (by simp (disch:=first|omega|simp (disch:=omega) only[aG,aM,aG37]) only[fZ,aM,aG37,List.take_zero,show((prd []:Nat):Int)=1 from rfl,y0,z9,or_true,true_or])
 rintro k ⟨hk,hp⟩
 by_cases hkt:k<L.length
 ·have hs:=yR1 L k hkt
  have hlk:=hb _ (x4 [] hkt)
  have h1:=Nat.mul_le_mul hp (show max 1 (L.getD k []).length≤100 by omega)
  by_cases h1':((L.getD k []).length:Int)>1
  ·have h2:((prd (L.take k):Nat):Int)*((L.getD k []).length:Int)=((prd (L.take (k+1)):Nat):Int):=by rw[hs,Int.natCast_mul];congr 1;omega
   have h3:((prd (L.take k):Nat):Int)*((L.getD k []).length:Int)≤25600:=by rw[h2,hs];omega
   have h4:0≤((prd (L.take k):Nat):Int)*((L.getD k []).length:Int):=by rw[h2];omega
   by_cases hm:((prd (L.take (k+1)):Nat):Int)>256
   ·have:=yR2 L (k+1)
    rw[show chN L=257 from if_pos (show 256<prd L by omega)]
    simp (disch:=(try simp only[lZ]);omega) only[aZ,aM,aG37,decide_eq_true h1',h2,decide_eq_true hm,zW2]
    exact y2 ⟨rfl,rfl⟩
   ·simp (disch:=(try simp only[lZ]);omega) only[aZ,aM,aG37,decide_eq_true h1',h2,decide_eq_false hm]
    refine⟨k+1,⟨by omega,by omega⟩,by omega,?_⟩
    exact Cut.fg (by simp (disch:=first|omega|simp (disch:=omega) only[aG,aM,aG37]) only[fZ,aM,aG37,y0,z9,or_true,true_or])
  ·have e:prd (L.take (k+1))=prd (L.take k):=by rw[hs,show max 1 (L.getD k []).length=1 by omega,Nat.mul_one]
   simp (disch:=(try simp only[lZ]);omega) only[aZ,aM,aG37,decide_eq_false h1',decide_eq_false (show ¬((prd (L.take k):Nat):Int)>256 by omega)]
   refine⟨k+1,⟨by omega,by omega⟩,by omega,?_⟩
   exact Cut.fg (by simp (disch:=first|omega|simp (disch:=omega) only[aG,aM,aG37]) only[fZ,aM,aG37,e,y0,z9,or_true,true_or])
 have hke:k=L.length:=by omega
 subst hke
 rw[List.take_length]at hp
 rw[show chN L=prd L from if_neg (by omega)]
 simp (disch:=(try simp only[lZ]);omega) only[aZ,aM,aG37,List.take_length,zW2]
 exact y2 ⟨rfl,rfl⟩
theorem ya5{w:Bool}(r:Mc):VR P false z5f [.fs w (rows w r)] [] (fun x G=>G=[]∧∃b:Bool,x=.v (.bool b)∧(b=true→rwP r)):=by
 refine yc1 (by simp) (.inr rfl) fun _ _=>?_
 by_cases h1:(r.length:Int)>30
 ·simp (disch:=(try simp only[lZ]);omega) only[aZ,aM,aG37,zB1,zV7,decide_eq_true h1,zV8]
  exact y2 ⟨rfl,_,rfl,by simp⟩
 simp (disch:=(try simp only[lZ]);omega) only[aZ,aM,aG37,zB1,zV7,decide_eq_false h1]
 refine AWP.loopP z8T (fun k:Nat=>k≤r.length∧∀i,i<k→(r.getD i []).length≤10) (fun k=>[(1,.v (.bool false)),(2,.v (.int .i64 k))]) (fun _=>[]) (fun k=>r.length-k) 0 ⟨by omega,by omega⟩ ?_ ?_
 ·exact Cut.fg (by simp (disch:=first|omega|simp (disch:=omega) only[aG,aM,aG37]) only[fZ,aM,aG37,y0,z9,or_true,true_or])
 rintro k ⟨hk,hr⟩
 by_cases hlt:k<r.length
 ·by_cases h2:((r.getD k []).length:Int)>10
  ·simp (disch:=(try simp only[lZ]);omega) only[aZ,aM,aG37,decide_eq_true h2,zV8]
   exact y2 ⟨rfl,_,rfl,by simp⟩
  ·simp (disch:=(try simp only[lZ]);omega) only[aZ,aM,aG37,decide_eq_false h2]
   refine⟨k+1,⟨by omega,fun i hi=>(Nat.lt_succ_iff_lt_or_eq.1 hi).elim (hr i) fun h=>by rw[h];omega⟩,by omega,?_⟩
   exact Cut.fg (by simp (disch:=first|omega|simp (disch:=omega) only[aG,aM,aG37]) only[fZ,aM,aG37,y0,z9,or_true,true_or])
 ·have hke:k=r.length:=by omega
  simp (disch:=(try simp only[lZ]);omega) only[aZ,aM,aG37,decide_eq_false (show ¬(k:Int)<r.length by omega),zV8]
  refine y2 ⟨rfl,_,rfl,fun _=>⟨by omega,fun x hx=>?_⟩⟩
  obtain⟨i,hi,rfl⟩:=zH0 [] hx
  exact hr i (by omega)
theorem y6S{m:Mc}(r:A)(G:List Blk)(h:G=[]∧∃b:Bool,r=.v (.bool b)∧(b=true→rwP m)):G=[]∧(r.cl && r.bd 0)=true:=by
 obtain⟨rfl,b,rfl,_⟩:=h;exact⟨rfl,rfl⟩
structure Light(p:Pl)(L:List (List Og))(fd:List Int)(gs:List Bt):Prop where
 hm:p.ms.length≤30
 hb:p.bs.length≤60
 hL:L.length≤40
 hf:fd.length≤40
 hg:gs.length≤60
 hr:∀i,i<p.ms.length→rwP (p.ms.getD i [])
 ho:∀i,i<L.length→(L.getD i []).length≤10∧∀k,k<(L.getD i []).length→rwP ((L.getD i []).getD k og0).r
def y8q(w v u a b:Bool)(p:Pl)(L:List (List Og))(fd:List Int)(gs:List Bt):A:=.agg [.v (.int .i64 p.mat),.fs w (mcs w p.ms),.fs v (bts p.bs),.v (.int .i64 p.fd),.fs u (ogL u L),.fs a (ints fd),.fs b (bts gs)]
theorem y8r{m:List Mc}{k:Nat}(h:∀i,i<k→rwP (m.getD i []))(hk:rwP (m.getD k [])):∀i,i<k+1→rwP (m.getD i []) :=
 fun i hi=>(Nat.lt_succ_iff_lt_or_eq.1 hi).elim (h i) fun e=>e▸hk
set_option maxHeartbeats 4000000 in
theorem yV3{w v u a b:Bool}(p:Pl)(L:List (List Og))(fd:List Int)(gs:List Bt):VR P false z2z [y8q w v u a b p L fd gs] [] (fun x G=>G=[]∧∃y:Bool,x=.v (.bool y)∧(y=true→Light p L fd gs)):=by
 refine z8P (by simp) (.inr rfl) fun _ _=>?_
 unfold y8q
 by_cases c0:(p.ms.length:Int)>30
 ·simp (disch:=(try simp only[lZ]);omega) only[aZ,aM,aG37,za5,zc8,decide_eq_true c0,Z8]
  exact y2 ⟨rfl,_,rfl,by simp⟩
 by_cases c1:(p.bs.length:Int)>60
 ·simp (disch:=(try simp only[lZ]);omega) only[aZ,aM,aG37,za5,zc8,decide_eq_false c0,decide_eq_true c1,Z8]
  exact y2 ⟨rfl,_,rfl,by simp⟩
 by_cases c2:(L.length:Int)>40
 ·simp (disch:=(try simp only[lZ]);omega) only[aZ,aM,aG37,za5,zc8,decide_eq_false c0,decide_eq_false c1,decide_eq_true c2,Z8]
  exact y2 ⟨rfl,_,rfl,by simp⟩
 by_cases c3:(fd.length:Int)>40
 ·simp (disch:=(try simp only[lZ]);omega) only[aZ,aM,aG37,za5,zc8,decide_eq_false c0,decide_eq_false c1,decide_eq_false c2,decide_eq_true c3,Z8]
  exact y2 ⟨rfl,_,rfl,by simp⟩
 by_cases c4:(gs.length:Int)>60
 ·simp (disch:=(try simp only[lZ]);omega) only[aZ,aM,aG37,za5,zc8,decide_eq_false c0,decide_eq_false c1,decide_eq_false c2,decide_eq_false c3,decide_eq_true c4,Z8]
  exact y2 ⟨rfl,_,rfl,by simp⟩
 simp (disch:=(try simp only[lZ]);omega) only[aZ,aM,aG37,za5,zc8,decide_eq_false c0,decide_eq_false c1,decide_eq_false c2,decide_eq_false c3,decide_eq_false c4]
 refine AWP.loopP z67 (fun k:Nat=>k≤p.ms.length∧∀i,i<k→rwP (p.ms.getD i [])) (fun k=>[(1,.v (.bool false)),(3,.v (.int .i64 k))]) (fun _=>[]) (fun k=>p.ms.length-k) 0 ⟨by omega,by omega⟩ ?_ ?_
 ·exact Cut.fg (by simp (disch:=first|omega|simp (disch:=omega) only[aG,aM,aG37]) only[fZ,aM,aG37,y0,z9,or_true,true_or])
 rintro k ⟨hk,hr⟩
 by_cases hlt:k<p.ms.length
 ·simp (disch:=(try simp only[lZ]);omega) only[aZ,aM,aG37]
  refine(ya5 _).useE (LdL.refl (by simp (disch:=first|omega|simp (disch:=omega) only[aG,aM,aG37]) only[fZ,aM,aG37])) y6S ?_
  rintro _ ⟨-,y,rfl,hy⟩
  refine z7 ?_
  cases y
  ·simp (disch:=(try simp only[lZ]);omega) only[aZ,aM,aG37,Z8]
   exact y2 ⟨rfl,_,rfl,by simp⟩
  ·simp (disch:=(try simp only[lZ]);omega) only[aZ,aM,aG37]
   refine⟨k+1,⟨by omega,y8r hr (hy rfl)⟩,by omega,?_⟩
   exact Cut.fg (by simp (disch:=first|omega|simp (disch:=omega) only[aG,aM,aG37]) only[fZ,aM,aG37,y0,z9,or_true,true_or])
 have hke:k=p.ms.length:=by omega
 subst hke
 simp (disch:=(try simp only[lZ]);omega) only[aZ,aM,aG37]
 refine AWP.loopP z68 (fun k:Nat=>k≤L.length∧∀i,i<k→(L.getD i []).length≤10∧∀k,k<(L.getD i []).length→rwP ((L.getD i []).getD k og0).r) (fun k=>[(1,.v (.bool false)),(4,.v (.int .i64 k))]) (fun _=>[]) (fun k=>L.length-k) 0 ⟨by omega,by omega⟩ ?_ ?_
 ·exact Cut.fg (by simp (disch:=first|omega|simp (disch:=omega) only[aG,aM,aG37]) only[fZ,aM,aG37,y0,z9,or_true,true_or])
 rintro k ⟨hk,ho⟩
 by_cases hlt:k<L.length
 ·by_cases c6:((L.getD k []).length:Int)>10
  ·simp (disch:=(try simp only[lZ]);omega) only[aZ,aM,aG37,decide_eq_true c6,Z8]
   exact y2 ⟨rfl,_,rfl,by simp⟩
  simp (disch:=(try simp only[lZ]);omega) only[aZ,aM,aG37,decide_eq_false c6]
  refine AWP.loopP z69 (fun j:Nat=>j≤(L.getD k []).length∧∀i,i<j→rwP ((L.getD k []).getD i og0).r) (fun j=>[(1,.v (.bool false)),(5,.v (.int .i64 j))]) (fun _=>[]) (fun j=>(L.getD k []).length-j) 0 ⟨by omega,by omega⟩ ?_ ?_
  ·exact Cut.fg (by simp (disch:=first|omega|simp (disch:=omega) only[aG,aM,aG37]) only[fZ,aM,aG37,y0,z9,or_true,true_or])
  rintro j ⟨hj,hw⟩
  by_cases hjt:j<(L.getD k []).length
  ·simp (disch:=(try simp only[lZ]);omega) only[aZ,aM,aG37]
   refine(ya5 _).useE (LdL.refl (by simp (disch:=first|omega|simp (disch:=omega) only[aG,aM,aG37]) only[fZ,aM,aG37])) y6S ?_
   rintro _ ⟨-,y,rfl,hy⟩
   refine z7 ?_
   cases y
   ·simp (disch:=(try simp only[lZ]);omega) only[aZ,aM,aG37,Z8]
    exact y2 ⟨rfl,_,rfl,by simp⟩
   ·simp (disch:=(try simp only[lZ]);omega) only[aZ,aM,aG37]
    refine⟨j+1,⟨by omega,fun i hi=>(Nat.lt_succ_iff_lt_or_eq.1 hi).elim (hw i) fun e=>e▸hy rfl⟩,by omega,?_⟩
    exact Cut.fg (by simp (disch:=first|omega|simp (disch:=omega) only[aG,aM,aG37]) only[fZ,aM,aG37,y0,z9,or_true,true_or])
  have hje:j=(L.getD k []).length:=by omega
  simp (disch:=(try simp only[lZ]);omega) only[aZ,aM,aG37,decide_eq_false (show ¬(j:Int)<(L.getD k []).length by omega)]
  refine⟨k+1,⟨by omega,fun i hi=>(Nat.lt_succ_iff_lt_or_eq.1 hi).elim (ho i) fun e=>by rw[e];exact⟨by omega,fun q hq=>hw q (by omega)⟩⟩,by omega,?_⟩
  exact Cut.fg (by simp (disch:=first|omega|simp (disch:=omega) only[aG,aM,aG37]) only[fZ,aM,aG37,y0,z9,or_true,true_or])
 have hke:k=L.length:=by omega
 subst hke
 have hL:Light p L fd gs:=⟨by omega,by omega,by omega,by omega,by omega,hr,ho⟩
 simp (disch:=(try simp only[lZ]);omega) only[aZ,aM,aG37]
 refine AWP.loopP z7a (fun s:Nat×Nat=>s.1≤p.bs.length∧16≤s.2∧s.2≤16+16*s.1) (fun s=>[(6,.v (.int .i64 s.2)),(8,.v (.int .i64 s.1))]) (fun _=>[]) (fun s=>p.bs.length-s.1) (0,16) ⟨by simp only;omega,by simp only;omega,by simp only;omega⟩ ?_ ?_
 ·exact Cut.fg (by simp (disch:=first|omega|simp (disch:=omega) only[aG,aM,aG37]) only[fZ,aM,aG37,y0,z9,or_true,true_or])
 rintro⟨k,y⟩ ⟨hk,hy1,hy2⟩
 simp only at hk hy1 hy2
 by_cases hlt:k<p.bs.length
 ·obtain⟨z,hz,hz2⟩:∃z:Nat,max 0 (min (p.bs.getD k b0).ln 16)=(z:Int)∧z≤16:=⟨(max 0 (min (p.bs.getD k b0).ln 16)).toNat,by omega,by omega⟩
  simp (disch:=(try simp only[lZ]);omega) only[aZ,aM,aG37,hz]
  refine⟨(k+1,y+z),⟨by simp only;omega,by simp only;omega,by simp only;omega⟩,by simp only;omega,?_⟩
  exact Cut.fg (by simp (disch:=first|omega|simp (disch:=omega) only[aG,aM,aG37]) only[fZ,aM,aG37,y0,z9,or_true,true_or])
 have hke:k=p.bs.length:=by omega
 subst hke
 simp (disch:=(try simp only[lZ]);omega) only[aZ,aM,aG37]
 refine AWP.loopP z7b (fun s:Nat×Nat=>s.1≤fd.length∧s.2≤1073741824*s.1) (fun s=>[(1,.v (.bool false)),(7,.v (.int .i64 s.2)),(9,.v (.int .i64 s.1))]) (fun _=>[]) (fun s=>fd.length-s.1) (0,0) ⟨by simp only;omega,by simp only;omega⟩ ?_ ?_
 ·exact Cut.fg (by simp (disch:=first|omega|simp (disch:=omega) only[aG,aM,aG37]) only[fZ,aM,aG37,y0,z9,or_true,true_or])
 rintro⟨k,g⟩ ⟨hk,hg⟩
 simp only at hk hg
 by_cases hlt:k<fd.length
 ·by_cases d1:fd.getD k 0<0
  ·simp (disch:=(try simp only[lZ]);omega) only[aZ,aM,aG37,decide_eq_true d1,Z8]
   exact y2 ⟨rfl,_,rfl,fun _=>hL⟩
  by_cases d2:fd.getD k 0>1073741824
  ·simp (disch:=(try simp only[lZ]);omega) only[aZ,aM,aG37,decide_eq_false d1,decide_eq_true d2,Z8]
   exact y2 ⟨rfl,_,rfl,fun _=>hL⟩
  obtain⟨z,hz⟩:∃z:Nat,fd.getD k 0=(z:Int):=⟨(fd.getD k 0).toNat,by omega⟩
  rw[hz]at d1 d2
  simp (disch:=(try simp only[lZ]);omega) only[aZ,aM,aG37,hz,decide_eq_false d1,decide_eq_false d2]
  refine⟨(k+1,g+z),⟨by simp only;omega,by simp only;omega⟩,by simp only;omega,?_⟩
  exact Cut.fg (by simp (disch:=first|omega|simp (disch:=omega) only[aG,aM,aG37]) only[fZ,aM,aG37,y0,z9,or_true,true_or])
 have hke:k=fd.length:=by omega
 subst hke
 simp (disch:=(try simp only[lZ]);omega) only[aZ,aM,aG37]
 refine(yi7 L (by omega) fun l hl=>?_).same (by simp (disch:=first|omega|simp (disch:=omega) only[aG,aM,aG37]) only[fZ,aM,aG37]) rfl (z7 ?_)
 ·obtain⟨i,hi,rfl⟩:=zH0 [] hl
  exact Nat.le_trans (ho i hi).1 (by omega)
 obtain⟨n,hn,hn2⟩:∃n:Nat,max 1 (min (chN L) 256)=(n:Int)∧n≤256:=⟨(max 1 (min (chN L) 256)).toNat,by omega,by omega⟩
 obtain⟨q,hq,hq2⟩:∃q:Nat,(g:Int)*(y:Int)=(q:Int)∧q≤42949672960*976:=⟨g*y,by rw[Int.natCast_mul],Nat.mul_le_mul (by omega) (by omega)⟩
 obtain⟨q',hq',hq2'⟩:∃q':Nat,(q:Int)*(n:Int)=(q':Int)∧q'≤42949672960*976*256:=⟨q*n,by rw[Int.natCast_mul],Nat.mul_le_mul hq2 hn2⟩
 simp (disch:=(try simp only[lZ]);omega) only[aZ,aM,aG37,hq,hn,hq',Z8]
 exact y2 ⟨rfl,_,rfl,fun _=>hL⟩
end Go.Proofs.YtcppaddgclkekaaGreat
namespace Go.Proofs.YtcppaddgclkekaaGreat
open Go Go.Lft
set_option linter.unusedSimpArgs false
set_option linter.unusedVariables false
end Go.Proofs.YtcppaddgclkekaaGreat
namespace Go.Proofs.YtcppaddgclkekaaGreat
open Go Go.Lft
set_option linter.unusedSimpArgs false
set_option linter.unusedVariables false
attribute [local congr] W0 W1 W2 W4 Z3 Z4 W5 Z5 Z6 Z7 W6 W3
theorem y3I{p:Pl}{L:List (List Og)}{fd:List Int}{gs:List Bt}(r:A)(G:List Blk)(h:G=[]∧∃y:Bool,r=.v (.bool y)∧(y=true→Light p L fd gs)):G=[]∧(r.cl && r.bd 0)=true:=by
 obtain⟨rfl,b,rfl,_⟩:=h;exact⟨rfl,rfl⟩
end Go.Proofs.YtcppaddgclkekaaGreat
namespace Go.Proofs.YtcppaddgclkekaaGreat
open Go Go.Lft
set_option linter.unusedSimpArgs false
set_option linter.unusedVariables false
end Go.Proofs.YtcppaddgclkekaaGreat
namespace Go.Proofs.YtcppaddgclkekaaGreat
open Go Go.Lft
set_option linter.unusedSimpArgs false
set_option linter.unusedVariables false
attribute [local congr] W0 W1 W2 W4 Z3 Z4 W5 Z5 Z6 Z7 W6 W3
theorem y3J(p:Pl)(xs:List Int):(yldR p xs).1.length<1000000000∧∀r∈(yldR p xs).1,r.length<1000000000:=by
 by_cases h:(yldR p xs).2=0
 ·obtain⟨hc,hf,e⟩:=yA2 h
  have ok:=y6 (zc1 hc).1
  have n2:=ok.n2
  have m2:=ok.mt1.2.1
  rw[e]
  refine⟨by show(yldL p xs).length<_;rw[z0I];omega,fun r hr=>?_⟩
  obtain⟨m,hm,rfl⟩:=zH0 [] (show r∈yldL p xs from hr)
  rw[z0I]at hm
  rw[yi1 _ _ _ hm]
  have:=(yA3 hc hf hm).1
  omega
 ·have : (yldR p xs).1 = [] := by
   unfold yldR at *
   split
   ·rfl
   split
   ·rfl
   ·rename_i a b;rw[if_neg a,if_neg b]at h;exact absurd rfl h
  rw[this]
  exact⟨by decide,fun r hr=>by simp at hr⟩
set_option maxHeartbeats 2000000 in
theorem setpointYields_vr(p:Pl)(xs:List Int)(hl9:xs.length≤9223372036854775807):VR P false zl7 [plA true true p,.fs true (ints xs)] [] (isR (.v (.bool true))):=by
 refine zL9 (by simp) (.inr rfl) fun _ _=>?_
 have hli:=yV3 (w:=true) (v:=true) (u:=false) (a:=true) (b:=false) p [] xs []
 have haw:=yV2
 have hyi:=z0H (w:=true) (v:=true) (u:=true) p xs
 have hyr:=yA6 (u:=true) p xs hl9
 obtain⟨s1,s2⟩:=y3J p xs
 have hsa:=z8m (w:=true) (v:=true) (w':=true) (v':=true) (yldR p xs).1 (yldR p xs).1 s1 s2
 rw[decide_eq_true rfl]at hsa
 unfold y8q at hli
 unfold yldT at hyi hyr
 have hid:∀H:List Blk,LdL H [.agg [.v (.int .i64 p.mat),.fs true (mcs true p.ms),.fs true (bts p.bs),.v (.int .i64 p.fd),.v (.slice none 0 0),.fs true (ints xs),.v (.slice none 0 0)]] [.agg [.v (.int .i64 p.mat),.fs true (mcs true p.ms),.fs true (bts p.bs),.v (.int .i64 p.fd),.fs false (ogL false []),.fs true (ints xs),.fs false (bts [])]]:=fun H =>
  ⟨Ld.agg ⟨Ld.refl (by simp (disch:=first|omega|simp (disch:=omega) only[aG,aM,aG37]) only[fZ,aM,aG37]),Ld.refl (by simp (disch:=first|omega|simp (disch:=omega) only[aG,aM,aG37]) only[fZ,aM,aG37]),Ld.refl (by simp (disch:=first|omega|simp (disch:=omega) only[aG,aM,aG37]) only[fZ,aM,aG37]),Ld.refl (by simp (disch:=first|omega|simp (disch:=omega) only[aG,aM,aG37]) only[fZ,aM,aG37]),yw3 _,Ld.refl (by simp (disch:=first|omega|simp (disch:=omega) only[aG,aM,aG37]) only[fZ,aM,aG37]),yw3 _,trivial⟩,trivial⟩
 unfold plA plC at *
 generalize yldR p xs=Y at *
 simp (disch:=(try simp only[lZ]);omega) only[aZ,aM,aG37,zd9,zl9]
 refine hli.useE (hid _) y3I ?_
 rintro _ ⟨-,y,rfl,hy⟩
 refine z7 ?_
 cases y
 ·simp (disch:=(try simp only[lZ]);omega) only[aZ,aM,aG37]
  refine haw.same rfl rfl (z7 ?_)
  simp (disch:=(try simp only[lZ]);omega) only[aZ,aM,aG37,zm0]
  exact y2 ⟨rfl,rfl⟩
 simp (disch:=(try simp only[lZ]);omega) only[aZ,aM,aG37]
 refine hyi.same (by simp (disch:=first|omega|simp (disch:=omega) only[aG,aM,aG37]) only[fZ,aM,aG37]) (by simp (disch:=first|omega|simp (disch:=omega) only[aG,aM,aG37]) only[fZ,aM,aG37]) (z7 ?_)
 simp (disch:=(try simp only[lZ]);omega) only[aZ,aM,aG37]
 refine hyr.same (by simp (disch:=first|omega|simp (disch:=omega) only[aG,aM,aG37]) only[fZ,aM,aG37]) (by simp (disch:=first|omega|simp (disch:=omega) only[aG,aM,aG37]) only[fZ,aM,aG37]) (z7 ?_)
 simp (disch:=(try simp only[lZ]);omega) only[aZ,aM,aG37]
 refine hsa.same (by simp (disch:=first|omega|simp (disch:=omega) only[aG,aM,aG37]) only[fZ,aM,aG37]) rfl (z7 ?_)
 simp (disch:=(try simp only[lZ]);omega) only[aZ,aM,aG37]
 refine haw.same rfl rfl (z7 ?_)
 simp (disch:=(try simp only[lZ]);omega) only[aZ,aM,aG37,zm0]
 exact y2 ⟨rfl,rfl⟩
end Go.Proofs.YtcppaddgclkekaaGreat
