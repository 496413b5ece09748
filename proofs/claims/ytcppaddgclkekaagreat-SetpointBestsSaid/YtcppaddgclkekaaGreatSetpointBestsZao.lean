/- Lemmas and walks that the proof of SetpointBests uses. No statement is claimed here. -/
import Derived.Test.YtcppaddgclkekaaGreatSetpointBestsZan
namespace Go.Proofs.YtcppaddgclkekaaGreat
open Go Go.Lft
set_option linter.unusedSimpArgs false
set_option linter.unusedVariables false
def zc5{α:Type}(f:α→Int):List α→Int
 | []=>0
 | x :: r=>if f x≠0 then f x else zc5 f r
theorem za7{α:Type}{f:α→Int}(d:α):∀{l:List α} {k:Nat},k<l.length→(∀i,i<k→f (l.getD i d)=0)→f (l.getD k d)≠0→zc5 f l=f (l.getD k d)
 | [],k,hk,_,_=>by simp at hk
 | x :: r,0,_,_,hn=>by simp only[List.getD_cons_zero]at hn ⊢;simp [zc5,hn]
 | x :: r,k+1,hk,h,hn=>by
  have h0:=h 0 (by omega)
  simp only[List.getD_cons_zero]at h0
  simp only[List.getD_cons_succ]at hn ⊢
  rw[← za7 d (by simpa using hk) (fun i hi=>by have:=h (i+1) (by omega);simpa using this) hn]
  simp [zc5,h0]
theorem w7{α:Type}{f:α→Int}(d:α):∀{l:List α},(∀i,i<l.length→f (l.getD i d)=0)→zc5 f l=0
 | [],_=>rfl
 | x :: r,h=>by
  have h0:=h 0 (by simp)
  simp only[List.getD_cons_zero]at h0
  simp only[zc5,h0]
  exact w7 d (l:=r) fun i hi=>by have:=h (i+1) (by simpa using hi);simpa using this
theorem zi1{α:Type}{f:α→Int}:∀{l:List α},zc5 f l=0→∀x∈l,f x=0
 | [],_,x,hx=>by simp at hx
 | y :: r,h,x,hx=>by
  unfold zc5 at h
  split at h
  ·contradiction
  ·rename_i h0
   rcases List.mem_cons.1 hx with rfl|hx
   ·exact Classical.not_not.1 h0
   ·exact zi1 h x hx
def idxE{α:Type}(p:α→Prop)[DecidablePred p]:List α→Int
 | []=>-1
 | x :: r=>if p x then 0 else if idxE p r<0 then -1 else idxE p r+1
theorem z5S{α:Type}(p:α→Prop)[DecidablePred p]:∀(l:List α),-1≤idxE p l∧idxE p l<l.length
 | []=>by simp [idxE]
 | x :: r=>by
  have:=z5S p r
  simp only[idxE,List.length_cons]
  split
  ·omega
  ·split<;>omega
theorem zH3{α:Type}{p:α→Prop}[DecidablePred p](d:α):∀{l:List α} {k:Nat},k<l.length→(∀i,i<k→¬p (l.getD i d))→p (l.getD k d)→idxE p l=k
 | [],k,hk,_,_=>by simp at hk
 | x :: r,0,_,_,hn=>by simp only[List.getD_cons_zero]at hn;simp [idxE,hn]
 | x :: r,k+1,hk,h,hn=>by
  have h0:=h 0 (by omega)
  simp only[List.getD_cons_zero]at h0
  simp only[List.getD_cons_succ]at hn
  have:=zH3 d (p:=p) (l:=r) (by simpa using hk) (fun i hi=>by have:=h (i+1) (by omega);simpa using this) hn
  simp only[idxE,this,h0,if_false]
  rw[if_neg (by omega)];omega
theorem zn4{α:Type}{p:α→Prop}[DecidablePred p](d:α):∀{l:List α},(∀i,i<l.length→¬p (l.getD i d))→idxE p l=-1
 | [],_=>rfl
 | x :: r,h=>by
  have h0:=h 0 (by simp)
  simp only[List.getD_cons_zero]at h0
  have:=zn4 d (p:=p) (l:=r) fun i hi=>by have:=h (i+1) (by simpa using hi);simpa using this
  simp [idxE,h0,this]
theorem z0W{α:Type}{p:α→Prop}[DecidablePred p](d:α):∀{l:List α},0≤idxE p l→p (l.getD (idxE p l).toNat d)
 | [],h=>by simp [idxE]at h
 | x :: r,h=>by
  unfold idxE at h ⊢
  by_cases hx:p x
  ·simp [hx]
  ·simp only[hx,if_false]at h ⊢
   by_cases h2:idxE p r<0
   ·rw[if_pos h2]at h;omega
   ·rw[if_neg h2]at h ⊢
    have:=z0W d (p:=p) (l:=r) (by omega)
    rw[show(idxE p r+1).toNat=(idxE p r).toNat+1 by omega]
    simpa using this
theorem zS9{α:Type}{p:α→Prop}[DecidablePred p]{l:List α}(h:idxE p l<0):∀x∈l,¬p x:=by
 induction l with
 | nil=>intro x hx;simp at hx
 | cons y r ih =>
  intro x hx
  unfold idxE at h
  by_cases hy:p y
  ·simp [hy]at h
  ·simp only[hy,if_false]at h
   by_cases h2:idxE p r<0
   ·rcases List.mem_cons.1 hx with rfl|hx
    ·exact hy
    ·exact ih h2 x hx
   ·rw[if_neg h2]at h;omega
theorem x3{α:Type}(d:α){l:List α}{k:Nat}(h:k<l.length):l.getD k d∈l:=by
 simp [List.getD_eq_getElem?_getD,h]
theorem zJ9{α:Type}(d:α){l:List α}{x:α}(h:x∈l):∃k,k<l.length∧l.getD k d=x:=by
 obtain⟨k,hk,rfl⟩:=List.mem_iff_getElem.1 h
 exact⟨k,hk,by simp [List.getD_eq_getElem?_getD,hk]⟩
theorem Z3{α:Type}(l:List α)(k:Nat)(d:α)(h:k<l.length):l.take (k+1)=l.take k++[l.getD k d]:=by
 rw[List.take_succ_eq_append_getElem h];simp [List.getD_eq_getElem?_getD,h]
def sumT(l:List Int)(k:Nat):Int:=(l.take k).sum
theorem ze8(l:List Int):sumT l 0=0:=by simp [sumT]
theorem ze9(l:List Int)(k:Nat)(h:k<l.length):sumT l (k+1)=sumT l k+l.getD k 0:=by
 unfold sumT;rw[Z3 l k 0 h];simp
theorem zd8(l:List Int):sumT l l.length=l.sum:=by simp [sumT]
theorem zB5(l:List Int)(a b:Int):∀(k:Nat),k≤l.length→(∀i,i<k→a≤l.getD i 0∧l.getD i 0≤b)→a*k≤sumT l k∧sumT l k≤b*k
 | 0,_,_=>by simp [ze8]
 | k+1,hk,h=>by
  have h1:=zB5 l a b k (by omega) fun i hi=>h i (by omega)
  have h2:=h k (by omega)
  rw[ze9 l k (by omega),show((k+1:Nat):Int)=(k:Int)+1 by omega,Int.mul_add,Int.mul_add]
  omega
structure Bt where
 fr:Int
 ot:Int
 to:Int
 ln:Int
def b0:Bt:=⟨0,0,0,0⟩
def btC(b:Bt):List A:=[.v (.int .i64 b.fr),.v (.int .i64 b.ot),.v (.int .i64 b.to),.v (.int .i64 b.ln)]
def btA(b:Bt):A:=.agg (btC b)
def bts(l:List Bt):List A:=l.map btA
abbrev Mc:=List (List Int)
def mcC(w:Bool)(m:Mc):List A:=[.fs w (rows w m)]
def mcA(w:Bool)(m:Mc):A:=.agg (mcC w m)
def mcs(w:Bool)(l:List Mc):List A:=l.map (mcA w)
structure Pl where
 mat:Int
 ms:List Mc
 bs:List Bt
 fd:Int
def plC(w v:Bool)(p:Pl):List A:=[.v (.int .i64 p.mat),.fs w (mcs w p.ms),.fs v (bts p.bs),.v (.int .i64 p.fd)]
def plA(w v:Bool)(p:Pl):A:=.agg (plC w v p)
theorem z9r(l:List Bt):(bts l).length=l.length:=by simp [bts]
theorem y71(w:Bool)(l:List Bt)(kk:IntKind)(j:Int)(h1:0≤j)(h2:j<l.length):idxA 4 (.fs w (bts l)) (.v (.int kk j))=some (.fp w [.v (.int .i64 (l.getD j.toNat b0).fr),.v (.int .i64 (l.getD j.toNat b0).ot),.v (.int .i64 (l.getD j.toNat b0).to),.v (.int .i64 (l.getD j.toNat b0).ln)]) :=
 zH7 4 w l b0 kk j btC (fun _=>rfl) (fun _=>rfl) h1 h2
theorem y00(n:Nat)(l:List Bt):A.bdL n (bts l)=true:=z1C n l fun _=>rfl
theorem xq2(l:List Bt):A.clL (bts l)=true:=z1D l fun _=>rfl
theorem yA0(w:Bool)(l:List Mc):(mcs w l).length=l.length:=by simp [mcs]
theorem y72(w v:Bool)(l:List Mc)(kk:IntKind)(j:Int)(h1:0≤j)(h2:j<l.length):idxA 1 (.fs w (mcs v l)) (.v (.int kk j))=some (.fp w [.fs v (rows v (l.getD j.toNat []))]) :=
 zH7 1 w l [] kk j (mcC v) (fun _=>rfl) (fun _=>rfl) h1 h2
theorem y3C(n:Nat)(w:Bool)(m:Mc):A.bd n (mcA w m)=true:=by simp [mcA,mcC,A.bd,A.bdL,r_bd]
theorem y3D(n:Nat)(w:Bool)(l:List Mc):A.bdL n (mcs w l)=true:=z1C n l fun m=>y3C n w m
theorem xq3(l:List Mc):A.clL (mcs true l)=true:=z1D l fun m=>by simp [mcA,mcC,A.cl,A.clL,r_cl]
theorem yX0(n:Nat)(w v:Bool)(p:Pl):A.bdL n (plC w v p)=true:=by simp [plC,A.bdL,A.bd,y3D,y00]
theorem y3E(n:Nat)(w v:Bool)(p:Pl):A.bd n (plA w v p)=true:=yX0 n w v p
theorem aM:type_of% (ai9 @z9r<|ai9 @y71<|ai9 @y00<|ai9 @xq2<|ai9 @yA0<|ai9 @y72<|ai9 @y3C<|ai9 @y3D<|ai9 @xq3<|ai9 @yX0<|@y3E):=⟨@z9r,@y71,@y00,@xq2,@yA0,@y72,@y3C,@y3D,@xq3,@yX0,@y3E⟩
def zt4(r:Int):Int:=if r<0∨1000<r then 1 else 0
def rowE(outs:Nat)(r:List Int):Int :=
 if 4<r.length then 8 else if r.length≠outs then 3 else if zc5 zt4 r≠0 then zc5 zt4 r else if 0<r.length∧r.sum≠1000 then 17 else 0
def y3(m:Mc):Nat:=(m.getD 0 []).length
def w5(m:Mc)(mat:Int):Int :=
 if mat<1∨16<mat then 1 else if(m.length:Int)≠mat then 18 else zc5 (rowE (y3 m)) m
def zf0(m:Mc)(mat:Int):Int:=if mat<0∨(m.length:Int)≤mat then -1 else idxE (fun r:Int=>0<r) (m.getD mat.toNat [])
theorem z9s{r:Int}(h:zt4 r=0):0≤r∧r≤1000:=by unfold zt4 at h;split at h<;>omega
theorem yi2{r:Int}(h:r<0∨1000<r):zt4 r=1:=by unfold zt4;rw[if_pos h]
theorem yA1{r:Int}(h:¬(r<0∨1000<r)):zt4 r=0:=by unfold zt4;rw[if_neg h]
theorem yX1{m:Mc}:y3 m=0∨0<m.length:=by
 cases m with
 | nil=>exact .inl rfl
 | cons a r=>exact .inr (by simp)
structure MOk(m:Mc)(mat:Int):Prop where
 m1:1≤mat
 m2:mat≤16
 len:(m.length:Int)=mat
 row:∀r∈m,r.length=y3 m∧r.length≤4∧(∀x∈r,0≤x∧x≤1000)∧(0<r.length→r.sum=1000)
theorem zN7{m:Mc}{mat:Int}(h:w5 m mat=0):MOk m mat:=by
 unfold w5 at h
 split at h
 ·cases h
 rename_i h1
 split at h
 ·cases h
 rename_i h2
 refine⟨by omega,by omega,by omega,fun r hr=>?_⟩
 have hr':=zi1 h r hr
 unfold rowE at hr'
 split at hr'
 ·cases hr'
 rename_i h3
 split at hr'
 ·cases hr'
 rename_i h4
 split at hr'
 ·contradiction
 rename_i h5
 split at hr'
 ·cases hr'
 rename_i h6
 refine⟨by omega,by omega,fun x hx=>z9s (zi1 (Classical.not_not.1 h5) x hx),fun h7=>?_⟩
 apply Classical.byContradiction;intro h8;exact h6 ⟨h7,h8⟩
theorem y9j{l:List Int}(h:∀x∈l,¬(0<x)):l.sum≤0:=by
 induction l with
 | nil=>simp
 | cons a r ih =>
  have h1:=h a (by simp)
  have h2:=ih fun x hx=>h x (by simp [hx])
  simp only[List.sum_cons];omega
theorem z4O{m:Mc}{mat:Int}(h:MOk m mat)(ho:y3 m≠0){k:Int}(h0:0≤k)(h1:k<mat):0≤zf0 m k∧zf0 m k<y3 m∧0<(m.getD k.toNat []).getD (zf0 m k).toNat 0:=by
 have hk:k.toNat<m.length:=by have:=h.len;omega
 obtain⟨r1,r2,r3,r4⟩:=h.row _ (x3 [] hk)
 unfold zf0
 rw[if_neg (by have:=h.len;omega)]
 have h3:0≤idxE (fun r:Int=>0<r) (m.getD k.toNat []):=by
  apply Classical.byContradiction;intro hc
  have:=y9j (zS9 (p:=fun r:Int=>0<r) (l:=m.getD k.toNat []) (by omega))
  have:=r4 (by omega)
  omega
 have h4:=z5S (fun r:Int=>0<r) (m.getD k.toNat [])
 exact⟨h3,by rw[r1]at h4;exact h4.2,z0W (p:=fun r:Int=>0<r) 0 h3⟩
end Go.Proofs.YtcppaddgclkekaaGreat
namespace Go.Lft
open Go
set_option linter.unusedSimpArgs false
set_option linter.unusedVariables false
theorem X4{α:Type}{o:Option α}{K K':α→Prop}(hk:∀a,K a→K' a)(h:bw o K):bw o K':=by
 obtain⟨a,h1,h2⟩:=h;exact⟨a,h1,hk _ h2⟩
theorem E.aw_mono{kp:Bool}{e:List A}{H:List Blk}{R R':A→List Blk→Prop}(hr:∀a H',R a H'→R' a H'):∀{f:E},f.aw kp e H R→f.aw kp e H R'
  | .alloc t z,h=>hr _ _ h
  | .box t x,h=>X4 (fun a h=>X4 (fun cs h=>hr _ _ h) h) h
  | .mk t size bytes z l c, h => X4 (fun a h => X4 (fun b h => by
      obtain⟨kl,kc,li,ci,h1,h2,h3,h4,h5,h6,h7,h8⟩:=h
      exact⟨kl,kc,li,ci,h1,h2,h3,h4,h5,h6,h7,hr _ _ h8⟩) h) h
  | .lit t size len z ps,h=>X4 (fun a h=>X4 (fun cs h=>⟨h.1,hr _ _ h.2⟩) h) h
  | .app t size bytes z s x, h => X4 (fun a h => X4 (fun xa h => X4 (fun p h => by
      unfold appA at h ⊢
      split at h
      · exact⟨h.1,h.2.1,fun hm=>hr _ _ (h.2.2.1 hm),fun hm=>hr _ _ (h.2.2.2 hm)⟩
      · exact⟨h.1,h.2.1,h.2.2.1,h.2.2.2.1,X4 (fun cs h=>⟨h.1,hr _ _ h.2⟩) h.2.2.2.2⟩
      · exact⟨h.1,h.2.1,h.2.2.1,h.2.2.2.1,X4 (fun cs h=>⟨h.1,hr _ _ h.2⟩) h.2.2.2.2⟩
      · exact h.elim) h) h) h
  | .cpy size d s, h => ⟨h.1, X4 (fun a h => X4 (fun xa h => X4 (fun p h => by
      unfold cpyA at h ⊢
      split at h
      · exact⟨h.1,X4 (fun cs h=>⟨h.1,hr _ _ h.2⟩) h.2⟩
      · exact h.elim) h) h) h.2⟩
  | .clr z s, h => ⟨h.1, h.2.1, X4 (fun a h => by
      unfold clrA at h ⊢
      split at h
      · exact⟨h.1,X4 (fun cs h=>⟨h.1,hr _ _ h.2⟩) h.2⟩
      · exact h.elim) h.2.2⟩
  | .st n p v, h => ⟨h.1, X4 (fun a h => X4 (fun b h => X4 (fun cs h => ⟨h.1, by
      replace h:=h.2
      unfold stA at h ⊢
      split at h
      · exact X4 (fun cs h=>⟨h.1,hr _ _ h.2⟩) h
      · exact h.elim⟩) h) h) h.2⟩
theorem AWP.mono{P:Program}{n0:Nat}{s:S}{Q Q':QA}{e:List A}{H:List Blk}(hq:∀x e H,Q x e H→Q' x e H)(h:AWP P n0 s Q e H):AWP P n0 s Q' e H :=
 fun c ev h1 h2 h3 h4=>S.wp_mono s (fun x e' h' ⟨e2,d,k1,k2,k3⟩=>⟨e2,d,k1,hq _ _ _ k2,k3⟩) (h c ev h1 h2 h3 h4)
theorem S.aw_mono{P:Program}{n0:Nat}:∀{s:S} {Q Q':QA} {e:List A} {H:List Blk},(∀x e H,Q x e H→Q' x e H)→s.aw P n0 Q e H→s.aw P n0 Q' e H:=by
 intro s
 induction s with
 | nxt=>intro Q Q' e H hq h;exact hq _ _ _ h
 | set i x k ih=>intro Q Q' e H hq h;exact X4 (fun a h=>ih hq h) h
 | chk x k ih=>intro Q Q' e H hq h;exact X4 (fun a h=>ih hq h) h
 | eff kp d f k ih=>intro Q Q' e H hq h;exact E.aw_mono (fun a H' h=>ih hq h) h
 | call kp d f es k ih=>intro Q Q' e H hq h;exact X4 (fun l h=>h.mono fun a H' h=>AWP.mono hq h) h
 | callv kp d f es k ih=>intro Q Q' e H hq h;exact X4 (fun fa h=>X4 (fun l ⟨g,c,h1,h2,h3⟩=>⟨g,c,h1,h2,h3.mono fun a H' h=>AWP.mono hq h⟩) h) h
 | ite c a b iha ihb =>
  intro Q Q' e H hq h
  obtain⟨t,h1,h2⟩:=h
  refine⟨t,h1,?_⟩
  cases t with
  | true=>exact iha hq h2
  | false=>exact ihb hq h2
 | both a b iha ihb=>intro Q Q' e H hq h;exact⟨iha hq h.1,ihb hq h.2⟩
 | seq a b iha ihb =>
  intro Q Q' e H hq h
  refine iha (fun x e H h=>?_) h
  cases x with
  | nxt=>exact ihb hq h
  | exit i=>exact hq _ _ _ h
  | ret=>exact hq _ _ _ h
 | blk id a iha =>
  intro Q Q' e H hq h
  refine iha (fun x e H h=>?_) h
  cases x with
  | nxt=>exact hq _ _ _ h
  | exit i =>
   dsimp only at h ⊢
   split
   ·rename_i hi;rw[if_pos hi]at h;exact hq _ _ _ h
   ·rename_i hi;rw[if_neg hi]at h;exact hq _ _ _ h
  | ret=>exact hq _ _ _ h
 | loop a ih=>intro Q Q' e H hq h;exact AWP.mono hq h
 | exit id=>intro Q Q' e H hq h;exact hq _ _ _ h
 | ret=>intro Q Q' e H hq h;exact hq _ _ _ h
 | stop=>intro Q Q' e H hq h;exact h
theorem z4P{P:Program}{n0:Nat}{Q:QA}{e:List A}{H:List Blk}{a b:S}{t:Bool}(M:List Blk→Prop)(ht:t=true→a.aw P n0 (fun x e' H'=>x=.nxt∧e'=e∧M H') e H)(hf:t=false→b.aw P n0 (fun x e' H'=>x=.nxt∧e'=e∧M H') e H)(hk:∀H',M H'→Q .nxt e H'):ib t (aif P n0 Q e H a b):=by
 unfold ib aif
 cases t with
 | true=>exact S.aw_mono (fun x e' H' h=>by obtain⟨rfl,rfl,h⟩:=h;exact hk _ h) (ht rfl)
 | false=>exact S.aw_mono (fun x e' H' h=>by obtain⟨rfl,rfl,h⟩:=h;exact hk _ h) (hf rfl)
theorem yi3{P:Program}{n0:Nat}{Q:QA}{e:List A}{H:List Blk}{a b:S}{t:Bool}(M:List A→Prop)(ht:t=true→a.aw P n0 (fun x e' H'=>x=.nxt∧H'=H∧M e') e H)(hf:t=false→b.aw P n0 (fun x e' H'=>x=.nxt∧H'=H∧M e') e H)(hk:∀e',M e'→Q .nxt e' H):ib t (aif P n0 Q e H a b):=by
 unfold ib aif
 cases t with
 | true=>exact S.aw_mono (fun x e' H' h=>by obtain⟨rfl,rfl,h⟩:=h;exact hk _ h) (ht rfl)
 | false=>exact S.aw_mono (fun x e' H' h=>by obtain⟨rfl,rfl,h⟩:=h;exact hk _ h) (hf rfl)
theorem VR.cut{P:Program}{kp:Bool}{f:Nat}{args:List A}{H:List Blk}{R R':A→List Blk→Prop}(h:VR P kp f args H R)(hc:∀r G,R r G→∃r' G',Cut H.length [r] G [r'] G'∧R' r' G'):VR P kp f args H R':=fun c vs hH hs hr =>
 (h c vs hH hs hr).mono fun v h' ⟨hk,r,d,e1,e2,e3,e4,e5⟩=>by
  obtain⟨r',G',hcut,hR⟩:=hc r d.H e2
  obtain⟨d',q1,q2,q3,q4,q5⟩:=hcut d [v] rfl (e3.len (by rw[hH];exact Nat.le_refl _)) e4 (RL.cons e5 RL.nil)
  obtain⟨x,xs,e6,e7,_⟩:=q5.uncons
  injection e6 with e6 _
  exact⟨hk,r',d',q2.trans e1,q1▸hR,e3.trans q3,q4,e6▸e7⟩
theorem VR.useS {P : Program} {kp' : Bool} {f : Nat} {args args' : List A} {H : List Blk} {R R' : A → List Blk → Prop} (hv : VR P false f args' [] R') (hl : LdL H args args') (hc : ∀ r G, R' r G → (r.cl && G.all fun B => A.clL B.cells) = true)
    (h:∀r G,R' r G→R (r.sh H.length) (H++G.map (Blk.sh H.length))):VR P kp' f args H R:=by
  refine(hv.lend hl fun r G hr=>?_).mono fun r H' ⟨r1,G,h1,h2,h3⟩=>?_
  · have:=hc r G hr
    simp only[Bool.and_eq_true,List.all_eq_true]at this
    exact this
  · subst h2;subst h3;exact h r1 G h1
theorem FzL.cat{m:Nat}{H:List Blk}:∀{l r l' r':List A},FzL m H l l'→FzL m H r r'→FzL m H (l++r) (l'++r')
 | [],r,[],r',_,h=>h
 | a :: l,r,b :: l',r',h,k=>⟨h.1,FzL.cat h.2 k⟩
 | [],_,_ :: _,_,h,_=>h.elim
 | _ :: _,_,[],_,h,_=>h.elim
theorem FzL.anys{m:Nat}{H:List Blk}:∀(l:List A),FzL m H l (List.replicate l.length .any)
 | []=>trivial
 | a :: l=>⟨Fz.any,FzL.anys l⟩
theorem LdL.cat{H:List Blk}:∀{l r l' r':List A},LdL H l l'→LdL H r r'→LdL H (l++r) (l'++r')
 | [],r,[],r',_,h=>h
 | a :: l,r,b :: l',r',h,k=>⟨h.1,LdL.cat h.2 k⟩
 | [],_,_ :: _,_,h,_=>h.elim
 | _ :: _,_,[],_,h,_=>h.elim
theorem LdL.anys{H:List Blk}:∀(l:List A),LdL H l (List.replicate l.length .any)
 | []=>trivial
 | a :: l=>⟨Ld.any,LdL.anys l⟩
theorem y3F{l:List A}{o m:Nat}(h:o+m≤l.length):l.take o++((l.drop o).take m++l.drop (o+m))=l:=by
 rw[← List.drop_drop,List.take_append_drop,List.take_append_drop]
theorem yX2{l:List A}{o m:Nat}(h:o+m≤l.length){c:List A}(hc:c.length=m):((List.replicate (l.take o).length A.any++(c++List.replicate (l.drop (o+m)).length A.any)).drop o).take m=c:=by
 have h1:(l.take o).length=o:=by simp;omega
 rw[h1,List.drop_append_of_le_length (by simp),List.drop_of_length_le (by simp),List.nil_append,List.take_append_of_le_length (by omega),List.take_of_length_le (by omega)]
def frzL(F:A→A→Prop):List A→List A→Prop
 | [],[]=>True
 | a :: l,b :: r=>F a b∧frzL F l r
 | _,_=>False
def frzP(H:List Blk):Nat→A→A→Prop
 | 0,_,_=>False
 | d+1,a,b=>match a,b with
  | _,.any=>True
  | .v (.slice none 0 0),.fs true []=>True
  | .v x,.v y=>x=y
  | .agg l,.agg r=>frzL (frzP H d) l r
  | .tup l,.tup r=>frzL (frzP H d) l r
  | .fn f l,.fn g r=>f=g∧frzL (frzP H d) l r
  | .fs w l,.fs w' l'=>A.bdL 0 l=true∧w=w'∧l=l'
  | .fp w l,.fp w' l'=>A.bdL 0 l=true∧w=w'∧l=l'
  | .sl i ver k o n,.fs true els=>∃l,blkAt H i ver=some l∧∃c,za5 k els=some c∧els.length=n∧o+n*k≤l.length∧frzL (frzP H d) ((l.drop o).take (n*k)) c
  | .vs i ver k n,.fs true els=>∃l,blkAt H i ver=some l∧∃c,za5 k els=some c∧els.length=n∧n*k≤l.length∧frzL (frzP H d) (l.take (n*k)) c
  | .lp i ver o,.fp true c=>∃l,blkAt H i ver=some l∧o≤l.length∧frzL (frzP H d) (l.drop o) c
  | _,_=>False
theorem z1e{F:A→A→Prop}:∀{l r:List A},frzL F l r→l.length=r.length
 | [],[],_=>rfl
 | a :: l,b :: r,h=>by simp [z1e h.2]
 | [],_ :: _,h=>h.elim
 | _ :: _,[],h=>h.elim
theorem z5T{H:List Blk}{F:A→A→Prop}(hF:∀a b,F a b→Fz 0 H a b):∀{l r:List A},frzL F l r→FzL 0 H l r
 | [],[],_=>trivial
 | a :: l,b :: r,h=>⟨hF a b h.1,z5T hF h.2⟩
 | [],_ :: _,h=>h.elim
 | _ :: _,[],h=>h.elim
theorem z5U{H:List Blk}:∀(d:Nat) (a b:A),frzP H d a b→Fz 0 H a b
 | 0,a,b,h=>h.elim
 | d+1,a,b,h=>by
  have ih:=fun{l r:List A} (h:frzL (frzP H d) l r)=>z5T (z5U d) h
  unfold frzP at h
  split at h
  ·exact Fz.any
  ·exact z3d _ _
  ·subst h;exact Fz.refl rfl
  ·exact Fz.agg (ih h)
  ·exact Fz.tup (ih h)
  ·obtain⟨rfl,h⟩:=h;exact Fz.fn (ih h)
  ·obtain⟨h,rfl,rfl⟩:=h;exact Fz.refl h
  ·obtain⟨h,rfl,rfl⟩:=h;exact Fz.refl h
  ·obtain⟨l,h1,c,h2,h3,h4,h5⟩:=h
   have hc:=z1e h5
   rw[List.length_take,List.length_drop]at hc
   rename_i i ver k o n els
   have h6:FzL 0 H l (List.replicate (l.take o).length A.any++(c++List.replicate (l.drop (o+n*k)).length A.any)):=by
    have:=FzL.cat (FzL.anys (m:=0) (H:=H) (l.take o)) (FzL.cat (ih h5) (FzL.anys (l.drop (o+n*k))))
    rwa [y3F h4]at this
   exact Fz.sl (Nat.zero_le _) h1 h6 (by rw[yX2 h4 (by omega)];exact h2) h3 (by have:=h6.len;omega)
  ·obtain⟨l,h1,c,h2,h3,h4,h5⟩:=h
   have hc:=z1e h5
   rw[List.length_take]at hc
   rename_i i ver k n els
   have h6:FzL 0 H l (c++List.replicate (l.drop (n*k)).length A.any):=by
    have:=FzL.cat (ih h5) (FzL.anys (l.drop (n*k)))
    rwa [List.take_append_drop]at this
   exact Fz.vs (Nat.zero_le _) h1 h6 (by rw[List.take_append_of_le_length (by omega),List.take_of_length_le (by omega)];exact h2) h3 (by have:=h6.len;omega)
  ·obtain⟨l,h1,h4,h5⟩:=h
   rename_i o c
   have h6:FzL 0 H l (List.replicate (l.take o).length A.any++c):=by
    have:=FzL.cat (FzL.anys (m:=0) (H:=H) (l.take o)) (ih h5)
    rwa [List.take_append_drop]at this
   have h7:=Fz.lp (m:=0) (o:=o) (Nat.zero_le _) h1 h6 (by have:=h6.len;omega)
   have e:(List.replicate (l.take o).length A.any++c).drop o=c:=by
    have:(l.take o).length=o:=by simp;omega
    rw[this,List.drop_append_of_le_length (by simp),List.drop_of_length_le (by simp),List.nil_append]
   rw[e]at h7;exact h7
  ·exact h.elim
theorem xq4{H:List Blk}{a b:A}(h:frzP H 9 a b):Fz 0 H a b:=z5U 9 a b h
def lndP(H:List Blk):Nat→A→A→Prop
 | 0,_,_=>False
 | d+1,a,b=>match a,b with
  | _,.any=>True
  | .v (.slice none 0 0),.fs false []=>True
  | .v x,.v y=>x=y
  | .agg l,.agg r=>frzL (lndP H d) l r
  | .fn f l,.fn g r=>f=g∧frzL (lndP H d) l r
  | .fs w l,.fs w' l'=>A.bdL 0 l=true∧(w=w'∨w'=false)∧l=l'
  | .fp w l,.fp w' l'=>A.bdL 0 l=true∧(w=w'∨w'=false)∧l=l'
  | .sl i ver k o n,.fs false els=>∃l,blkAt H i ver=some l∧∃c,za5 k els=some c∧els.length=n∧o+n*k≤l.length∧frzL (lndP H d) ((l.drop o).take (n*k)) c
  | .vs i ver k n,.fs false els=>∃l,blkAt H i ver=some l∧∃c,za5 k els=some c∧els.length=n∧n*k≤l.length∧frzL (lndP H d) (l.take (n*k)) c
  | .lp i ver o,.fp false c=>∃l,blkAt H i ver=some l∧o≤l.length∧frzL (lndP H d) (l.drop o) c
  | _,_=>False
theorem z5V{H:List Blk}{F:A→A→Prop}(hF:∀a b,F a b→Ld H a b):∀{l r:List A},frzL F l r→LdL H l r
 | [],[],_=>trivial
 | a :: l,b :: r,h=>⟨hF a b h.1,z5V hF h.2⟩
 | [],_ :: _,h=>h.elim
 | _ :: _,[],h=>h.elim
theorem yi4{H:List Blk}:∀(d:Nat) (a b:A),lndP H d a b→Ld H a b
 | 0,a,b,h=>h.elim
 | d+1,a,b,h=>by
  have ih:=fun{l r:List A} (h:frzL (lndP H d) l r)=>z5V (yi4 d) h
  unfold lndP at h
  split at h
  ·exact Ld.any
  ·exact y9f _
  ·subst h;exact Ld.refl rfl
  ·exact Ld.agg (ih h)
  ·obtain⟨rfl,h⟩:=h;exact Ld.fn (ih h)
  ·obtain⟨h,rfl|rfl,rfl⟩:=h
   ·exact Ld.refl h
   ·exact Ld.fs h
  ·obtain⟨h,rfl|rfl,rfl⟩:=h
   ·exact Ld.refl h
   ·exact Ld.fp h
  ·obtain⟨l,h1,c,h2,h3,h4,h5⟩:=h
   have hc:=z1e h5
   rw[List.length_take,List.length_drop]at hc
   rename_i i ver k o n els
   have h6:LdL H l (List.replicate (l.take o).length A.any++(c++List.replicate (l.drop (o+n*k)).length A.any)):=by
    have:=LdL.cat (LdL.anys (H:=H) (l.take o)) (LdL.cat (ih h5) (LdL.anys (l.drop (o+n*k))))
    rwa [y3F h4]at this
   exact Ld.sl h1 h6 (by rw[yX2 h4 (by omega)];exact h2) h3 (by simp;omega)
  ·obtain⟨l,h1,c,h2,h3,h4,h5⟩:=h
   have hc:=z1e h5
   rw[List.length_take]at hc
   rename_i i ver k n els
   have h6:LdL H l (c++List.replicate (l.drop (n*k)).length A.any):=by
    have:=LdL.cat (ih h5) (LdL.anys (l.drop (n*k)))
    rwa [List.take_append_drop]at this
   exact Ld.vs h1 h6 (by rw[List.take_append_of_le_length (by omega),List.take_of_length_le (by omega)];exact h2) h3 (by simp;omega)
  ·obtain⟨l,h1,h4,h5⟩:=h
   rename_i o c
   have hc:=z1e h5
   have h6:LdL H l (List.replicate (l.take o).length A.any++c):=by
    have:=LdL.cat (LdL.anys (H:=H) (l.take o)) (ih h5)
    rwa [List.take_append_drop]at this
   have h7:=Ld.lp (o:=o) h1 h6 (by simp;omega)
   have e:(List.replicate (l.take o).length A.any++c).drop o=c:=by
    have:(l.take o).length=o:=by simp;omega
    rw[this,List.drop_append_of_le_length (by simp),List.drop_of_length_le (by simp),List.nil_append]
   rw[e]at h7;exact h7
  ·exact h.elim
theorem yA2{H:List Blk}{l r:List A}(h:frzL (lndP H 9) l r):LdL H l r:=z5V (yi4 9) h
section
variable (H:List Blk) (d:Nat)
theorem yX3(F:A→A→Prop):frzL F [] []=True:=rfl
theorem yA3(F:A→A→Prop)(a b:A)(l r:List A):frzL F (a :: l) (b :: r)=(F a b∧frzL F l r):=rfl
theorem y3G(a:A):frzP H (d+1) a .any=True:=by unfold frzP;cases a<;>first|rfl|(rename_i x;cases x<;>rfl)
theorem y3H:frzP H (d+1) (.v (.slice none 0 0)) (.fs true [])=True:=rfl
theorem xq5(x y:Value):frzP H (d+1) (.v x) (.v y)=(x=y):=by unfold frzP;split<;>simp_all
theorem y3I(l r:List A):frzP H (d+1) (.agg l) (.agg r)=frzL (frzP H d) l r:=rfl
theorem y3J(l r:List A):frzP H (d+1) (.tup l) (.tup r)=frzL (frzP H d) l r:=rfl
theorem y73(f g:Nat)(l r:List A):frzP H (d+1) (.fn f l) (.fn g r)=(f=g∧frzL (frzP H d) l r):=rfl
theorem y74(w w':Bool)(l r:List A):frzP H (d+1) (.fs w l) (.fs w' r)=(A.bdL 0 l=true∧w=w'∧l=r):=by cases w<;>cases w'<;>cases r<;>rfl
theorem y75(w w':Bool)(l r:List A):frzP H (d+1) (.fp w l) (.fp w' r)=(A.bdL 0 l=true∧w=w'∧l=r):=by cases w<;>cases w'<;>cases r<;>rfl
theorem y76(i ver k o n:Nat)(els:List A):frzP H (d+1) (.sl i ver k o n) (.fs true els)=∃l,blkAt H i ver=some l∧∃c,za5 k els=some c∧els.length=n∧o+n*k≤l.length∧frzL (frzP H d) ((l.drop o).take (n*k)) c:=by cases els<;>rfl
theorem y77(i ver k n:Nat)(els:List A):frzP H (d+1) (.vs i ver k n) (.fs true els)=∃l,blkAt H i ver=some l∧∃c,za5 k els=some c∧els.length=n∧n*k≤l.length∧frzL (frzP H d) (l.take (n*k)) c:=by cases els<;>rfl
theorem y78(i ver o:Nat)(c:List A):frzP H (d+1) (.lp i ver o) (.fp true c)=∃l,blkAt H i ver=some l∧o≤l.length∧frzL (frzP H d) (l.drop o) c:=by cases c<;>rfl
theorem y3K(a:A):lndP H (d+1) a .any=True:=by unfold lndP;cases a<;>first|rfl|(rename_i x;cases x<;>rfl)
theorem y3L:lndP H (d+1) (.v (.slice none 0 0)) (.fs false [])=True:=rfl
theorem xq6(x y:Value):lndP H (d+1) (.v x) (.v y)=(x=y):=by unfold lndP;split<;>simp_all
theorem y3M(l r:List A):lndP H (d+1) (.agg l) (.agg r)=frzL (lndP H d) l r:=rfl
theorem y79(f g:Nat)(l r:List A):lndP H (d+1) (.fn f l) (.fn g r)=(f=g∧frzL (lndP H d) l r):=rfl
theorem y8a(w w':Bool)(l r:List A):lndP H (d+1) (.fs w l) (.fs w' r)=(A.bdL 0 l=true∧(w=w'∨w'=false)∧l=r):=by cases w<;>cases w'<;>cases r<;>rfl
theorem y8b(w w':Bool)(l r:List A):lndP H (d+1) (.fp w l) (.fp w' r)=(A.bdL 0 l=true∧(w=w'∨w'=false)∧l=r):=by cases w<;>cases w'<;>cases r<;>rfl
theorem y8c(i ver k o n:Nat)(els:List A):lndP H (d+1) (.sl i ver k o n) (.fs false els)=∃l,blkAt H i ver=some l∧∃c,za5 k els=some c∧els.length=n∧o+n*k≤l.length∧frzL (lndP H d) ((l.drop o).take (n*k)) c:=by cases els<;>rfl
theorem y8d(i ver k n:Nat)(els:List A):lndP H (d+1) (.vs i ver k n) (.fs false els)=∃l,blkAt H i ver=some l∧∃c,za5 k els=some c∧els.length=n∧n*k≤l.length∧frzL (lndP H d) (l.take (n*k)) c:=by cases els<;>rfl
theorem y8e(i ver o:Nat)(c:List A):lndP H (d+1) (.lp i ver o) (.fp false c)=∃l,blkAt H i ver=some l∧o≤l.length∧frzL (lndP H d) (l.drop o) c:=by cases c<;>rfl
end
theorem yA4(k:Nat)(a:A)(l:List A)(cs:List A)(h1:a.cells=some cs)(h2:cs.length=k):za5 k (a :: l)=(za5 k l).map (cs++·):=by
 simp only[za5,h1,Option.bind_some,h2,if_true]
 cases za5 k l<;>rfl
theorem Cut.drop{n0:Nat}{e:List A}{H:List Blk}(i:Nat):Cut n0 e H (e.set i .any) H:=fun c ev h1 h2 h3 h4 =>
 ⟨c,h1,rfl,Lat.refl _ _,h3,by simpa using h4.1,fun j a x ha hx=>by
  rw[List.getElem?_set]at ha
  split at ha
  ·split at ha
   ·cases ha;exact .any x
   ·cases ha
  ·exact h4.2 j a x ha hx⟩
theorem zZ:type_of% (ai9 @yX3<|ai9 @yA3<|ai9 @y3G<|ai9 @y3H<|ai9 @xq5<|ai9 @y3I<|ai9 @y3J<|ai9 @y73<|ai9 @y74<|ai9 @y75<|ai9 @y76<|ai9 @y77<|ai9 @y78<|ai9 @y3K<|ai9 @y3L<|ai9 @xq6<|ai9 @y3M<|ai9 @y79<|ai9 @y8a<|ai9 @y8b<|ai9 @y8c<|ai9 @y8d @y8e):=⟨@yX3,@yA3,@y3G,@y3H,@xq5,@y3I,@y3J,@y73,@y74,@y75,@y76,@y77,@y78,@y3K,@y3L,@xq6,@y3M,@y79,@y8a,@y8b,@y8c,@y8d,@y8e⟩
end Go.Lft
namespace Go.Proofs.YtcppaddgclkekaaGreat
open Go Go.Lft
set_option linter.unusedSimpArgs false
set_option linter.unusedVariables false
theorem Z5{α:Type}{a b:List α}(d:α)(hl:a.length=b.length)(h:∀i,i<a.length→a.getD i d=b.getD i d):a=b:=by
 refine List.ext_getElem hl fun i h1 h2=>?_
 have:=h i h1
 simpa [List.getD_eq_getElem?_getD,h1,h2]using this
def badM(x:Int):Prop:=x<0∨1073741824<x
instance:DecidablePred badM:=fun x=>by unfold badM;infer_instance
def mixE(xs:List Int):Int:=if 16<xs.length then 18 else if 0≤idxE badM xs then 1 else 0
theorem yX4{xs:List Int}(h:16<xs.length):mixE xs=18:=by unfold mixE;rw[if_pos h]
theorem yX5{xs:List Int}(h:¬16<xs.length)(h2:0≤idxE badM xs):mixE xs=1:=by unfold mixE;rw[if_neg h,if_pos h2]
theorem yA5{xs:List Int}(h:¬16<xs.length)(h2:¬0≤idxE badM xs):mixE xs=0:=by unfold mixE;rw[if_neg h,if_neg h2]
theorem zB6{xs:List Int}:mixE xs=0↔xs.length≤16∧∀x∈xs,0≤x∧x≤1073741824:=by
 unfold mixE
 constructor
 ·intro h
  split at h
  ·cases h
  ·split at h
   ·cases h
   ·rename_i h1 h2
    refine⟨by omega,fun x hx=>?_⟩
    have:=zS9 (p:=badM) (l:=xs) (by omega) x hx
    unfold badM at this;omega
 ·rintro⟨h1,h2⟩
  rw[if_neg (by omega),if_neg]
  intro h3
  have h4:=z0W (p:=badM) 0 h3
  have h5:=z5S badM xs
  have h6:=h2 _ (x3 0 (k:=(idxE badM xs).toNat) (l:=xs) (by omega))
  generalize xs.getD (idxE badM xs).toNat 0=y at h4 h6
  unfold badM at h4;omega
theorem zT0{xs:List Int}(h:mixE xs=0):∀i,i<xs.length→0≤xs.getD i 0∧xs.getD i 0≤1073741824:=fun i hi=>(zB6.1 h).2 _ (x3 0 hi)
theorem zN8{xs:List Int}(h:mixE xs=0)(i:Nat):0≤xs.getD i 0∧xs.getD i 0≤1073741824:=by
 by_cases hi:i<xs.length
 ·exact zT0 h i hi
 ·rw[List.getD_eq_getElem?_getD,List.getElem?_eq_none (by omega)];simp
def totM(xs:List Int):Int×Int:=if mixE xs≠0 then(0,mixE xs)else(xs.sum,0)
theorem z7L{xs:List Int}(h:mixE xs≠0):totM xs=(0,mixE xs):=by unfold totM;rw[if_pos h]
theorem z9t{xs:List Int}(h:mixE xs=0):totM xs=(xs.sum,0):=by unfold totM;rw[if_neg (by omega)]
theorem yo6{xs:List Int}(h:mixE xs=0):∀k,k≤xs.length→0≤sumT xs k∧sumT xs k≤1073741824*k:=fun k hk=>by
 have:=zB5 xs 0 1073741824 k hk fun i hi=>zT0 h i (by omega)
 omega
theorem z9u{xs:List Int}(h:mixE xs=0):0≤xs.sum∧xs.sum≤17179869184:=by
 have h1:=yo6 h xs.length (Nat.le_refl _)
 have h2:=(zB6.1 h).1
 rw[zd8]at h1;omega
def purM(xs:List Int)(i:Int):Int×Int :=
 if mixE xs≠0 then(0,mixE xs)else if i<0∨(xs.length:Int)≤i then(0,1)else if xs.sum=0 then(0,10)else(xs.getD i.toNat 0*1000 / xs.sum,0)
theorem yX6{xs:List Int}{i:Int}(h:mixE xs≠0):purM xs i=(0,mixE xs):=by unfold purM;rw[if_pos h]
theorem yX7{xs:List Int}{i:Int}(h:mixE xs=0)(h2:i<0∨(xs.length:Int)≤i):purM xs i=(0,1):=by unfold purM;rw[if_neg (by omega),if_pos h2]
theorem yX8{xs:List Int}{i:Int}(h:mixE xs=0)(h2:¬(i<0∨(xs.length:Int)≤i))(h3:xs.sum=0):purM xs i=(0,10):=by unfold purM;rw[if_neg (by omega),if_neg h2,if_pos h3]
theorem y3N{xs:List Int}{i:Int}(h:mixE xs=0)(h2:¬(i<0∨(xs.length:Int)≤i))(h3:¬xs.sum=0):purM xs i=(xs.getD i.toNat 0*1000 / xs.sum,0):=by unfold purM;rw[if_neg (by omega),if_neg h2,if_neg h3]
def zc9(a b:List Int):List Int:=(List.range a.length).map fun i=>a.getD i 0+b.getD i 0
theorem Q6(a b:List Int):(zc9 a b).length=a.length:=by simp [zc9]
theorem zt5(a b:List Int)(i:Nat)(h:i<a.length):(zc9 a b).getD i 0=a.getD i 0+b.getD i 0:=by simp [zc9,List.getD_eq_getElem?_getD,h]
def addM(a b:List Int):List Int×Int :=
 if mixE a≠0 then([],mixE a)else if mixE b≠0 then([],mixE b)else if a.length≠b.length then([],18)else if mixE (zc9 a b)≠0 then([],2)else(zc9 a b,0)
structure Bl where
 id:Int
 mt:Int
 tm:Int
 mix:List Int
 deriving DecidableEq
def bl0:Bl:=⟨0,0,0,[]⟩
def blC(w:Bool)(b:Bl):List A:=[.v (.int .i64 b.id),.v (.int .i64 b.mt),.v (.int .i64 b.tm),.fs w (ints b.mix)]
def blA(w:Bool)(b:Bl):A:=.agg (blC w b)
def bls(w:Bool)(l:List Bl):List A:=l.map (blA w)
def blcs(w:Bool)(l:List Bl):List A:=l.flatMap (blC w)
theorem y8f(w:Bool)(l:List Bl):(bls w l).length=l.length:=by simp [bls]
theorem y8g(w v:Bool)(l:List Bl)(kk:IntKind)(j:Int)(h1:0≤j)(h2:j<l.length):idxA 4 (.fs w (bls v l)) (.v (.int kk j))=some (.fp w [.v (.int .i64 (l.getD j.toNat bl0).id),.v (.int .i64 (l.getD j.toNat bl0).mt),.v (.int .i64 (l.getD j.toNat bl0).tm),.fs v (ints (l.getD j.toNat bl0).mix)]) :=
 zH7 4 w l bl0 kk j (blC v) (fun _=>rfl) (fun _=>rfl) h1 h2
theorem y3O(n:Nat)(w:Bool)(b:Bl):A.bd n (blA w b)=true:=by simp [blA,blC,A.bd,A.bdL,zl4]
theorem xq7(n:Nat)(w:Bool)(l:List Bl):A.bdL n (bls w l)=true:=z1C n l fun b=>y3O n w b
theorem xq8(l:List Bl):A.clL (bls true l)=true:=z1D l fun b=>by simp [blA,blC,A.cl,A.clL,yl3]
theorem xq9(w:Bool)(l:List Bl):szB 4 (bls w l)=true:=y2W 4 l (blC w) (fun _=>rfl) (fun _=>rfl)
theorem y3P(n:Nat)(w:Bool)(l:List Bl):(bls w l).take n=bls w (l.take n):=by simp [bls,List.map_take]
theorem y3Q(n:Nat)(w:Bool)(l:List Bl):(bls w l).drop n=bls w (l.drop n):=by simp [bls,List.map_drop]
theorem y3R(w:Bool)(l:List Bl):za5 4 (bls w l)=some (blcs w l):=yl2 4 _ (fun _=>rfl) (fun _=>rfl) l
theorem yI0(w:Bool)(l:List Bl):(blcs w l).length=l.length*4:=by unfold blcs;induction l with
 | nil=>rfl
 | cons a r ih=>rw[List.flatMap_cons,List.length_append,ih];simp [blC];omega
theorem y8h(n:Nat)(w:Bool)(l:List Bl):A.bdL n (blcs w l)=true:=by unfold blcs;induction l with
 | nil=>rfl
 | cons a r ih=>simp [List.flatMap_cons,blC,A.bdL,A.bd,zl4];simpa using ih
theorem yX9(w:Bool)(l:List Bl)(x y z:Int)(m:List Int):blcs w l++[.v (.int .i64 x),.v (.int .i64 y),.v (.int .i64 z),.fs w (ints m)]=blcs w (l++[⟨x,y,z,m⟩]):=by simp [blcs,blC]
theorem y3S(w:Bool)(l:List Bl)(n:Nat)(h:n=l.length):(blcs w l).take (n*4)=blcs w l:=by
 subst h;rw[← yI0 w,List.take_length]
theorem yA6(l:List Bl):l.drop 0=l:=rfl
theorem aBl:type_of% (ai9 @y8f<|ai9 @y8g<|ai9 @y3O<|ai9 @xq7<|ai9 @xq8<|ai9 @xq9<|ai9 @y3P<|ai9 @y3Q<|ai9 @y3R<|ai9 @yI0<|ai9 @y8h<|ai9 @yX9<|ai9 @y3S<|@yA6):=⟨@y8f,@y8g,@y3O,@xq7,@xq8,@xq9,@y3P,@y3Q,@y3R,@yI0,@y8h,@yX9,@y3S,@yA6⟩
theorem z1f:∀(l:List Int) (i:Nat) (y:Int),i<l.length→(l.set i y).sum=l.sum-l.getD i 0+y
 | [],i,y,h=>by simp at h
 | a :: l,0,y,h=>by simp only[List.set_cons_zero,List.sum_cons,List.getD_cons_zero];omega
 | a :: l,i+1,y,h=>by
  simp only[List.set_cons_succ,List.sum_cons,List.getD_cons_succ]
  rw[z1f l i y (by simpa using h)];omega
theorem X5(l:List Int)(i j:Nat)(y:Int):(l.set i y).getD j 0=if i=j∧j<l.length then y else l.getD j 0:=by
 simp only[List.getD_eq_getElem?_getD,List.getElem?_set]
 by_cases h:i=j
 ·subst h
  by_cases h2:i<l.length
  ·simp [h2]
  ·simp [h2]
 ·simp [h]
theorem yi5(t W:Int):∀(l:List Int),W*(l.map fun w=>t*w / W).sum+(l.map fun w=>t*w % W).sum=t*l.sum
 | []=>by simp
 | a :: l=>by
  have ih:=yi5 t W l
  have h:=Int.mul_ediv_add_emod (t*a) W
  simp only[List.map_cons,List.sum_cons,Int.mul_add]
  omega
theorem yA7(c:Int):∀(r p f:List Int),r.length=p.length→p.length=f.length→(∀i,i<r.length→r.getD i 0≤c*(p.getD i 0-f.getD i 0))→r.sum≤c*(p.sum-f.sum)
 | [],[],[],_,_,_=>by simp
 | a :: r,b :: p,d :: f,h1,h2,h=>by
  have ih:=yA7 c r p f (by simpa using h1) (by simpa using h2) fun i hi=>by have:=h (i+1) (by simpa using hi);simpa using this
  have h0:=h 0 (by simp)
  simp only[List.getD_cons_zero]at h0
  simp only[List.sum_cons]
  have e:c*(b+p.sum-(d+f.sum))=c*(b-d)+c*(p.sum-f.sum):=by rw[← Int.mul_add];congr 1;omega
  omega
 | [],b :: p,_,h1,_,_=>by simp at h1
 | a :: r,[],_,h1,_,_=>by simp at h1
 | _,[],d :: f,_,h2,_=>by simp at h2
 | _,b :: p,[],_,h2,_=>by simp at h2
theorem z7M:∀(f p:List Int),f.length=p.length→(∀l,l<f.length→f.getD l 0≤p.getD l 0)→f.sum≤p.sum
 | [],[],_,_=>by simp
 | a :: f,b :: p,hl,h=>by
  have ih:=z7M f p (by simpa using hl) fun l hl=>by have:=h (l+1) (by simpa using hl);simpa using this
  have h0:=h 0 (by simp)
  simp only[List.getD_cons_zero]at h0
  simp only[List.sum_cons];omega
 | [],b :: p,hl,_=>by simp at hl
 | a :: f,[],hl,_=>by simp at hl
theorem yY0:∀(f p:List Int) (i:Nat),f.length=p.length→(∀l,l<f.length→f.getD l 0≤p.getD l 0)→i<f.length→f.getD i 0<p.getD i 0→f.sum<p.sum
 | [],_,i,_,_,hi,_=>by simp at hi
 | a :: f,b :: p,0,hl,h,_,h2=>by
  have ih:=z7M f p (by simpa using hl) fun l hl=>by have:=h (l+1) (by simpa using hl);simpa using this
  simp only[List.getD_cons_zero]at h2
  simp only[List.sum_cons];omega
 | a :: f,b :: p,i+1,hl,h,hi,h2=>by
  have ih:=yY0 f p i (by simpa using hl) (fun l hl=>by have:=h (l+1) (by simpa using hl);simpa using this) (by simpa using hi) (by simpa using h2)
  have h0:=h 0 (by simp)
  simp only[List.getD_cons_zero]at h0
  simp only[List.sum_cons];omega
 | a :: f,[],_,hl,_,_,_=>by simp at hl
theorem yo7(c:Int):∀(l:List Int),(∀x∈l,x≤c)→l.sum≤c*l.length
 | [],_=>by simp
 | a :: l,h=>by
  have:=yo7 c l fun x hx=>h x (by simp [hx])
  have h0:=h a (by simp)
  simp only[List.sum_cons,List.length_cons]
  rw[show((l.length+1:Nat):Int)=(l.length:Int)+1 by omega,Int.mul_add];omega
theorem z0X:∀(l:List Int),(∀x∈l,0≤x)→0≤l.sum
 | [],_=>by simp
 | a :: l,h=>by
  have:=z0X l fun x hx=>h x (by simp [hx])
  have h0:=h a (by simp)
  simp only[List.sum_cons];omega
theorem z9v{a b:List Int}(hl:a.length=b.length)(h:∀i,i<a.length→a.getD i 0=b.getD i 0):a=b:=by
 apply List.ext_getElem hl
 intro i h1 h2
 have:=h i h1
 simpa [List.getD_eq_getElem?_getD,h1,h2]using this
theorem zk4(f:Int→Int)(l:List Int)(i:Nat)(h:i<l.length):(l.map f).getD i 0=f (l.getD i 0):=by
 simp [List.getD_eq_getElem?_getD,h]
theorem zg0{l:List Int}{i:Nat}(h:i<l.length):l.getD i 0∈l:=by simp [List.getD_eq_getElem?_getD,h]
theorem zr4{l:List Int}{x:Int}(h:x∈l):∃i,i<l.length∧l.getD i 0=x:=by
 obtain⟨k,hk,rfl⟩:=List.mem_iff_getElem.1 h
 exact⟨k,hk,by simp [List.getD_eq_getElem?_getD,hk]⟩
def zj5(q:List Int):Nat→Nat
 | 0=>0
 | k+1=>if q.getD (zj5 q k) 0<q.getD k 0 then k else zj5 q k
theorem zy8(q:List Int):∀k,0<k→zj5 q k<k
 | 1,_=>by simp [zj5]
 | k+2,_=>by
  have:=zy8 q (k+1) (by omega)
  rw[zj5];split<;>omega
theorem y3T(q:List Int):zj5 q 1=0:=by simp [zj5]
theorem z4Q(q:List Int):∀k,(∀i,i<k→q.getD i 0≤q.getD (zj5 q k) 0)∧∀i,i<zj5 q k→q.getD i 0<q.getD (zj5 q k) 0
 | 0=>⟨fun i hi=>by omega,fun i hi=>by simp [zj5]at hi⟩
 | k+1=>by
  obtain⟨h1,h2⟩:=z4Q q k
  rw[zj5]
  split
  ·rename_i h
   refine⟨fun i hi=>?_,fun i hi=>?_⟩
   ·rcases Nat.lt_succ_iff_lt_or_eq.1 hi with h3|rfl
    ·have:=h1 i h3;omega
    ·exact Int.le_refl _
   ·have:=h1 i hi;omega
  ·rename_i h
   refine⟨fun i hi=>?_,h2⟩
   rcases Nat.lt_succ_iff_lt_or_eq.1 hi with h3|rfl
   ·exact h1 i h3
   ·omega
def zc6(q:List Int):Nat:=zj5 q q.length
theorem y01{q:List Int}{b:Nat}(hb:b<q.length)(h1:∀i,i<q.length→q.getD i 0≤q.getD b 0)(h2:∀i,i<b→q.getD i 0<q.getD b 0):zc6 q=b:=by
 obtain⟨g1,g2⟩:=z4Q q q.length
 have g3:=zy8 q q.length (by omega)
 unfold zc6
 rcases Nat.lt_trichotomy (zj5 q q.length) b with h|h|h
 ·have:=h2 _ h;have:=g1 b hb;omega
 ·exact h
 ·have:=g2 b h;have:=h1 _ g3;omega
def inc(p:List Int)(i:Nat):List Int:=p.set i (p.getD i 0+1)
theorem yI1(p:List Int)(i:Nat):(inc p i).length=p.length:=List.length_set
def rd(p0 q0:List Int):Nat→List Int×List Int
 | 0=>(p0,q0)
 | k+1=>(inc (rd p0 q0 k).1 (zc6 (rd p0 q0 k).2),(rd p0 q0 k).2.set (zc6 (rd p0 q0 k).2) (-1))
theorem zD4(p0 q0:List Int):∀k,(rd p0 q0 k).1.length=p0.length∧(rd p0 q0 k).2.length=q0.length
 | 0=>⟨rfl,rfl⟩
 | k+1=>by
  have:=zD4 p0 q0 k
  simp only[rd,yI1,List.length_set];exact this
def ltR(q:List Int)(i j:Nat):Prop:=q.getD j 0<q.getD i 0∨(q.getD i 0=q.getD j 0∧i<j)
structure RdI(p0 q0:List Int)(k:Nat)(p q:List Int):Prop where
 l1:p.length=p0.length
 l2:q.length=q0.length
 two:∀i,i<p0.length→(q.getD i 0=-1∧p.getD i 0=p0.getD i 0+1)∨(q.getD i 0=q0.getD i 0∧p.getD i 0=p0.getD i 0)
 sum:p.sum=p0.sum+k
 low:∀i j,i<p0.length→j<p0.length→q.getD i 0=-1→q.getD j 0≠-1→ltR q0 i j
theorem y8i{p0 q0:List Int}(hl:p0.length=q0.length)(hq:∀i,i<q0.length→0≤q0.getD i 0):∀k,k≤p0.length→RdI p0 q0 k (rd p0 q0 k).1 (rd p0 q0 k).2
 | 0,_=>⟨rfl,rfl,fun i _=>.inr ⟨rfl,rfl⟩,by simp [rd],fun i j hi _ h=>by have:=hq i (by omega);simp only[rd]at h;omega⟩
 | k+1,hk=>by
  have ih:=y8i hl hq k (by omega)
  obtain⟨i1,i2,i3,i4,i5⟩:=ih
  simp only[rd]
  generalize (rd p0 q0 k).1=p at *
  generalize (rd p0 q0 k).2=q at *
  obtain⟨g1,g2⟩:=z4Q q q.length
  have g3:=zy8 q q.length (by omega)
  change ∀i,i<q.length→q.getD i 0≤q.getD (zc6 q) 0 at g1
  change ∀i,i<zc6 q→q.getD i 0<q.getD (zc6 q) 0 at g2
  change zc6 q<q.length at g3
  generalize zc6 q=b at *
  have hbu:q.getD b 0≠-1:=by
   intro hc
   have hall:∀i,i<p0.length→p.getD i 0=p0.getD i 0+1:=fun i hi=>by
    rcases i3 i hi with⟨_,h⟩|⟨h,_⟩
    ·exact h
    ·have:=g1 i (by omega);have:=hq i (by omega);omega
   have e:p=p0.map fun x=>x+1:=z9v (by simp [i1]) fun i hi=>by rw[zk4 _ _ _ (by omega),hall i (by omega)]
   have e2:∀l:List Int,(l.map fun x=>x+1).sum=l.sum+l.length:=fun l=>by
    induction l with
    | nil=>rfl
    | cons a l ih=>simp only[List.map_cons,List.sum_cons,List.length_cons,ih];omega
   rw[e,e2]at i4;omega
  have hbq:q.getD b 0=q0.getD b 0∧p.getD b 0=p0.getD b 0:=(i3 b (by omega)).resolve_left fun h=>hbu h.1
  refine⟨by rw[yI1,i1],by rw[List.length_set,i2],fun i hi=>?_,?_,fun i j hi hj h1 h2=>?_⟩
  ·unfold inc
   rw[X5,X5]
   by_cases hib:b=i
   ·subst hib
    rw[if_pos ⟨rfl,by omega⟩,if_pos ⟨rfl,by omega⟩]
    exact .inl ⟨rfl,by rw[hbq.2]⟩
   ·rw[if_neg (fun h=>hib h.1),if_neg (fun h=>hib h.1)]
    exact i3 i hi
  ·unfold inc
   rw[z1f _ _ _ (by omega),i4];omega
  ·rw[X5]at h1 h2
   have hjb:¬b=j:=by
    intro hc;rw[if_pos ⟨hc,by omega⟩]at h2;exact h2 rfl
   rw[if_neg (fun h=>hjb h.1)]at h2
   have hjq:q.getD j 0=q0.getD j 0:=((i3 j hj).resolve_left fun h=>h2 h.1).1
   by_cases hib:b=i
   ·subst hib
    have h3:=g1 j (by omega)
    by_cases h4:q.getD j 0=q.getD b 0
    ·refine .inr ⟨by omega,?_⟩
     apply Nat.lt_of_not_le;intro hc
     have:=g2 j (by omega);omega
    ·exact .inl (by omega)
   ·rw[if_neg (fun h=>hib h.1)]at h1
    exact i5 i j hi hj h1 h2
def quos(t:Int)(ws:List Int):List Int:=ws.map fun w=>t*w / ws.sum
def rems(t:Int)(ws:List Int):List Int:=ws.map fun w=>t*w % ws.sum
def zD0(t:Int)(ws:List Int):Nat:=(t-(quos t ws).sum).toNat
def zx2(t:Int)(ws:List Int):List Int:=(rd (quos t ws) (rems t ws) (zD0 t ws)).1
theorem zn5(t:Int)(ws:List Int):(quos t ws).length=ws.length:=by simp [quos]
theorem zr5(t:Int)(ws:List Int):(rems t ws).length=ws.length:=by simp [rems]
structure SpOk(t:Int)(ws:List Int):Prop where
 t0:0≤t
 w0:∀w∈ws,0≤w
 ne:ws≠[]
 pos:ws.sum=0→t=0
theorem SpOk.sum0{t:Int}{ws:List Int}(h:SpOk t ws):0≤ws.sum:=z0X ws h.w0
theorem z5W{t:Int}{ws:List Int}(h:SpOk t ws):∀i,i<ws.length→0≤(rems t ws).getD i 0∧(0<ws.sum→(rems t ws).getD i 0<ws.sum):=fun i hi=>by
 unfold rems
 rw[zk4 _ _ _ hi]
 have h0:=h.sum0
 by_cases hz:ws.sum=0
 ·rw[hz,h.pos hz];simp
 ·exact⟨Int.emod_nonneg _ hz,fun hp=>Int.emod_lt_of_pos _ hp⟩
theorem y3U{t:Int}{ws:List Int}(h:SpOk t ws):∀i,i<ws.length→0≤(quos t ws).getD i 0:=fun i hi=>by
 unfold quos
 rw[zk4 _ _ _ hi]
 exact Int.ediv_nonneg (Int.mul_nonneg h.t0 (h.w0 _ (zg0 hi))) h.sum0
theorem y3V{t:Int}{ws:List Int}(h:SpOk t ws):ws.sum*(t-(quos t ws).sum)=(rems t ws).sum:=by
 have:=yi5 t ws.sum ws
 unfold quos rems
 rw[Int.mul_sub,Int.mul_comm ws.sum t];omega
theorem yo8{t:Int}{ws:List Int}(h:SpOk t ws):0≤t-(quos t ws).sum∧t-(quos t ws).sum<ws.length:=by
 have h0:=h.sum0
 have hl:0<ws.length:=List.length_pos_iff.2 h.ne
 by_cases hz:ws.sum=0
 ·have : (quos t ws).sum = 0 := by
   unfold quos
   rw[h.pos hz]
   have:∀(l:List Int) (W:Int),(l.map fun w=>(0:Int)*w / W).sum=0:=fun l W=>by
    induction l with
    | nil=>rfl
    | cons a l ih=>simp only[List.map_cons,List.sum_cons,ih];simp
   exact this ws _
  rw[this,h.pos hz];omega
 ·have e:=y3V h
  have r0:0≤(rems t ws).sum:=z0X _ fun x hx=>by
   obtain⟨i,h1,rfl⟩:=zr4 hx
   exact(z5W h i (by rwa [zr5]at h1)).1
  have r1:(rems t ws).sum≤(ws.sum-1)*ws.length:=by
   have:=yo7 (ws.sum-1) (rems t ws) fun x hx=>by
    obtain⟨i,h1,rfl⟩:=zr4 hx
    have:=(z5W h i (by rwa [zr5]at h1)).2 (by omega);omega
   rwa [zr5]at this
  generalize t-(quos t ws).sum=d at *
  constructor
  ·apply Int.not_lt.1;intro hc
   have:ws.sum*d≤ws.sum*(-1):=Int.mul_le_mul_of_nonneg_left (by omega) h0
   omega
  ·apply Int.lt_of_not_ge;intro hc
   have:ws.sum*ws.length≤ws.sum*d:=Int.mul_le_mul_of_nonneg_left hc h0
   rw[Int.sub_mul]at r1;omega
structure SpR(t:Int)(ws p:List Int):Prop where
 len:p.length=ws.length
 sum:p.sum=t
 two:∀i,i<ws.length→p.getD i 0=t*ws.getD i 0 / ws.sum∨(p.getD i 0=t*ws.getD i 0 / ws.sum+1∧0<t*ws.getD i 0 % ws.sum)
 low:∀i j,i<ws.length→j<ws.length→p.getD i 0=t*ws.getD i 0 / ws.sum+1→p.getD j 0=t*ws.getD j 0 / ws.sum→t*ws.getD j 0 % ws.sum<t*ws.getD i 0 % ws.sum∨(t*ws.getD i 0 % ws.sum=t*ws.getD j 0 % ws.sum∧i<j)
theorem z4R{t:Int}{ws:List Int}(h:SpOk t ws):SpR t ws (zx2 t ws):=by
 obtain⟨d0,d1⟩:=yo8 h
 have hk:zD0 t ws≤(quos t ws).length:=by rw[zn5];unfold zD0;omega
 have hq:∀i,i<(rems t ws).length→0≤(rems t ws).getD i 0:=fun i hi=>(z5W h i (by rwa [zr5]at hi)).1
 obtain⟨i1,i2,i3,i4,i5⟩:=y8i (p0:=quos t ws) (q0:=rems t ws) (by rw[zn5,zr5]) hq _ hk
 rw[zn5]at i1 i3 i5
 rw[zr5]at i2
 have e1:∀i,i<ws.length→(quos t ws).getD i 0=t*ws.getD i 0 / ws.sum:=fun i hi=>zk4 _ _ _ hi
 have e2:∀i,i<ws.length→(rems t ws).getD i 0=t*ws.getD i 0 % ws.sum:=fun i hi=>zk4 _ _ _ hi
 unfold zx2
 generalize (rd (quos t ws) (rems t ws) (zD0 t ws)).1=p at *
 generalize (rd (quos t ws) (rems t ws) (zD0 t ws)).2=q at *
 have hps:p.sum=t:=by rw[i4];unfold zD0;omega
 refine⟨i1,hps,fun i hi=>?_,fun i j hi hj h1 h2=>?_⟩
 ·rcases i3 i hi with⟨g1,g2⟩|⟨g1,g2⟩
  ·refine .inr ⟨by rw[g2,e1 i hi],?_⟩
   rw[← e2 i hi]
   have hp:=(z5W h i hi).1
   apply Int.lt_of_not_ge;intro hc
   have hd:0<t-(quos t ws).sum:=by
    have:=yY0 (quos t ws) p i (by rw[zn5,i1]) (fun l hl=>by
     rcases i3 l (by rwa [zn5]at hl)with⟨_,g⟩|⟨_,g⟩<;>omega) (by rw[zn5];exact hi) (by omega)
    omega
   have hW:0<ws.sum:=by
    apply Int.lt_of_not_ge;intro hc2
    have h0:=h.sum0
    have ht:=h.pos (by omega)
    have:0≤(quos t ws).sum:=z0X _ fun x hx=>by
     obtain⟨i,h1,rfl⟩:=zr4 hx
     exact y3U h i (by rwa [zn5]at h1)
    omega
   have hsum:=yA7 (ws.sum-1) (rems t ws) p (quos t ws) (by rw[zr5,i1]) (by rw[i1,zn5]) fun l hl=>by
    have hl:l<ws.length:=by rwa [zr5]at hl
    have hb:=z5W h l hl
    rcases i3 l hl with⟨f1,f2⟩|⟨f1,f2⟩
    ·rw[f2,show(quos t ws).getD l 0+1-(quos t ws).getD l 0=1 by omega,Int.mul_one];have:=hb.2 hW;omega
    ·rw[f2,Int.sub_self,Int.mul_zero]
     have:=i5 i l hi hl g1 (by omega)
     unfold ltR at this;omega
   rw[← y3V h,hps]at hsum
   rw[Int.sub_mul]at hsum;omega
  ·exact .inl (by rw[g2,e1 i hi])
 ·rw[← e1 i hi]at h1
  rw[← e1 j hj]at h2
  have a1:q.getD i 0=-1:=by
   rcases i3 i hi with⟨g1,g2⟩|⟨g1,g2⟩
   ·exact g1
   ·omega
  have a2:q.getD j 0≠-1:=by
   rcases i3 j hj with⟨g1,g2⟩|⟨g1,g2⟩
   ·omega
   ·have:=(z5W h j hj).1;omega
  have:=i5 i j hi hj a1 a2
  unfold ltR at this
  rw[e2 i hi,e2 j hj]at this;exact this
end Go.Proofs.YtcppaddgclkekaaGreat
namespace Go.Proofs.YtcppaddgclkekaaGreat
open Go Go.Lft
set_option linter.unusedSimpArgs false
set_option linter.unusedVariables false
attribute [local congr] Q7 Q8 Q9 za1 Z9 Y0 za2 Y2 Y3 Y4 za3 za0
def HS(p q o:List Int):List Blk:=[⟨0,ints p⟩,⟨0,ints q⟩,⟨0,ints o⟩,⟨0,[.sl 1 0 1 0 q.length]⟩]
abbrev yo9(n:Nat):A:=.sl 2 0 1 0 n
abbrev cmpA:A:=.fn zn2 [.lp 3 0 0]
def y3W(o:List Int)(i j:Nat):List Int:=(o.set i (o.getD j 0)).set j (o.getD i 0)
theorem y3X(o:List Int)(i j:Nat):(y3W o i j).length=o.length:=by simp [y3W]
def swp(o:List Int)(a b:Nat):Nat→List Int
 | 0=>o
 | k+1=>y3W (swp o a b k) (a+k) (b+k)
theorem z5X(o:List Int)(a b:Nat):∀k,(swp o a b k).length=o.length
 | 0=>rfl
 | k+1=>by rw[swp,y3X,z5X o a b k]
theorem y3Y(o:List Int)(i j l:Nat)(hij:i≠j)(hi:i<o.length)(hj:j<o.length):(y3W o i j).getD l 0=if l=i then o.getD j 0 else if l=j then o.getD i 0 else o.getD l 0:=by
 unfold y3W
 rw[X5,X5,List.length_set]
 by_cases h1:l=i
 ·subst h1
  rw[if_neg (fun h=>hij h.1.symm),if_pos ⟨rfl,hi⟩,if_pos rfl]
 ·rw[if_neg h1]
  by_cases h2:l=j
  ·subst h2;rw[if_pos ⟨rfl,hj⟩,if_pos rfl]
  ·rw[if_neg (fun h=>h2 h.1.symm),if_neg (fun h=>h1 h.1.symm),if_neg h2]
theorem y3Z(o:List Int)(a b:Nat):∀k,a+k≤b→b+k≤o.length→∀l,(swp o a b k).getD l 0=if a≤l∧l<a+k then o.getD (l-a+b) 0 else if b≤l∧l<b+k then o.getD (l-b+a) 0 else o.getD l 0
 | 0,_,_,l=>by
  rw[if_neg (by omega),if_neg (by omega)];rfl
 | k+1,h1,h2,l=>by
  have ih:=y3Z o a b k (by omega) (by omega)
  rw[swp,y3Y _ _ _ _ (by omega) (by rw[z5X];omega) (by rw[z5X];omega),ih,ih,ih]
  by_cases e1:l=a+k
  ·subst e1
   rw[if_pos rfl,if_neg (by omega),if_neg (by omega),if_pos (by omega)]
   congr 1;omega
  ·rw[if_neg e1]
   by_cases e2:l=b+k
   ·subst e2
    rw[if_pos rfl,if_neg (by omega),if_neg (by omega),if_neg (by omega),if_pos (by omega)]
    congr 1;omega
   ·rw[if_neg e2]
    have r1:(a≤l∧l<a+(k+1))=(a≤l∧l<a+k):=propext (by omega)
    have r2:(b≤l∧l<b+(k+1))=(b≤l∧l<b+k):=propext (by omega)
    simp only[r1,r2]
theorem zw0(a b:List Int)(i:Nat):(a++b).getD i 0=if i<a.length then a.getD i 0 else b.getD (i-a.length) 0:=by
 simp only[List.getD_eq_getElem?_getD]
 split
 ·rename_i h;rw[List.getElem?_append_left h]
 ·rename_i h;rw[List.getElem?_append_right (by omega)]
theorem yI2(P X M Y S:List Int)(h:X.length=Y.length):swp (P++(X++(M++(Y++S)))) P.length (P.length+X.length+M.length) X.length=P++(Y++(M++(X++S))):=by
 refine z9v (by rw[z5X];simp only[List.length_append];omega) fun i hi=>?_
 rw[z5X]at hi
 simp only[List.length_append]at hi
 rw[y3Z _ _ _ _ (by omega) (by simp only[List.length_append];omega)]
 simp only[zw0]
 by_cases e1:i<P.length
 ·rw[if_neg (by omega),if_neg (by omega),if_pos e1,if_pos e1]
 ·by_cases e2:i<P.length+X.length
  ·rw[if_pos (by omega),if_neg (by omega),if_neg (by omega),if_neg (by omega),if_pos (by omega),if_neg e1,if_pos (by omega)]
   congr 1;omega
  ·by_cases e3:i<P.length+X.length+M.length
   ·rw[if_neg (by omega),if_neg (by omega),if_neg e1,if_neg (by omega),if_pos (by omega),if_neg e1,if_neg (by omega),if_pos (by omega)]
    congr 1;omega
   ·by_cases e4:i<P.length+X.length+M.length+Y.length
    ·rw[if_neg (by omega),if_pos (by omega),if_neg (by omega),if_pos (by omega),if_neg e1,if_neg (by omega),if_neg (by omega),if_pos (by omega)]
     congr 1;omega
    ·rw[if_neg (by omega),if_neg (by omega),if_neg e1,if_neg (by omega),if_neg (by omega),if_neg (by omega),if_neg e1,if_neg (by omega),if_neg (by omega),if_neg (by omega)]
     congr 1;omega
theorem z0Y(p q o:List Int)(n:Nat)(hn:n=o.length)(hl:n<1000000)(a b k:Nat)(h1:a+k≤b)(h2:b+k≤o.length):
    VR P false zj2 [yo9 n,.v (.int .i64 a),.v (.int .i64 b),.v (.int .i64 k),cmpA] (HS p q o) fun r H'=>r=.tup []∧H'=HS p q (swp o a b k):=by
  refine zC9 (by simp) (.inl rfl) fun _ _=>?_
  subst hn
  unfold HS
  simp (disch:=(try simp only[lZ]);omega) only[aZ,zb5,zj4]
  refine AWP.loopP zB4 (fun i:Nat=>i≤k) (fun i=>[(5,.v (.int .i64 i))]) (fun i=>[(2,⟨0,ints (swp o a b i)⟩)]) (fun i=>k-i) 0 (by omega) ?_ ?_
  · try simp (disch:=(try simp only[lZ]);omega) only[aZ]
    exact Cut.of' 4 rfl (by omega) (by simp (disch:=first|omega|simp (disch:=omega) only[aG]) only[fZ,swp]) (by simp (disch:=first|omega|simp (disch:=omega) only[aG]) only[fZ])
  rintro i hi
  have hsl:=z5X o a b i
  by_cases hlt:i<k
  · have e1:swp o a b (i+1)=((swp o a b i).set (a+i) ((swp o a b i).getD (b+i) 0)).set (b+i) ((swp o a b i).getD (a+i) 0):=rfl
    have t1:((a:Int)+i).toNat=a+i:=by omega
    have t2:((b:Int)+i).toNat=b+i:=by omega
    simp (disch:=(try simp only[lZ]);omega) only[aZ,t1,t2]
    refine⟨i+1,by omega,by omega,?_⟩
    rw[e1]
    try simp (disch:=(try simp only[lZ]);omega) only[aZ]
    exact Cut.of' 4 rfl (by omega) (by simp (disch:=first|omega|simp (disch:=omega) only[aG]) only[fZ]) (by simp (disch:=first|omega|simp (disch:=omega) only[aG]) only[fZ])
  · have hie:i=k:=by omega
    subst hie
    simp (disch:=(try simp only[lZ]);omega) only[aZ,zJ8]
    exact zd5 ⟨rfl,rfl⟩
theorem y30(p q:List Int)(n:Nat)(hl:n<1000000)(Pr X Y S:List Int)(hn:n=(Pr++(X++(Y++S))).length)(hX:0<X.length)(hY:0<Y.length):
    VR P false zo4 [yo9 n,.v (.int .i64 Pr.length),.v (.int .i64 (Pr.length+X.length:Nat)),.v (.int .i64 (Pr.length+X.length+Y.length:Nat)),cmpA] (HS p q (Pr++(X++(Y++S)))) fun r H'=>r=.tup []∧H'=HS p q (Pr++(Y++(X++S))):=by
  refine zS8 (by simp) (.inl rfl) fun _ _=>?_
  simp only[List.length_append]at hn
  unfold HS
  simp (disch:=(try simp only[lZ]);omega) only[aZ,zf4,zo6]
  refine AWP.loopP (α:=List Int×List Int×List Int×List Int) zN6 (fun s=>s.1.length+s.2.1.length=Pr.length+X.length∧s.1.length+s.2.1.length+s.2.2.1.length≤n∧0<s.2.1.length∧0<s.2.2.1.length∧(s.1++(s.2.1++(s.2.2.1++s.2.2.2))).length=n∧s.1++(s.2.2.1++(s.2.1++s.2.2.2))=Pr++(Y++(X++S)))
    (fun s=>[(5,.v (.int .i64 s.2.1.length)),(6,.v (.int .i64 s.2.2.1.length))]) (fun s=>[(2,⟨0,ints (s.1++(s.2.1++(s.2.2.1++s.2.2.2)))⟩)]) (fun s=>s.2.1.length+s.2.2.1.length) (Pr,X,Y,S) ⟨rfl,by simp only;omega,hX,hY,by simp only[List.length_append];omega,rfl⟩ ?_ ?_
  · have e1:((Pr.length+X.length:Nat):Int)-Pr.length=X.length:=by omega
    have e2:((Pr.length+X.length+Y.length:Nat):Int)-((Pr.length+X.length:Nat):Int)=Y.length:=by omega
    simp (disch:=(try simp only[lZ]);omega) only[aZ,e1,e2]
    exact Cut.of' 4 rfl (by omega) (by simp (disch:=first|omega|simp (disch:=omega) only[aG]) only[fZ]) (by simp (disch:=first|omega|simp (disch:=omega) only[aG]) only[fZ])
  rintro⟨P1,X1,Y1,S1⟩ ⟨h1,h2,h3,h4,h5,h6⟩
  simp only at h1 h2 h3 h4 h5 h6
  have a1:((Pr.length+X.length:Nat):Int)-X1.length=P1.length:=by omega
  have lenI:(P1++(X1++(Y1++S1))).length=P1.length+X1.length+Y1.length+S1.length:=by simp only[List.length_append];omega
  by_cases hne:X1.length=Y1.length
  · have hsw:=z0Y p q (P1++(X1++(Y1++S1))) n h5.symm hl P1.length (Pr.length+X.length) X1.length (by omega) (by omega)
    have e3:=yI2 P1 X1 [] Y1 S1 hne
    simp only[List.nil_append,List.length_nil,Nat.add_zero]at e3
    rw[← h1,e3,h6]at hsw
    rw[← h1]at a1 ⊢
    simp (disch:=(try simp only[lZ]);omega) only[aZ,a1]
    refine hsw.mono ?_
    rintro r H' ⟨rfl,rfl⟩
    refine z7 ?_
    unfold HS
    simp (disch:=(try simp only[lZ]);omega) only[aZ,zY9]
    exact zd5 ⟨rfl,rfl⟩
  · have hnd:decide ((X1.length:Int)≠Y1.length)=true:=decide_eq_true (by omega)
    by_cases hgt:Y1.length<X1.length
    · have hsw:=z0Y p q (P1++(X1++(Y1++S1))) n h5.symm hl P1.length (Pr.length+X.length) Y1.length (by omega) (by omega)
      have e3:=yI2 P1 (X1.take Y1.length) (X1.drop Y1.length) Y1 S1 (by simp;omega)
      rw[← List.append_assoc (X1.take Y1.length),List.take_append_drop]at e3
      have e4:P1.length+(X1.take Y1.length).length+(X1.drop Y1.length).length=Pr.length+X.length:=by simp;omega
      have e5:(X1.take Y1.length).length=Y1.length:=by simp;omega
      rw[e4,e5]at e3
      rw[e3]at hsw
      simp (disch:=(try simp only[lZ]);omega) only[aZ,a1]
      refine hsw.mono ?_
      rintro r H' ⟨rfl,rfl⟩
      refine z7 ?_
      unfold HS
      have e6:(X1.length:Int)-Y1.length=(X1.drop Y1.length).length:=by simp;omega
      have e7:(Y1.length:Int)=(X1.take Y1.length).length:=by omega
      simp (disch:=(try simp only[lZ]);omega) only[aZ,e6]
      refine⟨(P1++Y1,X1.drop Y1.length,X1.take Y1.length,S1),⟨?_,?_,?_,?_,?_,?_⟩,?_,?_⟩
      · simp only[List.length_append,List.length_drop];omega
      · simp only[List.length_append,List.length_drop,List.length_take];omega
      · simp only[List.length_drop];omega
      · simp only[List.length_take];omega
      · simp only[List.length_append,List.length_drop,List.length_take];omega
      · rw[← h6]
        simp only[List.append_assoc]
        rw[← List.append_assoc (X1.take _),List.take_append_drop]
      · simp only[List.length_drop,List.length_take];omega
      · simp only[List.append_assoc,← e7]
        try simp (disch:=(try simp only[lZ]);omega) only[aZ]
        exact Cut.of' 4 rfl (by omega) (by simp (disch:=first|omega|simp (disch:=omega) only[aG]) only[fZ]) (by simp (disch:=first|omega|simp (disch:=omega) only[aG]) only[fZ])
    · have hsw:=z0Y p q (P1++(X1++(Y1++S1))) n h5.symm hl P1.length (Pr.length+X.length+Y1.length-X1.length) X1.length (by omega) (by omega)
      have e3:=yI2 P1 X1 (Y1.take (Y1.length-X1.length)) (Y1.drop (Y1.length-X1.length)) S1 (by simp;omega)
      rw[← List.append_assoc (Y1.take _),List.take_append_drop]at e3
      have e4:P1.length+X1.length+(Y1.take (Y1.length-X1.length)).length=Pr.length+X.length+Y1.length-X1.length:=by simp;omega
      rw[e4]at e3
      rw[e3]at hsw
      have a2:((Pr.length+X.length:Nat):Int)+Y1.length-X1.length=(Pr.length+X.length+Y1.length-X1.length:Nat):=by omega
      simp (disch:=(try simp only[lZ]);omega) only[aZ,a1,a2]
      refine hsw.mono ?_
      rintro r H' ⟨rfl,rfl⟩
      refine z7 ?_
      unfold HS
      have e6:(Y1.length:Int)-X1.length=(Y1.take (Y1.length-X1.length)).length:=by simp;omega
      have e7:(X1.length:Int)=(Y1.drop (Y1.length-X1.length)).length:=by simp;omega
      simp (disch:=(try simp only[lZ]);omega) only[aZ,e6]
      refine⟨(P1,Y1.drop (Y1.length-X1.length),Y1.take (Y1.length-X1.length),X1++S1),⟨?_,?_,?_,?_,?_,?_⟩,?_,?_⟩
      · simp only[List.length_drop];omega
      · simp only[List.length_drop,List.length_take];omega
      · simp only[List.length_drop];omega
      · simp only[List.length_take];omega
      · simp only[List.length_append,List.length_drop,List.length_take];omega
      · rw[← h6,← List.append_assoc (Y1.take _),List.take_append_drop]
      · simp only[List.length_drop,List.length_take];omega
      · rw[← e7]
        try simp (disch:=(try simp only[lZ]);omega) only[aZ]
        exact Cut.of' 4 rfl (by omega) (by simp (disch:=first|omega|simp (disch:=omega) only[aG]) only[fZ]) (by simp (disch:=first|omega|simp (disch:=omega) only[aG]) only[fZ])
def kq(q:List Int)(x:Int):Int:=q.getD x.toNat 0
def ltO(q:List Int)(x y:Int):Prop:=kq q y<kq q x∨(kq q x=kq q y∧x<y)
def QOk(q:List Int):Prop:=∀i,i<q.length→0≤q.getD i 0∧q.getD i 0≤1125899906842624
def InR(n:Nat)(l:List Int):Prop:=∀x∈l,0≤x∧x<n
theorem y9k{w v:Bool}(q:List Int)(hq:QOk q)(x y:Int)(hx:0≤x∧x<q.length)(hy:0≤y∧y<q.length):VR P false zn2 [.v (.int .i64 x),.v (.int .i64 y),.fp w [.fs v (ints q)]] [] (isR (.v (.int .i64 (kq q y-kq q x)))):=by
 refine z7C (by simp) (.inr rfl) fun _ _=>?_
 have h1:=hq x.toNat (by omega)
 have h2:=hq y.toNat (by omega)
 simp (disch:=(try simp only[lZ]);omega) only[aZ,zB3,z0U,z9p]
 exact y1 ⟨rfl,rfl⟩
theorem cmpH{kp:Bool}{R:A→List Blk→Prop}(p q o:List Int)(hq:QOk q)(x y:Int)(hx:0≤x∧x<q.length)(hy:0≤y∧y<q.length)(h:R (.v (.int .i64 (kq q y-kq q x))) (HS p q o)):VR P kp zn2 [.v (.int .i64 x),.v (.int .i64 y),.lp 3 0 0] (HS p q o) R :=
 (y9k (w:=false) (v:=false) q hq x y hx hy).use ⟨Ld.refl rfl,Ld.refl rfl,Ld.lp (o:=0) (l:=[.sl 1 0 1 0 q.length]) rfl ⟨zD6 _ 1 0 _ q rfl rfl,trivial⟩ (Nat.zero_le _),trivial⟩ rfl h
theorem xr0(P L R:List Int)(i:Nat)(h:i<L.length):(P++(L++R)).getD (P.length+i) 0=L.getD i 0:=by
 rw[zw0,if_neg (by omega),zw0,if_pos (by omega)];congr 1;omega
theorem xr1(P L R S:List Int)(i:Nat)(h:i<R.length):(P++(L++(R++S))).getD (P.length+L.length+i) 0=R.getD i 0:=by
 rw[zw0,if_neg (by omega),zw0,if_neg (by omega),zw0,if_pos (by omega)];congr 1;omega
theorem y54(P A B:List Int)(u x:Int):((P++(A++(u :: x :: B))).set (P.length+A.length) x).set (P.length+A.length+1) u=P++(A++(x :: u :: B)):=by
 rw[List.set_append_right _ _ (by omega),List.set_append_right _ _ (by omega),List.set_append_right _ _ (by omega),List.set_append_right _ _ (by omega)]
 rw[show P.length+A.length-P.length-A.length=0 by omega,show P.length+A.length+1-P.length-A.length=1 by omega];rfl
theorem yA8(P A B:List Int)(u x:Int):((P++(A++(u :: x :: B))).set (P.length+A.length+1) u).set (P.length+A.length) x=P++(A++(x :: u :: B)):=by
 rw[List.set_append_right _ _ (by omega),List.set_append_right _ _ (by omega),List.set_append_right _ _ (by omega),List.set_append_right _ _ (by omega)]
 rw[show P.length+A.length-P.length-A.length=0 by omega,show P.length+A.length+1-P.length-A.length=1 by omega];rfl
theorem yA9(P A B:List Int)(u:Int):(P++(A++(u :: B))).getD (P.length+A.length) 0=u:=by
 rw[zw0,if_neg (by omega),zw0,if_neg (by omega),show P.length+A.length-P.length-A.length=0 by omega];rfl
theorem yI3(P A B:List Int)(u x:Int):(P++(A++(u :: x :: B))).getD (P.length+A.length+1) 0=x:=by
 rw[zw0,if_neg (by omega),zw0,if_neg (by omega),show P.length+A.length+1-P.length-A.length=1 by omega];rfl
theorem y9l{q:List Int}{x y:Int}(h:ltO q x y):kq q y≤kq q x:=by unfold ltO at h;omega
theorem zX9(p q:List Int)(hq:QOk q)(hl:q.length<1000000)(Pr L S:List Int)(hn:q.length=(Pr++(L++S)).length)(hr:InR q.length L)(hi:L.Pairwise (· < ·)):
    VR P false ze5 [yo9 q.length,.v (.int .i64 Pr.length),.v (.int .i64 (Pr.length+L.length:Nat)),cmpA] (HS p q (Pr++(L++S))) fun r H'=>r=.tup []∧∃T:List Int,T.Perm L∧T.Pairwise (ltO q)∧H'=HS p q (Pr++(T++S)):=by
  refine zt3 (by simp) (.inl rfl) fun _ _=>?_
  simp only[List.length_append]at hn
  unfold HS
  simp (disch:=(try simp only[lZ]);omega) only[aZ,W0,ze7]
  refine AWP.loopP (α:=Nat×List Int) zq3 (fun s=>1≤s.1∧(s.1≤L.length∨s.1=1)∧s.2.Perm (L.take s.1)∧s.2.Pairwise (ltO q)) (fun s=>[(4,.v (.int .i64 (Pr.length+s.1:Nat)))]) (fun s=>[(2,⟨0,ints (Pr++(s.2++(L.drop s.1++S)))⟩)]) (fun s=>L.length-s.1) (1,L.take 1) ⟨Nat.le_refl _,.inr rfl,List.Perm.refl _,?_⟩ ?_ ?_
  · cases L with
    | nil=>simp
    | cons a L=>simp
  · have e1:L.take 1++(L.drop 1++S)=L++S:=by rw[← List.append_assoc,List.take_append_drop]
    simp only[e1]
    try simp (disch:=(try simp only[lZ]);omega) only[aZ]
    exact Cut.of' 4 rfl (by omega) (by simp (disch:=first|omega|simp (disch:=omega) only[aG]) only[fZ]) (by simp (disch:=first|omega|simp (disch:=omega) only[aG]) only[fZ])
  rintro⟨k,T⟩ ⟨h1,h2,h3,h4⟩
  simp only at h1 h2 h3 h4
  have hTl:=h3.length_eq
  rw[List.length_take]at hTl
  by_cases hlt:k<L.length
  · have hTk:T.length=k:=by omega
    obtain⟨x,hx⟩:∃x,x=L.getD k 0:=⟨_,rfl⟩
    have hdrop:L.drop k=x :: L.drop (k+1):=by
      rw[List.drop_eq_getElem_cons hlt,hx];simp [List.getD_eq_getElem?_getD,hlt]
    have hxr:0≤x∧x<q.length:=by rw[hx];exact hr _ (zg0 hlt)
    have hTr:∀y∈T,0≤y∧y<q.length:=fun y hy=>hr y (List.mem_of_mem_take (h3.mem_iff.1 hy))
    have hTx:∀y∈T,y<x:=fun y hy=>by
      have hy':=h3.mem_iff.1 hy
      have hp:(L.take k++L.drop k).Pairwise (· < ·):=by rw[List.take_append_drop];exact hi
      rw[hdrop]at hp
      exact(List.pairwise_append.1 hp).2.2 y hy' x (by simp)
    rw[hdrop]
    simp (disch:=(try simp only[lZ]);omega) only[aZ]
    refine AWP.loopP (α:=List Int×List Int) zq4 (fun s=>s.1++s.2=T∧∀y∈s.2,kq q y<kq q x) (fun s=>[(4,.v (.int .i64 (Pr.length+k:Nat))),(5,.v (.int .i64 (Pr.length+s.1.length:Nat)))]) (fun s=>[(2,⟨0,ints (Pr++(s.1++(x :: (s.2++(L.drop (k+1)++S)))))⟩)]) (fun s=>s.1.length) (T,[]) ⟨by simp,by simp⟩ ?_ ?_
    · rw[hTk]
      simp only[List.nil_append,List.cons_append]
      try simp (disch:=(try simp only[lZ]);omega) only[aZ]
      exact Cut.of' 4 rfl (by omega) (by simp (disch:=first|omega|simp (disch:=omega) only[aG]) only[fZ]) (by simp (disch:=first|omega|simp (disch:=omega) only[aG]) only[fZ])
    rintro⟨A,B⟩ ⟨e1,e2⟩
    simp only at e1 e2
    have hAB:A.length+B.length=k:=by rw[← hTk,← e1,List.length_append]
    have hCl:(Pr++(A++(x :: (B++(L.drop (k+1)++S))))).length=q.length:=by simp only[List.length_append,List.length_cons,List.length_drop];omega
    have hnew:(A++x :: B).Perm (L.take (k+1)):=by
      have:L.take (k+1)=L.take k++[x]:=by rw[List.take_succ_eq_append_getElem hlt,hx];simp [List.getD_eq_getElem?_getD,hlt]
      rw[this]
      refine List.perm_middle.trans ?_
      rw[e1]
      exact(List.Perm.cons x h3).trans (List.perm_append_comm (l₁:=[x]))
    rw[← e1]at h4 hTr hTx
    have hpw:=List.pairwise_append.1 h4
    have done:(∀y∈A,kq q x≤kq q y)→(A++x :: B).Pairwise (ltO q):=fun hA=>by
      refine List.pairwise_append.2 ⟨hpw.1,List.pairwise_cons.2 ⟨fun y hy=>.inl (e2 y hy),hpw.2.1⟩,fun y hy z hz=>?_⟩
      rcases List.mem_cons.1 hz with rfl|hz
      · have:=hA y hy
        have:=hTx y (by simp [hy])
        unfold ltO;omega
      · exact hpw.2.2 y hy z hz
    rcases List.eq_nil_or_concat A with rfl|⟨A',u,rfl⟩
    · simp only[List.length_nil,Nat.add_zero]
      simp (disch:=(try simp only[lZ]);omega) only[aZ]
      refine⟨(k+1,[]++x :: B),⟨by simp only;omega,by simp only;omega,hnew,done (by simp)⟩,by simp only;omega,?_⟩
      simp only[List.nil_append,List.cons_append]
      try simp (disch:=(try simp only[lZ]);omega) only[aZ]
      exact Cut.of' 4 rfl (by omega) (by simp (disch:=first|omega|simp (disch:=omega) only[aG]) only[fZ]) (by simp (disch:=first|omega|simp (disch:=omega) only[aG]) only[fZ,Int.add_assoc])
    · rw[List.concat_eq_append]at *
      have hur:0≤u∧u<q.length:=hTr u (by simp)
      have e5:Pr++((A'++[u])++(x :: (B++(L.drop (k+1)++S))))=Pr++(A'++(u :: x :: (B++(L.drop (k+1)++S)))):=by simp
      have g1:=yA9 Pr A' (x :: (B++(L.drop (k+1)++S))) u
      have g2:=yI3 Pr A' (B++(L.drop (k+1)++S)) u x
      have g3:=yA8 Pr A' (B++(L.drop (k+1)++S)) u x
      have hlA:(A'++[u]).length=A'.length+1:=by simp
      rw[e5]at hCl ⊢
      rw[hlA]at hAB ⊢
      have t1:((Pr.length+(A'.length+1):Nat):Int).toNat=Pr.length+A'.length+1:=by omega
      have t2:((Pr.length+(A'.length+1):Nat):Int)-1=(Pr.length+A'.length:Nat):=by omega
      obtain⟨C,hC⟩:∃C,C=Pr++(A'++(u :: x :: (B++(L.drop (k+1)++S)))):=⟨_,rfl⟩
      rw[← hC]at hCl g1 g2 g3 ⊢
      simp (disch:=(try simp only[lZ]);omega) only[aZ,t1,t2,g1,g2]
      refine⟨by kernel_rfl,?_⟩
      refine cmpH p q C hq x u hxr hur (z7 ?_)
      have hb1:=hq x.toNat (by omega)
      have hb2:=hq u.toNat (by omega)
      have hb3:kq q x=q.getD x.toNat 0:=rfl
      have hb4:kq q u=q.getD u.toNat 0:=rfl
      unfold HS
      simp (disch:=(try simp only[lZ]);omega) only[aZ]
      refine y2 (fun h5=>?_) (fun h5=>?_)
      · simp (disch:=(try simp only[lZ]);omega) only[aZ,t1,t2,g1,g2,g3]
        refine⟨(A',u :: B),⟨by rw[← e1];simp,fun y hy=>?_⟩,by simp,?_⟩
        · rcases List.mem_cons.1 hy with rfl|hy
          · omega
          · exact e2 y hy
        · simp only[List.cons_append]
          try simp (disch:=(try simp only[lZ]);omega) only[aZ]
          exact Cut.of' 4 rfl (by omega) (by simp (disch:=first|omega|simp (disch:=omega) only[aG]) only[fZ]) (by simp (disch:=first|omega|simp (disch:=omega) only[aG]) only[fZ,Int.add_assoc])
      · simp (disch:=(try simp only[lZ]);omega) only[aZ]
        have hA:∀y∈A'++[u],kq q x≤kq q y:=fun y hy=>by
          rcases List.mem_append.1 hy with h6|h6
          · have:=y9l ((List.pairwise_append.1 hpw.1).2.2 y h6 u (by simp));omega
          · have:y=u:=by simpa using h6
            subst this;omega
        refine⟨(k+1,(A'++[u])++x :: B),⟨by simp only;omega,by simp only;omega,hnew,done hA⟩,by simp only;omega,?_⟩
        have e6:Pr++(((A'++[u])++x :: B)++(L.drop (k+1)++S))=C:=by rw[hC];simp
        simp only[e6]
        try simp (disch:=(try simp only[lZ]);omega) only[aZ]
        exact Cut.of' 4 rfl (by omega) (by simp (disch:=first|omega|simp (disch:=omega) only[aG]) only[fZ]) (by simp (disch:=first|omega|simp (disch:=omega) only[aG]) only[fZ,Int.add_assoc])
  · have e1:L.take k=L:=List.take_of_length_le (by omega)
    have e2:L.drop k=[]:=List.drop_of_length_le (by omega)
    rw[e1]at h3
    rw[e2,List.nil_append]
    simp (disch:=(try simp only[lZ]);omega) only[aZ,zv8]
    exact zd5 ⟨rfl,T,h3,h4,rfl⟩
theorem yY1(a:Int):s2A (.bin .shr) (.v (.int .u64 a)) (.v (.int .u64 1))=some (.v (.int .u64 (a / 2))):=by
 have h:k2v (.bin .shr) (.int .u64 a) (.int .u64 1)=some (.int .u64 (a.fdiv 2)):=by
  simp [k2v,binOp,Op.shift,z24];rfl
 simp only[s2A,h,Option.map_some,Int.fdiv_eq_ediv_of_nonneg a (show(0:Int)≤2 by decide)]
theorem zj8{n:Int}(h1:0≤n)(h2:n≤18446744073709551615):IntKind.wrap .u64 n=n:=by
 simp only[IntKind.wrap,IntKind.signed,IntKind.bits,Bool.false_and,Bool.false_eq_true,if_false]
 have:(2:Int) ^ 64=18446744073709551616:=by decide
 rw[this];omega
theorem yp0{q L:List Int}(h:L.Pairwise (ltO q)){k:Nat}(h0:0<k)(hk:k≤L.length):∀x∈L.take k,kq q (L.getD (k-1) 0)≤kq q x:=fun x hx=>by
 obtain⟨i,h1,rfl⟩:=zr4 hx
 rw[List.length_take]at h1
 have e:(L.take k).getD i 0=L.getD i 0:=by simp [List.getD_eq_getElem?_getD,List.getElem?_take,show i<k by omega]
 rw[e]
 by_cases hi:i=k-1
 ·rw[hi];exact Int.le_refl _
 ·have:=List.pairwise_iff_getElem.1 h i (k-1) (by omega) (by omega) (by omega)
  have:=y9l this
  simpa [List.getD_eq_getElem?_getD,show i<L.length by omega,show k-1<L.length by omega]using this
theorem yp1{q L:List Int}(h:L.Pairwise (ltO q)){k:Nat}(hk:k<L.length):∀x∈L.drop k,kq q x≤kq q (L.getD k 0):=fun x hx=>by
 obtain⟨i,h1,rfl⟩:=zr4 hx
 rw[List.length_drop]at h1
 have e:(L.drop k).getD i 0=L.getD (k+i) 0:=by simp [List.getD_eq_getElem?_getD]
 rw[e]
 by_cases hi:i=0
 ·subst hi;exact Int.le_refl _
 ·have:=List.pairwise_iff_getElem.1 h k (k+i) (by omega) (by omega) (by omega)
  have:=y9l this
  simpa [List.getD_eq_getElem?_getD,hk,show k+i<L.length by omega]using this
theorem yp2{q L:List Int}(h:L.Pairwise (ltO q))(k:Nat):(L.take k).Pairwise (ltO q)∧(L.drop k).Pairwise (ltO q)∧∀x∈L.take k,∀y∈L.drop k,ltO q x y:=by
 have h':=h
 rw[← List.take_append_drop k L]at h'
 exact List.pairwise_append.1 h'
def y31(p q Pr L R S:List Int):A→List Blk→Prop:=fun r H'=>r=.tup []∧∃T:List Int,T.Perm (L++R)∧T.Pairwise (ltO q)∧H'=HS p q (Pr++(T++S))
theorem y02{p q:List Int}(hq:QOk q)(hl:q.length<1000000)(Pr R S:List Int)(x:Int)(hR:0<R.length)(hn:q.length=(Pr++([x]++(R++S))).length)(hx:0≤x∧x<q.length)(hr:InR q.length R)(hs:R.Pairwise (ltO q))(hc:∀y∈R,x<y):
    VR P false X7 [yo9 q.length,.v (.int .i64 Pr.length),.v (.int .i64 (Pr.length+1:Nat)),.v (.int .i64 (Pr.length+1+R.length:Nat)),cmpA] (HS p q (Pr++([x]++(R++S)))) (y31 p q Pr [x] R S):=by
  refine zb4 (by simp) (.inl rfl) fun _ _=>?_
  obtain⟨C,hC⟩:∃C,C=Pr++([x]++(R++S)):=⟨_,rfl⟩
  have hCl:C.length=q.length:=by rw[hC,hn]
  simp only[List.length_append,List.length_cons,List.length_nil]at hn
  have hCx:C.getD Pr.length 0=x:=by rw[hC];exact yA9 Pr [] (R++S) x
  have hCR:∀i,i<R.length→C.getD (Pr.length+1+i) 0=R.getD i 0:=fun i hi=>by rw[hC];exact xr1 Pr [x] R S i hi
  rw[← hC]
  unfold HS
  have e1:((Pr.length+1:Nat):Int)-Pr.length=1:=by omega
  simp (disch:=(try simp only[lZ]);omega) only[aZ,Z1,X8,e1]
  refine AWP.loopP (α:=Nat×Nat) zC4 (fun s=>s.1≤s.2∧s.2≤R.length∧(s.1=0∨kq q x<kq q (R.getD (s.1-1) 0))∧(s.2=R.length∨¬kq q x<kq q (R.getD s.2 0))) (fun s=>[(5,.v (.int .i64 ((Pr.length+1+s.1:Nat):Int))),(6,.v (.int .i64 ((Pr.length+1+s.2:Nat):Int)))]) (fun _=>[]) (fun s=>s.2-s.1) (0,R.length) ⟨by omega,Nat.le_refl _,.inl rfl,.inl rfl⟩ ?_ ?_
  · exact Cut.of' 4 rfl (by omega) (by simp (disch:=first|omega|simp (disch:=omega) only[aG]) only[fZ]) (by simp (disch:=first|omega|simp (disch:=omega) only[aG]) only[fZ])
  rintro⟨c,d⟩ ⟨h1,h2,h3,h4⟩
  simp only at h1 h2 h3 h4
  by_cases hlt:c<d
  · have eh:(((Pr.length+1+c:Nat):Int)+((Pr.length+1+d:Nat):Int)) / 2=((Pr.length+1+(c+d) / 2:Nat):Int):=by omega
    have hm:(c+d) / 2<R.length:=by omega
    have hg:=hCR _ hm
    have hy:=hr _ (zg0 hm)
    have hb1:=hq x.toNat (by omega)
    have hb2:=hq (R.getD ((c+d) / 2) 0).toNat (by omega)
    have hb3:kq q x=q.getD x.toNat 0:=rfl
    have hb4:kq q (R.getD ((c+d) / 2) 0)=q.getD (R.getD ((c+d) / 2) 0).toNat 0:=rfl
    simp (disch:=(try simp only[lZ]);omega) only[aZ,yY1,zj8,eh,Int.toNat_natCast,hg,hCx]
    refine⟨by kernel_rfl,?_⟩
    refine cmpH p q C hq _ x hy hx (z7 ?_)
    unfold HS
    simp (disch:=(try simp only[lZ]);omega) only[aZ]
    refine y2 (fun h5=>?_) (fun h5=>?_)
    · simp (disch:=(try simp only[lZ]);omega) only[aZ]
      refine⟨((c+d) / 2+1,d),⟨by simp only;omega,h2,.inr ?_,h4⟩,by simp only;omega,?_⟩
      · simp only[Nat.add_sub_cancel];omega
      · exact Cut.of' 4 rfl (by omega) (by simp (disch:=first|omega|simp (disch:=omega) only[aG]) only[fZ]) (by simp (disch:=first|omega|simp (disch:=omega) only[aG]) only[fZ,Int.add_assoc])
    · simp (disch:=(try simp only[lZ]);omega) only[aZ]
      refine⟨(c,(c+d) / 2),⟨by simp only;omega,by simp only;omega,h3,.inr ?_⟩,by simp only;omega,?_⟩
      · simp only;omega
      · exact Cut.of' 4 rfl (by omega) (by simp (disch:=first|omega|simp (disch:=omega) only[aG]) only[fZ]) (by simp (disch:=first|omega|simp (disch:=omega) only[aG]) only[fZ])
  · have hcd:c=d:=by omega
    subst hcd
    have hT:(R.take c++x :: R.drop c).Pairwise (ltO q):=by
      obtain⟨a1,a2,a3⟩:=yp2 hs c
      refine List.pairwise_append.2 ⟨a1,List.pairwise_cons.2 ⟨fun y hy=>?_,a2⟩,fun y hy z hz=>?_⟩
      · have h6 : c < R.length := by
          apply Nat.lt_of_not_le;intro hcc
          rw[List.drop_of_length_le hcc]at hy;cases hy
        have:=yp1 hs h6 y hy
        have:=hc y (List.mem_of_mem_drop hy)
        have:=h4.resolve_left (by omega)
        unfold ltO;omega
      · rcases List.mem_cons.1 hz with rfl|hz
        · have h6 : 0 < c := by
            apply Nat.pos_of_ne_zero;rintro rfl
            simp at hy
          have:=yp0 hs h6 h2 y hy
          have:=h3.resolve_left (by omega)
          unfold ltO;omega
        · exact a3 y hy z hz
    have hP:(R.take c++x :: R.drop c).Perm ([x]++R):=by
      refine List.perm_middle.trans ?_
      rw[List.take_append_drop];exact List.Perm.refl _
    clear hlt h1 h3 h4 hCx hCR
    simp (disch:=(try simp only[lZ]);omega) only[aZ]
    refine AWP.loopP (α:=List Int×List Int) zC5 (fun s=>s.1++s.2=R∧s.1.length≤c) (fun s=>[(8,.v (.int .i64 ((Pr.length+s.1.length:Nat):Int)))]) (fun s=>[(2,⟨0,ints (Pr++(s.1++(x :: (s.2++S))))⟩)]) (fun s=>c-s.1.length) ([],R) ⟨rfl,Nat.zero_le _⟩ ?_ ?_
    · rw[hC]
      simp only[List.nil_append,List.length_nil,Nat.add_zero,List.cons_append]
      try simp (disch:=(try simp only[lZ]);omega) only[aZ]
      exact Cut.of' 4 rfl (by omega) (by simp (disch:=first|omega|simp (disch:=omega) only[aG]) only[fZ]) (by simp (disch:=first|omega|simp (disch:=omega) only[aG]) only[fZ])
    rintro⟨A,B⟩ ⟨e2,e3⟩
    simp only at e2 e3
    have hAB:A.length+B.length=R.length:=by rw[← e2,List.length_append]
    have e4:((Pr.length+1+c:Nat):Int)-1=(Pr.length+c:Nat):=by omega
    by_cases hAc:A.length<c
    · cases B with
      | nil=>simp at hAB;omega
      | cons u B =>
        simp only[List.length_cons]at hAB
        have g1:=yA9 Pr A (u :: (B++S)) x
        have g2:=yI3 Pr A (B++S) x u
        have g3:=y54 Pr A (B++S) x u
        have t1:((Pr.length+A.length:Nat):Int)+1=(Pr.length+A.length+1:Nat):=by omega
        have hCl2:(Pr++(A++(x :: u :: (B++S)))).length=q.length:=by simp only[List.length_append,List.length_cons];omega
        simp only[List.cons_append]
        obtain⟨D,hD⟩:∃D,D=Pr++(A++(x :: u :: (B++S))):=⟨_,rfl⟩
        rw[← hD]at g1 g2 g3 hCl2 ⊢
        simp (disch:=(try simp only[lZ]);omega) only[aZ,e4,t1,Int.toNat_natCast,g1,g2,g3]
        refine⟨(A++[u],B),⟨by rw[← e2];simp,by simp;omega⟩,by simp;omega,?_⟩
        have e5:Pr++((A++[u])++(x :: (B++S)))=Pr++(A++(u :: x :: (B++S))):=by simp
        simp only[e5,List.length_append,List.length_cons,List.length_nil]
        try simp (disch:=(try simp only[lZ]);omega) only[aZ]
        exact Cut.of' 4 rfl (by omega) (by simp (disch:=first|omega|simp (disch:=omega) only[aG]) only[fZ]) (by simp (disch:=first|omega|simp (disch:=omega) only[aG]) only[fZ,Int.add_assoc])
    · have hA : A = R.take c := by
        rw[← e2,List.take_append_of_le_length (by omega),List.take_of_length_le (by omega)]
      have hB:B=R.drop c:=by
        rw[← e2,List.drop_append_of_le_length (by omega),List.drop_of_length_le (by omega),List.nil_append]
      simp (disch:=(try simp only[lZ]);omega) only[aZ,e4,zc4]
      refine zd5 ⟨rfl,R.take c++x :: R.drop c,hP,hT,?_⟩
      rw[hA,hB];simp [HS]
theorem yI4{p q:List Int}(hq:QOk q)(hl:q.length<1000000)(Pr L S:List Int)(y:Int)(hL:1<L.length)(hn:q.length=(Pr++(L++([y]++S))).length)(hy:0≤y∧y<q.length)(hr:InR q.length L)(hs:L.Pairwise (ltO q))(hc:∀x∈L,x<y):
    VR P false X7 [yo9 q.length,.v (.int .i64 Pr.length),.v (.int .i64 (Pr.length+L.length:Nat)),.v (.int .i64 (Pr.length+L.length+1:Nat)),cmpA] (HS p q (Pr++(L++([y]++S)))) (y31 p q Pr L [y] S):=by
  refine zb4 (by simp) (.inl rfl) fun _ _=>?_
  obtain⟨C,hC⟩:∃C,C=Pr++(L++([y]++S)):=⟨_,rfl⟩
  have hCl:C.length=q.length:=by rw[hC,hn]
  simp only[List.length_append,List.length_cons,List.length_nil]at hn
  have hCy:C.getD (Pr.length+L.length) 0=y:=by rw[hC];exact yA9 Pr L S y
  have hCL:∀i,i<L.length→C.getD (Pr.length+i) 0=L.getD i 0:=fun i hi=>by rw[hC];exact xr0 Pr L ([y]++S) i hi
  rw[← hC]
  unfold HS
  have e0:((Pr.length+L.length:Nat):Int)-Pr.length=L.length:=by omega
  have e1:((Pr.length+L.length+1:Nat):Int)-((Pr.length+L.length:Nat):Int)=1:=by omega
  simp (disch:=(try simp only[lZ]);omega) only[aZ,Z1,X8,e0,e1]
  refine AWP.loopP (α:=Nat×Nat) zC6 (fun s=>s.1≤s.2∧s.2≤L.length∧(s.1=0∨¬kq q (L.getD (s.1-1) 0)<kq q y)∧(s.2=L.length∨kq q (L.getD s.2 0)<kq q y)) (fun s=>[(9,.v (.int .i64 ((Pr.length+s.1:Nat):Int))),(10,.v (.int .i64 ((Pr.length+s.2:Nat):Int)))]) (fun _=>[]) (fun s=>s.2-s.1) (0,L.length) ⟨by omega,Nat.le_refl _,.inl rfl,.inl rfl⟩ ?_ ?_
  · exact Cut.of' 4 rfl (by omega) (by simp (disch:=first|omega|simp (disch:=omega) only[aG]) only[fZ]) (by simp (disch:=first|omega|simp (disch:=omega) only[aG]) only[fZ])
  rintro⟨c,d⟩ ⟨h1,h2,h3,h4⟩
  simp only at h1 h2 h3 h4
  by_cases hlt:c<d
  · have eh:(((Pr.length+c:Nat):Int)+((Pr.length+d:Nat):Int)) / 2=((Pr.length+(c+d) / 2:Nat):Int):=by omega
    have hm:(c+d) / 2<L.length:=by omega
    have hg:=hCL _ hm
    have hx:=hr _ (zg0 hm)
    have hb1:=hq y.toNat (by omega)
    have hb2:=hq (L.getD ((c+d) / 2) 0).toNat (by omega)
    have hb3:kq q y=q.getD y.toNat 0:=rfl
    have hb4:kq q (L.getD ((c+d) / 2) 0)=q.getD (L.getD ((c+d) / 2) 0).toNat 0:=rfl
    simp (disch:=(try simp only[lZ]);omega) only[aZ,yY1,zj8,eh,Int.toNat_natCast,hg,hCy]
    refine⟨by kernel_rfl,?_⟩
    refine cmpH p q C hq y _ hy hx (z7 ?_)
    unfold HS
    simp (disch:=(try simp only[lZ]);omega) only[aZ]
    refine y2 (fun h5=>?_) (fun h5=>?_)
    · simp (disch:=(try simp only[lZ]);omega) only[aZ]
      refine⟨((c+d) / 2+1,d),⟨by simp only;omega,h2,.inr ?_,h4⟩,by simp only;omega,?_⟩
      · simp only[Nat.add_sub_cancel];omega
      · exact Cut.of' 4 rfl (by omega) (by simp (disch:=first|omega|simp (disch:=omega) only[aG]) only[fZ]) (by simp (disch:=first|omega|simp (disch:=omega) only[aG]) only[fZ,Int.add_assoc])
    · simp (disch:=(try simp only[lZ]);omega) only[aZ]
      refine⟨(c,(c+d) / 2),⟨by simp only;omega,by simp only;omega,h3,.inr ?_⟩,by simp only;omega,?_⟩
      · simp only;omega
      · exact Cut.of' 4 rfl (by omega) (by simp (disch:=first|omega|simp (disch:=omega) only[aG]) only[fZ]) (by simp (disch:=first|omega|simp (disch:=omega) only[aG]) only[fZ])
  · have hcd:c=d:=by omega
    subst hcd
    have hT:(L.take c++y :: L.drop c).Pairwise (ltO q):=by
      obtain⟨a1,a2,a3⟩:=yp2 hs c
      refine List.pairwise_append.2 ⟨a1,List.pairwise_cons.2 ⟨fun z hz=>?_,a2⟩,fun z hz u hu=>?_⟩
      · have h6 : c < L.length := by
          apply Nat.lt_of_not_le;intro hcc
          rw[List.drop_of_length_le hcc]at hz;cases hz
        have:=yp1 hs h6 z hz
        have:=h4.resolve_left (by omega)
        unfold ltO;omega
      · rcases List.mem_cons.1 hu with rfl|hu
        · have h6 : 0 < c := by
            apply Nat.pos_of_ne_zero;rintro rfl
            simp at hz
          have:=yp0 hs h6 h2 z hz
          have:=hc z (List.mem_of_mem_take hz)
          have:=h3.resolve_left (by omega)
          unfold ltO;omega
        · exact a3 z hz u hu
    have hP:(L.take c++y :: L.drop c).Perm (L++[y]):=by
      refine List.perm_middle.trans ?_
      rw[List.take_append_drop];exact List.perm_append_comm (l₁:=[y])
    clear hlt h1 h3 h4 hCy hCL
    simp (disch:=(try simp only[lZ]);omega) only[aZ]
    refine AWP.loopP (α:=List Int×List Int) zC7 (fun s=>s.1++s.2=L∧c≤s.1.length) (fun s=>[(12,.v (.int .i64 ((Pr.length+s.1.length:Nat):Int)))]) (fun s=>[(2,⟨0,ints (Pr++(s.1++(y :: (s.2++S))))⟩)]) (fun s=>s.1.length) (L,[]) ⟨by simp,h2⟩ ?_ ?_
    · rw[hC]
      simp only[List.nil_append,List.cons_append]
      try simp (disch:=(try simp only[lZ]);omega) only[aZ]
      exact Cut.of' 4 rfl (by omega) (by simp (disch:=first|omega|simp (disch:=omega) only[aG]) only[fZ]) (by simp (disch:=first|omega|simp (disch:=omega) only[aG]) only[fZ])
    rintro⟨A,B⟩ ⟨e2,e3⟩
    simp only at e2 e3
    have hAB:A.length+B.length=L.length:=by rw[← e2,List.length_append]
    by_cases hAc:c<A.length
    · rcases List.eq_nil_or_concat A with rfl|⟨A',u,rfl⟩
      · simp at hAc
      · rw[List.concat_eq_append]at *
        have hlA:(A'++[u]).length=A'.length+1:=by simp
        rw[hlA]at hAB hAc e3 ⊢
        have e5:Pr++((A'++[u])++(y :: (B++S)))=Pr++(A'++(u :: y :: (B++S))):=by simp
        have g1:=yA9 Pr A' (y :: (B++S)) u
        have g2:=yI3 Pr A' (B++S) u y
        have g3:=yA8 Pr A' (B++S) u y
        have t1:((Pr.length+(A'.length+1):Nat):Int).toNat=Pr.length+A'.length+1:=by omega
        have t2:((Pr.length+(A'.length+1):Nat):Int)-1=(Pr.length+A'.length:Nat):=by omega
        have hCl2:(Pr++(A'++(u :: y :: (B++S)))).length=q.length:=by simp only[List.length_append,List.length_cons];omega
        rw[e5]
        obtain⟨D,hD⟩:∃D,D=Pr++(A'++(u :: y :: (B++S))):=⟨_,rfl⟩
        rw[← hD]at g1 g2 g3 hCl2 ⊢
        simp (disch:=(try simp only[lZ]);omega) only[aZ,t1,t2,Int.toNat_natCast,g1,g2,g3]
        refine⟨(A',u :: B),⟨by rw[← e2];simp,by simp only;omega⟩,by simp,?_⟩
        simp only[List.cons_append]
        try simp (disch:=(try simp only[lZ]);omega) only[aZ]
        exact Cut.of' 4 rfl (by omega) (by simp (disch:=first|omega|simp (disch:=omega) only[aG]) only[fZ]) (by simp (disch:=first|omega|simp (disch:=omega) only[aG]) only[fZ,Int.add_assoc])
    · have hA : A = L.take c := by
        rw[← e2,List.take_append_of_le_length (by omega),List.take_of_length_le (by omega)]
      have hB:B=L.drop c:=by
        rw[← e2,List.drop_append_of_le_length (by omega),List.drop_of_length_le (by omega),List.nil_append]
      simp (disch:=(try simp only[lZ]);omega) only[aZ,zc4]
      refine zd5 ⟨rfl,L.take c++y :: L.drop c,hP,hT,?_⟩
      rw[hA,hB];simp [HS]
theorem y55{q L R:List Int}(hL:L.Pairwise (ltO q))(hR:R.Pairwise (ltO q))(hc:∀x∈L,∀y∈R,x<y){c d:Nat}(hcl:c≤L.length)(hdl:d≤R.length)(h:c=0∨d=R.length∨¬kq q (L.getD (c-1) 0)<kq q (R.getD d 0)):
    ∀x∈L.take c,∀y∈R.drop d,ltO q x y:=fun x hx y hy=>by
  have h1:0<c:=by apply Nat.pos_of_ne_zero;rintro rfl;simp at hx
  have h2:d<R.length:=by
    apply Nat.lt_of_not_le;intro hcc
    rw[List.drop_of_length_le hcc]at hy;cases hy
  have h3:=(h.resolve_left (by omega)).resolve_left (by omega)
  have h4:=yp0 hL h1 hcl x hx
  have h5:=yp1 hR h2 y hy
  have h6:=hc x (List.mem_of_mem_take hx) y (List.mem_of_mem_drop hy)
  unfold ltO;omega
theorem y56{q L R:List Int}(hL:L.Pairwise (ltO q))(hR:R.Pairwise (ltO q)){c d:Nat}(hcl:c≤L.length)(hdl:d≤R.length)(h:c=L.length∨d=0∨kq q (L.getD c 0)<kq q (R.getD (d-1) 0)):
    ∀x∈R.take d,∀y∈L.drop c,ltO q x y:=fun x hx y hy=>by
  have h1:0<d:=by apply Nat.pos_of_ne_zero;rintro rfl;simp at hx
  have h2:c<L.length:=by
    apply Nat.lt_of_not_le;intro hcc
    rw[List.drop_of_length_le hcc]at hy;cases hy
  have h3:=(h.resolve_left (by omega)).resolve_left (by omega)
  have h4:=yp0 hR h1 hdl x hx
  have h5:=yp1 hL h2 y hy
  unfold ltO;omega
theorem z9w{p q:List Int}(hq:QOk q)(hl:q.length<1000000):∀(N:Nat) (Pr L R S:List Int),L.length+R.length≤N→0<L.length→0<R.length→q.length=(Pr++(L++(R++S))).length→InR q.length L→InR q.length R→L.Pairwise (ltO q)→R.Pairwise (ltO q)→(∀x∈L,∀y∈R,x<y) →
    VR P false X7 [yo9 q.length,.v (.int .i64 Pr.length),.v (.int .i64 (Pr.length+L.length:Nat)),.v (.int .i64 (Pr.length+L.length+R.length:Nat)),cmpA] (HS p q (Pr++(L++(R++S)))) (y31 p q Pr L R S):=by
  intro N
  induction N with
  | zero=>intro Pr L R S h1 h2;omega
  | succ N ih =>
    intro Pr L R S hN hL0 hR0 hn hLr hRr hLs hRs hc
    by_cases hL1:L.length=1
    · match L,hL1 with
      | [x],_=>exact y02 hq hl Pr R S x hR0 hn (hLr x (by simp)) hRr hRs fun y hy=>hc x (by simp) y hy
    by_cases hR1:R.length=1
    · match R,hR1 with
      | [y],_=>exact yI4 hq hl Pr L S y (by omega) hn (hRr y (by simp)) hLr hLs fun x hx=>hc x hx y (by simp)
    refine zb4 (by simp) (.inl rfl) fun _ _=>?_
    obtain⟨C,hC⟩:∃C,C=Pr++(L++(R++S)):=⟨_,rfl⟩
    have hCl:C.length=q.length:=by rw[hC,hn]
    simp only[List.length_append]at hn
    have hCL:∀i,i<L.length→C.getD (Pr.length+i) 0=L.getD i 0:=fun i hi=>by rw[hC];exact xr0 Pr L (R++S) i hi
    have hCR:∀i,i<R.length→C.getD (Pr.length+L.length+i) 0=R.getD i 0:=fun i hi=>by rw[hC];exact xr1 Pr L R S i hi
    rw[← hC]
    unfold HS
    have e0:((Pr.length+L.length:Nat):Int)-Pr.length=L.length:=by omega
    have e1:((Pr.length+L.length+R.length:Nat):Int)-((Pr.length+L.length:Nat):Int)=R.length:=by omega
    obtain⟨mid,hmid⟩:∃mid,mid=(Pr.length+(Pr.length+L.length+R.length)) / 2:=⟨_,rfl⟩
    have e2:((Pr.length:Int)+((Pr.length+L.length+R.length:Nat):Int)) / 2=(mid:Nat):=by omega
    obtain⟨s0,hs0⟩:∃s0,s0=if mid<Pr.length+L.length then mid+L.length+Pr.length-(Pr.length+L.length+R.length)else Pr.length:=⟨_,rfl⟩
    obtain⟨r0,hr0⟩:∃r0,r0=if mid<Pr.length+L.length then mid else Pr.length+L.length:=⟨_,rfl⟩
    have hsr:s0≤r0∧Pr.length≤s0∧r0≤mid∧r0≤Pr.length+L.length∧mid≤s0+R.length:=by
      by_cases hmm:mid<Pr.length+L.length
      · rw[if_pos hmm]at hs0 hr0;omega
      · rw[if_neg hmm]at hs0 hr0;omega
    have hb0:s0=Pr.length∨s0+R.length=mid:=by
      by_cases hmm:mid<Pr.length+L.length
      · rw[if_pos hmm]at hs0;omega
      · rw[if_neg hmm]at hs0;omega
    have hb1:r0=mid∨r0=Pr.length+L.length:=by
      by_cases hmm:mid<Pr.length+L.length
      · rw[if_pos hmm]at hr0;omega
      · rw[if_neg hmm]at hr0;omega
    simp (disch:=(try simp only[lZ]);omega) only[aZ,Z1,X8,e0,e1,yY1,zj8,e2]
    refine yi3 (fun e'=>e'=[yo9 q.length,.v (.int .i64 Pr.length),.v (.int .i64 (Pr.length+L.length:Nat)),.v (.int .i64 (Pr.length+L.length+R.length:Nat)),cmpA,.any,.any,.any,.any,.any,.any,.any,.any,.v (.int .i64 mid),.v (.int .i64 (mid+(Pr.length+L.length:Nat))),.v (.int .i64 s0),.v (.int .i64 r0),.any,.any,.any,.any,.any,.any,.any,.any]) ?_ ?_ ?_
    · intro ht
      have hmm:mid<Pr.length+L.length:=by have:=of_decide_eq_true ht;omega
      rw[if_pos hmm]at hs0 hr0
      have e3:(mid:Int)+((Pr.length+L.length:Nat):Int)-((Pr.length+L.length+R.length:Nat):Int)=(s0:Nat):=by omega
      simp (disch:=(try simp only[lZ]);omega) only[aZ,e3]
      refine⟨trivial,trivial,?_⟩
      rw[hr0]
    · intro ht
      have hmm:¬mid<Pr.length+L.length:=by have:=of_decide_eq_false ht;omega
      rw[if_neg hmm]at hs0 hr0
      simp (disch:=(try simp only[lZ]);omega) only[aZ]
      refine⟨trivial,trivial,?_⟩
      rw[hr0,hs0]
    rintro e' rfl
    clear hs0 hr0
    simp (disch:=(try simp only[lZ]);omega) only[aZ]
    refine AWP.loopP (α:=Nat×Nat) zC8 (fun s=>s.1≤s.2∧s0≤s.1∧s.2≤r0∧(s.1=s0∨¬kq q (L.getD (s.1-1-Pr.length) 0)<kq q (R.getD (mid-s.1) 0))∧(s.2=r0∨kq q (L.getD (s.2-Pr.length) 0)<kq q (R.getD (mid-1-s.2) 0)))
      (fun s=>[(15,.v (.int .i64 s.1)),(16,.v (.int .i64 s.2))]) (fun _=>[]) (fun s=>s.2-s.1) (s0,r0) ⟨by omega,Nat.le_refl _,Nat.le_refl _,.inl rfl,.inl rfl⟩ ?_ ?_
    · exact Cut.of' 4 rfl (by omega) (by simp (disch:=first|omega|simp (disch:=omega) only[aG]) only[fZ]) (by simp (disch:=first|omega|simp (disch:=omega) only[aG]) only[fZ])
    rintro⟨st,r⟩ ⟨h1,h2,h3,h4,h5⟩
    simp only at h1 h2 h3 h4 h5
    by_cases hlt:st<r
    · have eh:((st:Int)+r) / 2=((st+r) / 2:Nat):=by omega
      obtain⟨c,hcc⟩:∃c,c=(st+r) / 2:=⟨_,rfl⟩
      rw[← hcc]at eh
      have hcL:c-Pr.length<L.length:=by omega
      have hcR:mid-1-c<R.length:=by omega
      have g1:=hCL _ hcL
      have g2:=hCR _ hcR
      rw[show Pr.length+(c-Pr.length)=c by omega]at g1
      rw[show Pr.length+L.length+(mid-1-c)=mid+(Pr.length+L.length)-1-c by omega]at g2
      have t1:(mid:Int)+((Pr.length+L.length:Nat):Int)-1-c=(mid+(Pr.length+L.length)-1-c:Nat):=by omega
      have hx:=hLr _ (zg0 hcL)
      have hy:=hRr _ (zg0 hcR)
      have hb1:=hq (L.getD (c-Pr.length) 0).toNat (by omega)
      have hb2:=hq (R.getD (mid-1-c) 0).toNat (by omega)
      have hb3:kq q (L.getD (c-Pr.length) 0)=q.getD (L.getD (c-Pr.length) 0).toNat 0:=rfl
      have hb4:kq q (R.getD (mid-1-c) 0)=q.getD (R.getD (mid-1-c) 0).toNat 0:=rfl
      simp (disch:=(try simp only[lZ]);omega) only[aZ,yY1,zj8,eh,t1,Int.toNat_natCast,g1,g2]
      refine⟨by kernel_rfl,?_⟩
      refine cmpH p q C hq _ _ hy hx (z7 ?_)
      unfold HS
      simp (disch:=(try simp only[lZ]);omega) only[aZ]
      refine y2 (fun h6=>?_) (fun h6=>?_)
      · simp (disch:=(try simp only[lZ]);omega) only[aZ]
        refine⟨(c+1,r),⟨by simp only;omega,by simp only;omega,h3,.inr ?_,h5⟩,by simp only;omega,?_⟩
        · simp only[Nat.add_sub_cancel]
          rw[show mid-(c+1)=mid-1-c by omega]
          omega
        · exact Cut.of' 4 rfl (by omega) (by simp (disch:=first|omega|simp (disch:=omega) only[aG]) only[fZ]) (by simp (disch:=first|omega|simp (disch:=omega) only[aG]) only[fZ])
      · simp (disch:=(try simp only[lZ]);omega) only[aZ]
        refine⟨(st,c),⟨by simp only;omega,h2,by simp only;omega,h4,.inr ?_⟩,by simp only;omega,?_⟩
        · simp only;omega
        · exact Cut.of' 4 rfl (by omega) (by simp (disch:=first|omega|simp (disch:=omega) only[aG]) only[fZ]) (by simp (disch:=first|omega|simp (disch:=omega) only[aG]) only[fZ])
    have hsr2:st=r:=by omega
    subst hsr2
    obtain⟨c,hc0⟩:∃c,c=st-Pr.length:=⟨_,rfl⟩
    obtain⟨d,hd0⟩:∃d,d=mid-st:=⟨_,rfl⟩
    have hcl:c≤L.length:=by omega
    have hdl:d≤R.length:=by omega
    have X1:=y55 hLs hRs hc hcl hdl (by
      rcases h4 with h4|h4
      · rcases hb0 with hb0|hb0
        · exact .inl (by omega)
        · exact .inr (.inl (by omega))
      · exact .inr (.inr (by rwa [hc0,hd0,show st-Pr.length-1=st-1-Pr.length by omega])))
    have X2:=y56 hLs hRs hcl hdl (by
      rcases h5 with h5|h5
      · rcases hb1 with hb1|hb1
        · exact .inr (.inl (by omega))
        · exact .inl (by omega)
      · exact .inr (.inr (by rwa [hc0,hd0,show mid-st-1=mid-1-st by omega])))
    obtain⟨l1,l2,l3⟩:=yp2 hLs c
    obtain⟨r1,r2,r3⟩:=yp2 hRs d
    have hLt:=List.take_append_drop c L
    have hRt:=List.take_append_drop d R
    have k1:(L.take c).length=c:=by rw[List.length_take];omega
    have k2:(L.drop c).length=L.length-c:=List.length_drop
    have k3:(R.take d).length=d:=by rw[List.length_take];omega
    have k4:(R.drop d).length=R.length-d:=List.length_drop
    have m1:∀x∈L.take c,x∈L:=fun x hx=>List.mem_of_mem_take hx
    have m2:∀x∈L.drop c,x∈L:=fun x hx=>List.mem_of_mem_drop hx
    have m3:∀x∈R.take d,x∈R:=fun x hx=>List.mem_of_mem_take hx
    have m4:∀x∈R.drop d,x∈R:=fun x hx=>List.mem_of_mem_drop hx
    generalize L.take c=L1 at *
    generalize L.drop c=L2 at *
    generalize R.take d=R1 at *
    generalize R.drop d=R2 at *
    subst hLt
    subst hRt
    clear h4 h5 hCL hCR
    simp only[List.length_append]at *
    have est:st=Pr.length+L1.length:=by omega
    have emid:mid=Pr.length+L1.length+R1.length:=by omega
    have een:(mid:Int)+((Pr.length+(L1.length+L2.length):Nat):Int)-(st:Nat)=(Pr.length+L1.length+L2.length+R1.length:Nat):=by omega
    simp (disch:=(try simp only[lZ]);omega) only[aZ,een]
    refine z4P (fun H'=>H'=HS p q (Pr++(L1++(R1++(L2++(R2++S)))))) ?_ ?_ ?_
    · intro ht
      simp only[Bool.and_eq_true,decide_eq_true_eq]at ht
      have hrot:=y30 p q q.length hl (Pr++L1) L2 R1 (R2++S) (by simp only[List.length_append];omega) (by omega) (by omega)
      simp only[List.length_append]at hrot
      have eC:(Pr++L1)++(L2++(R1++(R2++S)))=C:=by rw[hC];simp
      have a1:(st:Int)=(Pr.length+L1.length:Nat):=by omega
      have a2:((Pr.length+(L1.length+L2.length):Nat):Int)=(Pr.length+L1.length+L2.length:Nat):=by omega
      rw[eC]at hrot
      simp (disch:=(try simp only[lZ]);omega) only[aZ,a1,a2]
      refine hrot.mono ?_
      rintro r H' ⟨rfl,rfl⟩
      refine z7 ?_
      simp (disch:=(try simp only[lZ]);omega) only[aZ]
      refine⟨trivial,trivial,?_⟩
      simp [HS]
    · intro ht
      simp (disch:=(try simp only[lZ]);omega) only[aZ]
      refine⟨trivial,trivial,?_⟩
      have hor:L2=[]∨R1=[]:=by
        have ht:=of_decide_eq_false ht
        by_cases hz:L2.length=0
        · exact .inl (List.eq_nil_of_length_eq_zero hz)
        · exact .inr (List.eq_nil_of_length_eq_zero (by omega))
      rw[hC]
      rcases hor with rfl|rfl<;>simp [HS]
    rintro H' rfl
    unfold HS
    simp (disch:=(try simp only[lZ]);omega) only[aZ]
    refine z4P (fun H'=>∃T:List Int,T.Perm (L1++R1)∧T.Pairwise (ltO q)∧H'=HS p q (Pr++(T++(L2++(R2++S))))) ?_ ?_ ?_
    · intro ht
      simp only[Bool.and_eq_true,decide_eq_true_eq]at ht
      have hm:=ih Pr L1 R1 (L2++(R2++S)) (by omega) (by omega) (by omega) (by simp only[List.length_append];omega) (fun x hx=>hLr x (m1 x hx)) (fun x hx=>hRr x (m3 x hx)) l1 r1 (fun x hx y hy=>hc x (m1 x hx) y (m3 y hy))
      rw[← emid,← est]at hm
      simp (disch:=(try simp only[lZ]);omega) only[aZ]
      refine hm.mono ?_
      rintro r H' ⟨rfl,T,t1,t2,rfl⟩
      refine z7 ?_
      simp (disch:=(try simp only[lZ]);omega) only[aZ]
      exact⟨trivial,trivial,T,t1,t2,rfl⟩
    · intro ht
      simp (disch:=(try simp only[lZ]);omega) only[aZ]
      refine⟨trivial,trivial,L1++R1,List.Perm.refl _,?_,by simp [HS]⟩
      have ht:=of_decide_eq_false ht
      by_cases hz:L1.length=0
      · have:L1=[]:=List.eq_nil_of_length_eq_zero hz
        subst this;simpa using r1
      · have:R1=[]:=List.eq_nil_of_length_eq_zero (by omega)
        subst this;simpa using l1
    rintro H' ⟨T,t1,t2,rfl⟩
    have tl:=t1.length_eq
    rw[List.length_append]at tl
    unfold HS
    simp (disch:=(try simp only[lZ]);omega) only[aZ]
    refine z4P (fun H'=>∃U:List Int,U.Perm (L2++R2)∧U.Pairwise (ltO q)∧H'=HS p q (Pr++(T++(U++S)))) ?_ ?_ ?_
    · intro ht
      simp only[Bool.and_eq_true,decide_eq_true_eq]at ht
      have hm:=ih (Pr++T) L2 R2 S (by omega) (by omega) (by omega) (by simp only[List.length_append];omega) (fun x hx=>hLr x (m2 x hx)) (fun x hx=>hRr x (m4 x hx)) l2 r2 (fun x hx y hy=>hc x (m2 x hx) y (m4 y hy))
      simp only[List.length_append,List.append_assoc]at hm
      have a1:Pr.length+T.length=mid:=by omega
      have a2:mid+L2.length=Pr.length+L1.length+L2.length+R1.length:=by omega
      have a3:Pr.length+L1.length+L2.length+R1.length+R2.length=Pr.length+(L1.length+L2.length)+(R1.length+R2.length):=by omega
      rw[a1,a2,a3]at hm
      simp (disch:=(try simp only[lZ]);omega) only[aZ]
      refine hm.mono ?_
      rintro r H' ⟨rfl,U,u1,u2,rfl⟩
      refine z7 ?_
      simp (disch:=(try simp only[lZ]);omega) only[aZ]
      exact⟨trivial,trivial,U,u1,u2,by simp [HS]⟩
    · intro ht
      simp (disch:=(try simp only[lZ]);omega) only[aZ]
      refine⟨trivial,trivial,L2++R2,List.Perm.refl _,?_,by simp [HS]⟩
      have ht:=of_decide_eq_false ht
      by_cases hz:L2.length=0
      · have:L2=[]:=List.eq_nil_of_length_eq_zero hz
        subst this;simpa using r2
      · have:R2=[]:=List.eq_nil_of_length_eq_zero (by omega)
        subst this;simpa using l2
    rintro H' ⟨U,u1,u2,rfl⟩
    unfold HS
    simp (disch:=(try simp only[lZ]);omega) only[aZ,zc4]
    refine zd5 ⟨rfl,T++U,?_,List.pairwise_append.2 ⟨t2,u2,fun x hx y hy=>?_⟩,by simp [HS]⟩
    · have h7:(T++U).Perm ((L1++R1)++(L2++R2)):=t1.append u1
      refine h7.trans ?_
      simp only[List.append_assoc]
      refine List.Perm.append_left L1 ?_
      rw[← List.append_assoc,← List.append_assoc]
      exact List.Perm.append_right R2 List.perm_append_comm
    · have hx':=t1.mem_iff.1 hx
      have hy':=u1.mem_iff.1 hy
      rcases List.mem_append.1 hx' with hx'|hx'<;>rcases List.mem_append.1 hy' with hy'|hy'
      · exact l3 x hx' y hy'
      · exact X1 x hx' y hy'
      · exact X2 x hx' y hy'
      · exact r3 x hx' y hy'
def rng(lo k:Nat):List Int:=(List.range k).map fun i=>((lo+i:Nat):Int)
theorem zq5(lo k:Nat):(rng lo k).length=k:=by simp [rng]
theorem yp3(lo k i:Nat)(h:i<k):(rng lo k).getD i 0=((lo+i:Nat):Int):=by simp [rng,List.getD_eq_getElem?_getD,h]
theorem yB0(lo j k:Nat):rng lo (j+k)=rng lo j++rng (lo+j) k:=by
 refine z9v (by simp [zq5]) fun i hi=>?_
 rw[zq5]at hi
 rw[yp3 _ _ _ hi,zw0,zq5]
 split
 ·rename_i h;rw[yp3 _ _ _ h]
 ·rename_i h;rw[yp3 _ _ _ (by omega)];congr 1;omega
theorem yp4{lo k:Nat}{x:Int}:x∈rng lo k↔(lo:Int)≤x∧x<lo+k:=by
 unfold rng
 simp only[List.mem_map,List.mem_range]
 constructor
 ·rintro⟨i,h,rfl⟩;omega
 ·rintro⟨h1,h2⟩;exact⟨(x-lo).toNat,by omega,by omega⟩
theorem y8j(lo k:Nat):(rng lo k).Pairwise (· < ·):=by
 unfold rng
 refine List.Pairwise.map (R:=(· < ·)) _ (fun a b h=>?_) List.pairwise_lt_range
 show((lo+a:Nat):Int)<((lo+b:Nat):Int)
 omega
def RunsOk(q:List Int):Nat→List (List Int)→Prop
 | _,[]=>True
 | lo,T :: r=>(∀x∈T,(lo:Int)≤x∧x<lo+T.length)∧T.Pairwise (ltO q)∧RunsOk q (lo+T.length) r
def Shape(bs:Nat):List (List Int)→Prop
 | []=>True
 | [T]=>0<T.length∧T.length≤bs
 | T :: r=>T.length=bs∧Shape bs r
def y32(bs:Nat)(l:List (List Int)):Prop:=∀T∈l,T.length=bs
theorem RunsOk.app{q:List Int}:∀{D U:List (List Int)} {lo:Nat},RunsOk q lo D→RunsOk q (lo+D.flatten.length) U→RunsOk q lo (D++U)
 | [],U,lo,_,h=>by simpa using h
 | T :: D,U,lo,h,k=>by
  refine⟨h.1,h.2.1,RunsOk.app h.2.2 ?_⟩
  rw[List.flatten_cons,List.length_append,← Nat.add_assoc]at k;exact k
theorem Shape.app{bs:Nat}(h0:0<bs):∀{D U:List (List Int)},y32 bs D→Shape bs U→Shape bs (D++U)
 | [],U,_,h=>h
 | [T],[],h,_=>by
  have:=h T (by simp)
  exact⟨by omega,by omega⟩
 | [T],u :: U,h,k=>⟨h T (by simp),k⟩
 | T :: S :: D,U,h,k=>⟨h T (by simp),Shape.app h0 (D:=S :: D) (fun x hx=>h x (by simp [hx])) k⟩
theorem Shape.two{bs:Nat}(h0:0<bs){U:List (List Int)}(h:Shape bs U)(hl:2*bs≤U.flatten.length):∃T1 T2 U',U=T1 :: T2 :: U'∧T1.length=bs∧T2.length=bs∧Shape bs U':=by
 match U,h with
 | [],_=>simp at hl;omega
 | [T],h=>simp [Shape]at h hl;omega
 | [T1,T2],h =>
  obtain⟨h1,h2,h3⟩:=h
  refine⟨T1,T2,[],rfl,h1,?_,trivial⟩
  simp at hl;omega
 | T1 :: T2 :: T3 :: U,h=>exact⟨T1,T2,T3 :: U,rfl,h.1,h.2.1,h.2.2⟩
theorem Shape.end{bs:Nat}(h0:0<bs){U:List (List Int)}(h:Shape bs U)(hl:U.flatten.length<2*bs):(U=[]∨∃T,U=[T]∧0<T.length∧T.length≤bs)∨∃T1 T2,U=[T1,T2]∧T1.length=bs∧0<T2.length:=by
 match U,h with
 | [],_=>exact .inl (.inl rfl)
 | [T],h=>exact .inl (.inr ⟨T,rfl,h⟩)
 | [T1,T2],h=>exact .inr ⟨T1,T2,rfl,h.1,h.2.1⟩
 | T1 :: T2 :: T3 :: U,h =>
  have h1:T1.length=bs:=h.1
  have h2:T2.length=bs:=h.2.1
  simp at hl;omega
theorem y33{p q:List Int}(hq:QOk q)(hl:q.length<100000):
    VR P false zo1 [yo9 q.length,.v (.int .i64 q.length),cmpA] (HS p q (rng 0 q.length)) fun r H'=>r=.tup []∧∃T:List Int,T.length=q.length∧InR q.length T∧T.Pairwise (ltO q)∧H'=HS p q T:=by
  refine zS6 (by simp) (.inl rfl) fun _ _=>?_
  unfold HS
  simp (disch:=(try simp only[lZ]);omega) only[aZ,zf3,zo3]
  refine AWP.loopP (α:=List (List Int)) zN3 (fun D=>y32 20 D∧RunsOk q 0 D∧D.flatten.length≤q.length) (fun D=>[(4,.v (.int .i64 D.flatten.length)),(5,.v (.int .i64 (D.flatten.length+20:Nat)))]) (fun D=>[(2,⟨0,ints (D.flatten++rng D.flatten.length (q.length-D.flatten.length))⟩)]) (fun D=>q.length-D.flatten.length) [] ⟨fun T hT=>by simp at hT,trivial,by simp⟩ ?_ ?_
  · simp only[List.flatten_nil,List.length_nil,Nat.zero_add,List.nil_append,Nat.sub_zero]
    exact Cut.of' 4 rfl (by omega) (by simp (disch:=first|omega|simp (disch:=omega) only[aG]) only[fZ]) (by simp (disch:=first|omega|simp (disch:=omega) only[aG]) only[fZ])
  rintro D ⟨h1,h2,h3⟩
  obtain⟨a,ha⟩:∃a,a=D.flatten.length:=⟨_,rfl⟩
  rw[← ha]at h3 ⊢
  by_cases hlt:a+20≤q.length
  · have hs:rng a (q.length-a)=rng a 20++rng (a+20) (q.length-(a+20)):=by rw[← yB0];congr 1;omega
    have hi:=zX9 p q hq (by omega) D.flatten (rng a 20) (rng (a+20) (q.length-(a+20))) (by simp only[List.length_append,zq5];omega) (fun x hx=>by have:=yp4.1 hx;omega) (y8j _ _)
    rw[zq5,← ha,← hs]at hi
    simp (disch:=(try simp only[lZ]);omega) only[aZ]
    refine hi.mono ?_
    rintro r H' ⟨rfl,T,t1,t2,rfl⟩
    refine z7 ?_
    have tl:T.length=20:=by rw[t1.length_eq,zq5]
    have hf:(D++[T]).flatten.length=a+20:=by simp [← ha,tl]
    have hf2:(D++[T]).flatten=D.flatten++T:=by simp
    unfold HS
    simp (disch:=(try simp only[lZ]);omega) only[aZ]
    refine⟨D++[T],⟨fun S hS=>?_,RunsOk.app h2 ⟨fun x hx=>?_,t2,trivial⟩,by omega⟩,by omega,?_⟩
    · rcases List.mem_append.1 hS with hS|hS
      · exact h1 S hS
      · have:S=T:=by simpa using hS
        rw[this,tl]
    · have:=yp4.1 (t1.mem_iff.1 hx);omega
    · rw[hf,hf2,List.append_assoc]
      exact Cut.of' 4 rfl (by omega) (by simp (disch:=first|omega|simp (disch:=omega) only[aG]) only[fZ]) (by simp (disch:=first|omega|simp (disch:=omega) only[aG]) only[fZ,Int.add_assoc])
  have hi:=zX9 p q hq (by omega) D.flatten (rng a (q.length-a)) [] (by simp only[List.length_append,zq5,List.length_nil];omega) (fun x hx=>by have:=yp4.1 hx;omega) (y8j _ _)
  rw[zq5,← ha,List.append_nil,show a+(q.length-a)=q.length by omega]at hi
  simp (disch:=(try simp only[lZ]);omega) only[aZ]
  refine hi.mono ?_
  rintro r H' ⟨rfl,T,t1,t2,rfl⟩
  refine z7 ?_
  have tl:T.length=q.length-a:=by rw[t1.length_eq,zq5]
  obtain⟨U,hU1,hU2,hU3⟩:∃U,U.flatten=D.flatten++T∧Shape 20 U∧RunsOk q 0 U:=by
    by_cases hz:T.length=0
    · have:T=[]:=List.eq_nil_of_length_eq_zero hz
      subst this
      exact⟨D,by simp,by have:=Shape.app (by omega:0<20) h1 (U:=[]) trivial;simpa using this,h2⟩
    · refine⟨D++[T],by simp,Shape.app (by omega) h1 ⟨by omega,by omega⟩,RunsOk.app h2 ⟨fun x hx=>?_,t2,trivial⟩⟩
      have:=yp4.1 (t1.mem_iff.1 hx);omega
  have hUl:U.flatten.length=q.length:=by rw[hU1,List.length_append];omega
  rw[List.append_nil,← hU1]
  clear hU1 t1 t2 tl hi h1 h2 h3 hlt ha
  unfold HS
  skip
  simp (disch:=(try simp only[lZ]);omega) only[aZ]
  refine AWP.loopP (α:=Nat×List (List Int)) zN4 (fun s=>20≤s.1∧s.1≤20+2*q.length∧s.2.flatten.length=q.length∧Shape s.1 s.2∧RunsOk q 0 s.2) (fun s=>[(3,.v (.int .i64 s.1))]) (fun s=>[(2,⟨0,ints s.2.flatten⟩)]) (fun s=>q.length-s.1) (20,U) ⟨Nat.le_refl _,by omega,hUl,hU2,hU3⟩ ?_ ?_
  · exact Cut.of' 4 rfl (by omega) (by simp (disch:=first|omega|simp (disch:=omega) only[aG]) only[fZ]) (by simp (disch:=first|omega|simp (disch:=omega) only[aG]) only[fZ])
  clear hUl hU2 hU3
  rintro⟨bs,U⟩ ⟨h1,h2,h3,h4,h5⟩
  simp only at h1 h2 h3 h4 h5
  by_cases hlt:bs<q.length
  · simp (disch:=(try simp only[lZ]);omega) only[aZ]
    refine AWP.loopP (α:=List (List Int)×List (List Int)) zN5 (fun s=>y32 (2*bs) s.1∧Shape bs s.2∧RunsOk q 0 s.1∧RunsOk q s.1.flatten.length s.2∧s.1.flatten.length+s.2.flatten.length=q.length) (fun s=>[(3,.v (.int .i64 bs)),(4,.v (.int .i64 s.1.flatten.length)),(5,.v (.int .i64 (s.1.flatten.length+2*bs:Nat)))]) (fun s=>[(2,⟨0,ints (s.1.flatten++s.2.flatten)⟩)]) (fun s=>s.2.flatten.length) ([],U) ⟨fun T hT=>by simp at hT,h4,trivial,by simpa using h5,by simpa using h3⟩ ?_ ?_
    · simp only[List.flatten_nil,List.length_nil,Nat.zero_add,List.nil_append]
      try simp (disch:=(try simp only[lZ]);omega) only[aZ]
      exact Cut.of' 4 rfl (by omega) (by simp (disch:=first|omega|simp (disch:=omega) only[aG]) only[fZ]) (by simp (disch:=first|omega|simp (disch:=omega) only[aG]) only[fZ])
    clear h3 h4 h5
    rintro⟨D,W⟩ ⟨g1,g2,g3,g4,g5⟩
    simp only at g1 g2 g3 g4 g5
    obtain⟨a,ha⟩:∃a,a=D.flatten.length:=⟨_,rfl⟩
    rw[← ha]at g4 g5 ⊢
    by_cases hb:a+2*bs≤q.length
    · obtain⟨T1,T2,W',rfl,w1,w2,w3⟩:=Shape.two (by omega) g2 (by omega)
      obtain⟨v1,v2,v3,v4,v5⟩:=g4
      have hfl:(T1 :: T2 :: W').flatten=T1++(T2++W'.flatten):=by simp
      have hlen:(T1++(T2++W'.flatten)).length=bs+(bs+W'.flatten.length):=by simp only[List.length_append];omega
      rw[hfl,hlen]at g5
      have hm:=z9w (p:=p) hq (by omega) (2*bs) D.flatten T1 T2 W'.flatten (by omega) (by omega) (by omega) (by simp only[List.length_append];omega) (fun x hx=>by have:=v1 x hx;omega) (fun x hx=>by have:=v3 x hx;omega) v2 v4 (fun x hx y hy=>by have:=v1 x hx;have:=v3 y hy;omega)
      rw[← ha,w1,w2]at hm
      have e1:(a:Int)+bs=(a+bs:Nat):=by omega
      have e2:((a+2*bs:Nat):Int)=(a+bs+bs:Nat):=by omega
      rw[hfl,e2]
      simp (disch:=(try simp only[lZ]);omega) only[aZ,e1]
      refine hm.mono ?_
      rintro r H' ⟨rfl,T,t1,t2,rfl⟩
      refine z7 ?_
      have tl:T.length=2*bs:=by rw[t1.length_eq,List.length_append];omega
      have hf:(D++[T]).flatten=D.flatten++T:=by simp
      have hf2:(D.flatten++T).length=a+2*bs:=by rw[List.length_append];omega
      unfold HS
      skip
      simp (disch:=(try simp only[lZ]);omega) only[aZ]
      refine⟨(D++[T],W'),⟨fun S hS=>?_,w3,RunsOk.app g3 ⟨fun x hx=>?_,t2,trivial⟩,?_,?_⟩,?_,?_⟩
      · rcases List.mem_append.1 hS with hS|hS
        · exact g1 S hS
        · have:S=T:=by simpa using hS
          rw[this,tl]
      · rcases List.mem_append.1 (t1.mem_iff.1 hx)with h|h
        · have:=v1 x h;omega
        · have:=v3 x h;omega
      · simp only[hf,hf2]
        rw[show a+2*bs=a+T1.length+T2.length by omega];exact v5
      · simp only[hf,hf2];omega
      · simp only[hfl,hlen];omega
      · simp only[hf,hf2,List.append_assoc]
        exact Cut.of' 4 rfl (by omega) (by simp (disch:=first|omega|simp (disch:=omega) only[aG]) only[fZ]) (by simp (disch:=first|omega|simp (disch:=omega) only[aG]) only[fZ,Int.add_assoc,Int.two_mul])
    · have e1:(a:Int)+bs=(a+bs:Nat):=by omega
      simp (disch:=(try simp only[lZ]);omega) only[aZ,e1]
      refine z4P (fun H'=>∃W':List (List Int),Shape (2*bs) W'∧RunsOk q a W'∧W'.flatten.length=W.flatten.length∧H'=HS p q (D.flatten++W'.flatten)) ?_ ?_ ?_
      · intro ht
        have ht:=of_decide_eq_true ht
        rcases Shape.end (by omega) g2 (by omega)with(rfl|⟨T,rfl,w1,w2⟩)|⟨T1,T2,rfl,w1,w2⟩
        · simp at g5;omega
        · simp at g5;omega
        · obtain⟨v1,v2,v3,v4,v5⟩:=g4
          have hfl:[T1,T2].flatten=T1++(T2++[]):=by simp
          rw[hfl]at g5 ⊢
          simp only[List.length_append,List.length_nil,Nat.add_zero]at g5
          have hm:=z9w (p:=p) hq (by omega) (2*bs) D.flatten T1 T2 [] (by omega) (by omega) (by omega) (by simp only[List.length_append,List.length_nil];omega) (fun x hx=>by have:=v1 x hx;omega) (fun x hx=>by have:=v3 x hx;omega) v2 v4 (fun x hx y hy=>by have:=v1 x hx;have:=v3 y hy;omega)
          rw[← ha,w1,show a+bs+T2.length=q.length by omega]at hm
          simp (disch:=(try simp only[lZ]);omega) only[aZ]
          refine hm.mono ?_
          rintro r H' ⟨rfl,T,t1,t2,rfl⟩
          refine z7 ?_
          have tl:T.length=bs+T2.length:=by rw[t1.length_eq,List.length_append];omega
          simp (disch:=(try simp only[lZ]);omega) only[aZ]
          refine⟨trivial,trivial,[T],⟨by omega,by omega⟩,⟨fun x hx=>?_,t2,trivial⟩,by simp;omega,by simp⟩
          rcases List.mem_append.1 (t1.mem_iff.1 hx)with h|h
          · have:=v1 x h;omega
          · have:=v3 x h;omega
      · intro ht
        have ht:=of_decide_eq_false ht
        simp (disch:=(try simp only[lZ]);omega) only[aZ]
        refine⟨trivial,trivial,W,?_,g4,rfl,rfl⟩
        rcases Shape.end (by omega) g2 (by omega)with(rfl|⟨T,rfl,w1,w2⟩)|⟨T1,T2,rfl,w1,w2⟩
        · trivial
        · exact⟨w1,by omega⟩
        · simp at g5;omega
      rintro H' ⟨W',w1,w2,w3,rfl⟩
      unfold HS
      skip
      simp (disch:=(try simp only[lZ]);omega) only[aZ]
      refine⟨(2*bs,D++W'),⟨by simp only;omega,by simp only;omega,?_,Shape.app (by omega) g1 w1,RunsOk.app g3 (by rw[Nat.zero_add,← ha];exact w2)⟩,by simp only;omega,?_⟩
      · simp only[List.flatten_append,List.length_append];omega
      · simp only[List.flatten_append]
        exact Cut.of' 4 rfl (by omega) (by simp (disch:=first|omega|simp (disch:=omega) only[aG]) only[fZ]) (by simp (disch:=first|omega|simp (disch:=omega) only[aG]) only[fZ,Int.mul_comm])
  · have hU : U.flatten.Pairwise (ltO q) ∧ InR q.length U.flatten := by
      match U,h4,h5 with
      | [],_,_=>exact⟨by simp,fun x hx=>by simp at hx⟩
      | [T],_,h5 =>
        obtain⟨v1,v2,v3⟩:=h5
        simp at h3
        refine⟨by simpa using v2,fun x hx=>?_⟩
        have:=v1 x (by simpa using hx);omega
      | T1 :: T2 :: U,h4,_ =>
        have w1:T1.length=bs:=h4.1
        have w2:0<T2.length:=by
          match U,h4.2 with
          | [],h=>exact h.1
          | _ :: _,h=>rw[h.1];omega
        simp at h3;omega
    simp (disch:=(try simp only[lZ]);omega) only[aZ,zY8]
    exact zd5 ⟨rfl,U.flatten,by omega,by exact hU.2,hU.1,rfl⟩
theorem yp5{p q:List Int}(hq:QOk q)(hl:q.length<100000):
    VR P false zd2 [yo9 q.length,cmpA] (HS p q (rng 0 q.length)) fun r H'=>r=.tup []∧∃T:List Int,T.length=q.length∧InR q.length T∧T.Pairwise (ltO q)∧H'=HS p q T:=by
  refine zq2 (by simp) (.inl rfl) fun _ _=>?_
  simp (disch:=(try simp only[lZ]);omega) only[aZ,X3,zd4]
  refine(y33 (p:=p) hq hl).mono ?_
  rintro r H' ⟨rfl,T,t1,t2,t3,rfl⟩
  refine z7 ?_
  simp (disch:=(try simp only[lZ]);omega) only[aZ,zt2]
  exact zd5 ⟨rfl,T,t1,t2,t3,rfl⟩
end Go.Proofs.YtcppaddgclkekaaGreat
