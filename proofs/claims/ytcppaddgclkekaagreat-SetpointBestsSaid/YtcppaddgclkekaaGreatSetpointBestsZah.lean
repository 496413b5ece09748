/- Lemmas and walks that the proof of SetpointBests uses. No statement is claimed here. -/
import Derived.Test.YtcppaddgclkekaaGreatSetpointBestsZag
namespace Go.Lft
open Go
set_option linter.unusedSimpArgs false
set_option linter.unusedVariables false
def isR(r0:A):A→List Blk→Prop:=fun r G=>r=r0∧G=[]
theorem VR.use{P:Program}{kp':Bool}{f:Nat}{args args':List A}{H:List Blk}{R:A→List Blk→Prop}{r0:A}(hv:VR P false f args' [] (isR r0))(hl:LdL H args args')(hc:(r0.cl && r0.bd 0)=true)(h:R r0 H):VR P kp' f args H R:=by
 simp only[Bool.and_eq_true]at hc
 refine(hv.lend hl fun r G hr=>?_).mono fun r H' ⟨r1,G,h1,h2,h3⟩=>?_
 ·obtain⟨rfl,rfl⟩:=hr;exact⟨hc.1,fun B hB=>by simp at hB⟩
 ·obtain⟨rfl,rfl⟩:=h1
  rw[A.sh_bd _ hc.2]at h2
  subst h2
  rw[h3];simpa using h
theorem VR.same{P:Program}{kp':Bool}{f:Nat}{args:List A}{H:List Blk}{R:A→List Blk→Prop}{r0:A}(hv:VR P false f args [] (isR r0))(hl:A.bdL 0 args=true)(hc:(r0.cl && r0.bd 0)=true)(h:R r0 H):VR P kp' f args H R :=
 hv.use (LdL.refl hl) hc h
theorem VR.useE{P:Program}{kp':Bool}{f:Nat}{args args':List A}{H:List Blk}{R R':A→List Blk→Prop}(hv:VR P false f args' [] R')(hl:LdL H args args')(hc:∀r G,R' r G→G=[]∧(r.cl && r.bd 0)=true)(h:∀r,R' r []→R r H):VR P kp' f args H R:=by
 refine(hv.lend hl fun r G hr=>?_).mono fun r H' ⟨r1,G,h1,h2,h3⟩=>?_
 ·obtain⟨rfl,hc⟩:=hc r G hr;simp only[Bool.and_eq_true]at hc;exact⟨hc.1,fun B hB=>by simp at hB⟩
 ·obtain⟨rfl,hc⟩:=hc r1 G h1
  simp only[Bool.and_eq_true]at hc
  rw[A.sh_bd _ hc.2]at h2
  subst h2
  rw[h3];simpa using h r h1
def ownR(r0:A)(G0:List Blk):A→List Blk→Prop:=fun r G=>r=r0∧G=G0
theorem VR.useO {P : Program} {kp' : Bool} {f : Nat} {args args' : List A} {H : List Blk} {R : A → List Blk → Prop} {r0 : A} {G0 : List Blk} (hv : VR P false f args' [] (ownR r0 G0)) (hl : LdL H args args') (hc : (r0.cl && G0.all fun B => A.clL B.cells) = true)
    (h:R (r0.sh H.length) (H++G0.map (Blk.sh H.length))):VR P kp' f args H R:=by
  simp only[Bool.and_eq_true,List.all_eq_true]at hc
  refine(hv.lend hl fun r G hr=>?_).mono fun r H' ⟨r1,G,h1,h2,h3⟩=>?_
  · obtain⟨rfl,rfl⟩:=hr;exact hc
  · obtain⟨rfl,rfl⟩:=h1
    subst h2;subst h3;exact h
theorem y9g{p:Prop}[Decidable p](h:p):A.v (.bool true)=.v (.bool (decide p)):=by simp [h]
theorem yx3{p:Prop}[Decidable p](h:¬p):A.v (.bool false)=.v (.bool (decide p)):=by simp [h]
theorem vdec{p q:Prop}[Decidable p][Decidable q](h:p↔q):A.v (.bool (decide p))=.v (.bool (decide q)):=by simp [h]
theorem z7{P:Program}{n0:Nat}{Q:QA}{e:List A}{d:Option Nat}{k:S}{a:A}{H:List Blk}(h:aput P n0 Q e d k a H):aret P n0 Q e d k a H:=aw_sound h
theorem y8{H:List Blk}{R:A→List Blk→Prop}{l:List A}{r:A}(hf:Fz 0 H (retA l) r)(h:R r []):yH2 0 H R l :=
 ⟨r,[],Cut.of' 0 rfl (Nat.le_refl _) (by rw[yH5];trivial) ⟨hf,trivial⟩,h⟩
theorem y1{H:List Blk}{R:A→List Blk→Prop}{x:Value}(h:R (.v x) []):yH2 0 H R [.v x]:=y8 (Fz.refl rfl) h
theorem z1c{H:List Blk}{R:A→List Blk→Prop}{x:Value}(h:R (.tup [.fs true [],.v x]) []):yH2 0 H R [.v (.slice none 0 0),.v x] :=
 y8 (Fz.tup (l:=[.v (.slice none 0 0),.v x]) (r:=[.fs true [],.v x]) ⟨z3d _ _,Fz.refl rfl,trivial⟩) h
def setL(e:List A):List (Nat×A)→List A
 | []=>e
 | (i,a) :: r=>setL (e.set i a) r
def anyL(e:List A):List Nat→List A
 | []=>e
 | i :: r=>anyL (e.set i .any) r
def setB(H:List Blk):List (Nat×Blk)→List Blk
 | []=>H
 | (i,B) :: r=>setB (H.set i B) r
theorem yV7(e:List A):setL e []=e:=rfl
theorem yx4(e:List A)(i:Nat)(a:A)(r:List (Nat×A)):setL e ((i,a) :: r)=setL (e.set i a) r:=rfl
theorem yV8(e:List A):anyL e []=e:=rfl
theorem yx5(e:List A)(i:Nat)(r:List Nat):anyL e (i :: r)=anyL (e.set i .any) r:=rfl
theorem yV9(H:List Blk):setB H []=H:=rfl
theorem yx6(H:List Blk)(i:Nat)(B:Blk)(r:List (Nat×Blk)):setB H ((i,B) :: r)=setB (H.set i B) r:=rfl
theorem AWP.loopP {P : Program} {n0 : Nat} {s : S} {Q : QA} {e : List A} {H : List Blk} {α : Type} (asg : List Nat) (I : α → Prop) (ps : α → List (Nat × A)) (hp : α → List (Nat × Blk)) (m : α → Nat) (a0 : α) (h0 : I a0)
    (hc:Cut n0 e H (setL (anyL e asg) (ps a0)) (setB H (hp a0)))
    (round:∀a,I a→s.aw P n0 (lgA n0 I (fun a=>setL (anyL e asg) (ps a)) (fun a=>setB H (hp a)) m (m a) Q) (setL (anyL e asg) (ps a)) (setB H (hp a))):AWP P n0 (.loop s) Q e H :=
  AWP.loop I _ _ m a0 h0 hc fun a ha=>aw_sound (round a ha)
theorem AWP.loopM {P : Program} {n0 : Nat} {s : S} {Q : QA} {e : List A} {H : List Blk} {α : Type} (asg : List Nat) (I : α → Prop) (ps : α → List (Nat × A)) (mem : α → List Blk) (m : α → Nat) (a0 : α) (h0 : I a0)
    (hc:Cut n0 e H (setL (anyL e asg) (ps a0)) (mem a0))
    (round:∀a,I a→s.aw P n0 (lgA n0 I (fun a=>setL (anyL e asg) (ps a)) mem m (m a) Q) (setL (anyL e asg) (ps a)) (mem a)):AWP P n0 (.loop s) Q e H :=
  AWP.loop I _ _ m a0 h0 hc fun a ha=>aw_sound (round a ha)
theorem aP:type_of% (ai9 @yV7<|ai9 @yx4<|ai9 @yV8<|ai9 @yx5<|ai9 @yV9<|@yx6):=⟨@yV7,@yx4,@yV8,@yx5,@yV9,@yx6⟩
theorem y4{H:List Blk}{i ver:Nat}{l:List A}(h:blkAt H i ver=some l):i<H.length:=by
 obtain⟨B,h1,_⟩:=w8.1 h;exact(List.getElem?_eq_some_iff.1 h1).1
theorem y5(H:List Blk)(i j ver:Nat)(B:Blk)(h:i≠j):blkAt (H.set j B) i ver=blkAt H i ver:=by
 induction H generalizing i j with
 | nil=>rfl
 | cons C r ih =>
  cases j with
  | zero=>cases i with
   | zero=>omega
   | succ i=>rfl
  | succ j=>cases i with
   | zero=>rfl
   | succ i=>exact ih i j (by omega)
theorem x0(H:List Blk)(j ver:Nat)(l:List A)(h:j<H.length):blkAt (H.set j ⟨ver,l⟩) j ver=some l:=by
 induction H generalizing j with
 | nil=>simp at h
 | cons C r ih =>
  cases j with
  | zero=>simp [blkAt]
  | succ j=>exact ih j (by simpa using h)
theorem x2(H l:List Blk)(i ver:Nat)(h:i<H.length):blkAt (H++l) i ver=blkAt H i ver:=by
 induction H generalizing i with
 | nil=>simp at h
 | cons C r ih =>
  cases i with
  | zero=>rfl
  | succ i=>exact ih i (by simpa using h)
theorem zg6(H l:List Blk)(k ver:Nat):blkAt (H++l) (H.length+k) ver=blkAt l k ver:=by
 induction H with
 | nil=>simp
 | cons C r ih=>rw[List.cons_append,List.length_cons,show r.length+1+k=(r.length+k)+1 by omega];exact ih
theorem x5(H l:List Blk)(ver:Nat):blkAt (H++l) H.length ver=blkAt l 0 ver:=zg6 H l 0 ver
theorem yW0(H:List Blk)(j:Nat)(B C:Blk):(H.set j B).set j C=H.set j C:=List.set_set _
theorem yW1(H:List Blk)(j:Nat)(B:Blk):(H.set j B).length=H.length:=List.length_set
theorem yW2(H l:List Blk):(H++l).length=H.length+l.length:=List.length_append
theorem yW3(H l:List Blk)(i:Nat)(B:Blk)(h:i<H.length):(H++l).set i B=H.set i B++l:=List.set_append_left _ _ h
theorem yl4(H l:List Blk)(k:Nat)(B:Blk):(H++l).set (H.length+k) B=H++l.set k B:=by
 rw[List.set_append_right _ _ (by omega)];congr 2;omega
theorem z8e(H l:List Blk)(B:Blk):(H++l).set H.length B=H++l.set 0 B:=yl4 H l 0 B
theorem yW4(H l m:List Blk):(H++l)++m=H++(l++m):=List.append_assoc _ _ _
def okB(n:Nat)(H:List Blk):Prop:=∀B∈H,A.bdL n B.cells=true
theorem okB.app{n:Nat}{H l:List Blk}(h:okB n H)(hl:okB n l):okB n (H++l):=fun B hB=>by
 rcases List.mem_append.1 hB with h1|h1
 ·exact h B h1
 ·exact hl B h1
theorem Cut.app{n0:Nat}{e e':List A}{H T:List Blk}(hn:n0≤H.length)(hb:okB H.length H)(he:FzL H.length (H++T) e e'):Cut n0 e (H++T) e' H :=
 Cut.of hn rfl (fun i B' h=>⟨B',by rw[List.getElem?_append_left (List.getElem?_eq_some_iff.1 h).1];exact h,rfl,FzL.refl (hb B' (List.mem_of_getElem? h))⟩) he
theorem Cut.same{n0:Nat}{e e':List A}{H:List Blk}(hn:n0≤H.length)(hb:okB H.length H)(he:FzL H.length H e e'):Cut n0 e H e' H:=by
 have:=Cut.app (T:=[]) hn hb (by simpa using he)
 simpa using this
theorem xz7{n0:Nat}{H T:List Blk}{R:A→List Blk→Prop}{l:List A}{r:A}(hn:n0≤H.length)(hb:okB H.length H)(hf:Fz H.length (H++T) (retA l) r)(h:R r H):yH2 n0 (H++T) R l :=
 ⟨r,H,Cut.app hn hb ⟨hf,trivial⟩,h⟩
theorem zd5{n0:Nat}{H:List Blk}{R:A→List Blk→Prop}{l:List A}(h:R (retA l) H):yH2 n0 H R l:=⟨_,H,Cut.refl _ _ _,h⟩
theorem yx7(l:List (Int×Int))(j:Nat)(h:j<l.length):((W1 l).drop (j*2)).take 2=[.v (.int .i64 (l.getD j (0,0)).1),.v (.int .i64 (l.getD j (0,0)).2)]:=by
 induction l generalizing j with
 | nil=>simp at h
 | cons a r ih =>
  cases j with
  | zero=>rfl
  | succ j=>rw[show(j+1)*2=j*2+1+1 by omega];exact ih j (by simpa using h)
theorem y3q(l:List (Int×Int))(h:0<l.length):(W1 l).take 2=[.v (.int .i64 (l.getD 0 (0,0)).1),.v (.int .i64 (l.getD 0 (0,0)).2)]:=yx7 l 0 h
theorem y3r(l:List (Int×Int))(j:Nat)(h:j<l.length):nthA (W1 l) (j*2)=some (.v (.int .i64 (l.getD j (0,0)).1)):=by
 have:=congrArg (·[0]?) (yx7 l j h)
 simpa [Y8]using this
theorem y3s(l:List (Int×Int))(h:0<l.length):nthA (W1 l) 0=some (.v (.int .i64 (l.getD 0 (0,0)).1)):=y3r l 0 h
theorem y3t(l:List (Int×Int))(j:Nat)(h:j<l.length):nthA (W1 l) (j*2+1)=some (.v (.int .i64 (l.getD j (0,0)).2)):=by
 have:=congrArg (·[1]?) (yx7 l j h)
 simpa [Y8]using this
theorem y3u(l:List (Int×Int))(j:Nat)(x y:Int)(h:j<l.length):splA (W1 l) (j*2) [.v (.int .i64 x),.v (.int .i64 y)]=W1 (l.set j (x,y)):=by
 induction l generalizing j with
 | nil=>simp at h
 | cons a r ih =>
  cases j with
  | zero=>rfl
  | succ j =>
   rw[show(j+1)*2=j*2+1+1 by omega,show W1 (a :: r)=.v (.int .i64 a.1) :: .v (.int .i64 a.2) :: W1 r from rfl,z3b,z3b,ih j (by simpa using h)];rfl
theorem y3v(l:List (Int×Int))(x y:Int)(h:0<l.length):splA (W1 l) 0 [.v (.int .i64 x),.v (.int .i64 y)]=W1 (l.set 0 (x,y)):=y3u l 0 x y h
theorem y3w(l:List (Int×Int))(n:Nat):(W1 l).take (n*2)=W1 (l.take n):=by
 induction l generalizing n with
 | nil=>simp [W1]
 | cons a r ih =>
  cases n with
  | zero=>rfl
  | succ n=>rw[show(n+1)*2=n*2+1+1 by omega,show W1 (a :: r)=.v (.int .i64 a.1) :: .v (.int .i64 a.2) :: W1 r from rfl,List.take_succ_cons,List.take_succ_cons,ih n];rfl
theorem aH:type_of% (ai9 @y5<|ai9 @x0<|ai9 @x2<|ai9 @zg6<|ai9 @x5<|ai9 @yW0<|ai9 @yW1<|ai9 @yW2<|ai9 @yW3<|ai9 @yl4<|ai9 @z8e<|ai9 @yW4<|ai9 @yx7<|ai9 @y3q<|ai9 @y3r<|ai9 @y3s<|ai9 @y3t<|ai9 @y3u<|ai9 @y3v<|@y3w):=⟨@y5,@x0,@x2,@zg6,@x5,@yW0,@yW1,@yW2,@yW3,@yl4,@z8e,@yW4,@yx7,@y3q,@y3r,@y3s,@y3t,@y3u,@y3v,@y3w⟩
theorem lZ:type_of% (ai9 @List.length_set.{0}<|ai9 @List.length_replicate.{0}<|ai9 @List.length_append.{0}<|ai9 @List.length_cons.{0} @List.length_nil.{0}):=⟨@List.length_set.{0},@List.length_replicate.{0},@List.length_append.{0},@List.length_cons.{0},@List.length_nil.{0}⟩
theorem aZ:type_of% (ai9 aW<|ai9 aX<|ai9 aV<|ai9 aB<|ai9 aN<|ai9 aL<|ai9 aP aH):=⟨aW,aX,aV,aB,aN,aL,aP,aH⟩
theorem aG:type_of% (ai9 aF<|ai9 aL aN):=⟨aF,aL,aN⟩
theorem fZ:type_of% (ai9 aZ<|ai9 aF<|ai9 @Int.natCast_add<|ai9 @Int.natCast_mul<|ai9 @Int.add_sub_cancel<|ai9 @List.length_nil.{0}<|ai9 @Int.cast_ofNat_Int<|ai9 @and_true @true_and):=⟨aZ,aF,@Int.natCast_add,@Int.natCast_mul,@Int.add_sub_cancel,@List.length_nil.{0},@Int.cast_ofNat_Int,@and_true,@true_and⟩
end Go.Lft
