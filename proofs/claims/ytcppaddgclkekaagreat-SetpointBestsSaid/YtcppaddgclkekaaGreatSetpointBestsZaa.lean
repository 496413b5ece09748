/- Lemmas and walks that the proof of SetpointBests uses. No statement is claimed here. -/
import Derived.Orders
import Derived.OrdersIn
import Derived.Scope
import Derived.LoopN
import Derived.Laws.Rows
import Derived.ChangeKeysEq
namespace Go.Lft
theorem ai9{a b:Prop}(x:a)(y:b):a∧b:=⟨x,y⟩
end Go.Lft
namespace Go.Lft
open Go
abbrev Heap:=Nat→Option Obj
def hp(w:World):Heap:=fun k=>w.heap[k]?
def upd(h:Heap)(b:Nat)(o:Obj):Heap:=fun k=>if k=b then some o else h k
@[simp] theorem zb7 (h:Heap) (b:Nat) (o:Obj):upd h b o b=some o:=by simp [upd]
theorem Y7(h:Heap){b k:Nat}(o:Obj)(hk:k≠b):upd h b o k=h k:=by simp [upd,hk]
theorem yM5(h:Heap){b c:Nat}(o p:Obj)(hbc:b≠c):upd (upd h b o) c p=upd (upd h c p) b o:=by
 funext k;simp only[upd];split<;>split<;>simp_all
def Fin(h:Heap):Prop:=∃n,∀k,n≤k→h k=none
theorem Fin.hp(w:World):Fin (hp w):=⟨w.heap.size,fun k hk=>by simp [Lft.hp,hk]⟩
theorem Fin.upd{h:Heap}(hf:Fin h)(b:Nat)(o:Obj):Fin (upd h b o) :=
 let⟨n,hn⟩:=hf
 ⟨max n (b+1),fun k hk=>by rw[Y7 _ _ (by omega)];exact hn k (by omega)⟩
theorem Fin.fresh{h:Heap}(hf:Fin h)(m:Nat):∃b,h b=none∧m≤b:=let⟨n,hn⟩:=hf;⟨max n m,hn _ (by omega),by omega⟩
theorem z7G(w:World)(o:Obj):hp (w.alloc o)=upd (hp w) w.heap.size o:=by
 funext k
 simp only[hp,upd,World.alloc,Array.getElem?_push]
def Ext(h h':Heap):Prop:=∀k o,h k=some o→h' k=some o
theorem Ext.refl(h:Heap):Ext h h:=fun _ _ h=>h
theorem Ext.trans{a b c:Heap}(h:Ext a b)(k:Ext b c):Ext a c:=fun i o hi=>k i o (h i o hi)
theorem Ext.upd{h:Heap}{b:Nat}(hb:h b=none)(o:Obj):Ext h (upd h b o):=fun k p hk=>by
 rw[Y7 _ _ (by rintro rfl;rw[hb]at hk;cases hk)];exact hk
def rd(h:Heap)(b o n:Nat):Option (List Value) :=
 match h b with
 | some (.cells c _ _)=>if o+n≤c.size then some ((c.toList.drop o).take n)else none
 | _=>none
def zD1(c:Array Value)(o:Nat):List Value→Array Value
 | []=>c
 | v :: vs=>zD1 (c.setIfInBounds o v) (o+1) vs
def one:Value→Bool
 | .agg _ | .tuple _=>false
 | _=>true
def wr(h:Heap)(b o:Nat)(vs:List Value):Option Heap :=
 match h b with
 | some (.cells c e (0,0))=>if o+vs.length≤c.size∧vs.all one=true then some (upd h b (.cells (zD1 c o vs) e (0,0)))else none
 | _=>none
theorem y1p{h:Heap}{b o c:Nat}{vs:List Value}(p:Obj)(hbc:b≠c):wr (upd h c p) b o vs=(wr h b o vs).map fun h'=>upd h' c p:=by
 unfold wr
 rw[Y7 _ _ hbc]
 split
 ·split
  ·simp [yM5 _ _ _ hbc]
  ·rfl
 ·rfl
theorem z70{h h':Heap}{b o:Nat}{vs:List Value}(hw:wr h b o vs=some h'):(h b).isSome=true∧(∀k,h k=none→h' k=none)∧(Fin h→Fin h'):=by
 unfold wr at hw
 split at hw
 ·rename_i c e hb
  split at hw
  ·cases hw
   exact⟨by simp [hb],fun k hk=>by rw[Y7 _ _ (by rintro rfl;rw[hb]at hk;cases hk)];exact hk,fun hf=>hf.upd _ _⟩
  ·cases hw
 ·cases hw
def Rest(w w':World):Prop:=w'.os=w.os∧w'.tape=w.tape∧w'.output=w.output
theorem Rest.refl(w:World):Rest w w:=⟨rfl,rfl,rfl⟩
theorem Rest.trans{a b c:World}(h:Rest a b)(k:Rest b c):Rest a c:=⟨k.1.trans h.1,k.2.1.trans h.2.1,k.2.2.trans h.2.2⟩
def mkV:Option (Nat×Nat)→Nat→Value
 | none,b=>.pointer (some ⟨b,0,none⟩)
 | some (l,c),b=>.slice (some ⟨b,0,none⟩) l c
section
variable {P:Program} {ops:Array Oper}
def Still(P:Program)(k:Nat)(o:Oper)(a:Act)(h:Heap)(v:Value):Prop :=
 ∀w:World,(k=0∨Ext h (hp w))→(execOp a.eval o).run P w=.ok (.value v) w
def Mkr(P:Program)(o:Oper)(a:Act)(s:Option (Nat×Nat))(O:Obj):Prop :=
 ∀w:World,(execOp a.eval o).run P w=.ok (.value (mkV s w.heap.size)) (w.alloc O)
theorem Mkr.det{o:Oper}{a:Act}{s s':Option (Nat×Nat)}{O O':Obj}(h:Mkr P o a s O)(h':Mkr P o a s' O'):s=s'∧O=O':=by
 have e:=(h default).symm.trans (h' default)
 injection e with e1 e2
 injection e1 with e1
 constructor
 ·cases s with
  | none=>cases s' with
   | none=>rfl
   | some q=>simp [mkV]at e1
  | some p=>cases s' with
   | none=>simp [mkV]at e1
   | some q=>obtain⟨l,c⟩:=p;obtain⟨l',c'⟩:=q;simp [mkV]at e1;simp [e1]
 ·have h2:(default:World).heap.push O=(default:World).heap.push O':=congrArg (fun w:World=>w.heap) e2
  exact(Array.push_eq_push.1 h2).1
def Str(P:Program)(o:Oper)(a:Act)(b off:Nat)(vs:List Value):Prop :=
 ∃t p v,o.op=.store t p v∧a.eval p=.pointer (some ⟨b,off,none⟩)∧(a.eval v).cells.toList=vs∧(P.info? t).map (·.size)=some (a.eval v).cells.size
theorem Str.det{o:Oper}{a:Act}{b b' off off':Nat}{vs vs':List Value}(h:Str P o a b off vs)(h':Str P o a b' off' vs'):b=b'∧off=off'∧vs=vs':=by
 obtain⟨t,p,v,h1,h2,h3,_⟩:=h
 obtain⟨t',p',v',h1',h2',h3',_⟩:=h'
 rw[h1]at h1';cases h1'
 rw[h2]at h2';cases h2'
 exact⟨rfl,rfl,h3.symm.trans h3'⟩
theorem Still.ext{k:Nat}{o:Oper}{a:Act}{h h':Heap}{v:Value}(hs:Still P k o a h v)(he:k=0∨Ext h h'):Still P k o a h' v :=
 fun w hw=>hs w (by
  rcases he with he|he
  ·exact .inl he
  ·rcases hw with hw|hw
   ·exact .inl hw
   ·exact .inr (he.trans hw))
def zr8(P:Program)(ops:Array Oper)(kd:Nat→Nat)(kp:Nat→Bool)(i:Nat)(K:Act→Heap→Prop)(a:Act)(h:Heap):Prop :=
  match ops[i]? with
  | none=>False
  | some o =>
    if Region.wanted o (yielded ops a.tmps)then
      (match kd i with
       | 0=>∃v,Still P 0 o a h v∧K (a.put o.dst v) h
       | 1=>∃v,Still P 1 o a h v∧K (a.put o.dst v) h
       | 3=>∃s O,Mkr P o a s O∧∀b,h b=none→K (a.put o.dst (mkV s b)) (upd h b O)
       | 4=>∃b off vs h',Str P o a b off vs∧wr h b off vs=some h'∧K (a.put o.dst undef) h'
       | _=>∀w,hp w=h→o.wpIn Fence.wide 1 P a w (fun a' w'=>Rest w w'∧(kp i=true→Ext h (hp w'))∧K a' (hp w')) (fun _ _ _=>False))
    else K (a.put o.dst undef) h
def wpC(P:Program)(ops:Array Oper)(kd:Nat→Nat)(kp:Nat→Bool)(Q:Act→Heap→Prop):List Nat→Act→Heap→Prop
 | [],a,h=>Q a h
 | i :: rest,a,h=>zr8 P ops kd kp i (wpC P ops kd kp Q rest) a h
variable {kd:Nat→Nat} {kp:Nat→Bool}
theorem yF8{n:Nat}{row:String}{args:Array Value}{w:World}{R:Value→World→Prop}(h:Rows P row args w R):RowsIn Fence.wide n P row args w R :=
 fun c cs _=>let⟨v,w',r,s⟩:=h c cs;⟨v,w',r,stepsIn_wide.2 s⟩
theorem z56{o:Oper}{a:Act}{w:World}{K:Act→World→Prop}{Q:Exit→Act→World→Prop}(h:o.uponIn Fence.wide 1 P a K Q ((execOp a.eval o).run P w)):o.wpIn Fence.wide 1 P a w K Q :=
 ⟨fun _ _=>trivial,h⟩
theorem y1q{o:Oper}{a:Act}{w:World}{K:Act→World→Prop}{Q:Exit→Act→World→Prop}(h:o.wpIn Fence.wide 1 P a w K Q):o.uponIn Fence.wide 1 P a K Q ((execOp a.eval o).run P w):=h.2
theorem Oper.wpIn_of_wp{o:Oper}{a:Act}{w:World}{K:Act→World→Prop}(h:o.wp P a w K (fun _ _ _=>False)):o.wpIn Fence.wide 1 P a w K (fun _ _ _=>False):=by
 refine z56 ?_
 unfold Oper.wp at h
 generalize (execOp a.eval o).run P w=r at *
 cases r with
 | ok n w' =>
  cases n<;>simp only[Oper.upon,Oper.uponIn]at h ⊢ <;>
   first
    | exact h
    | exact⟨fun _=>Nat.le_refl _,callsIn_wide.2 (Calls.mono h (fun e w'' he=>by cases e<;>first|exact he|exact he.elim))⟩
    | exact⟨fun _=>Nat.le_refl _,yF8 h⟩
 | halt x w'=>cases x<;>simp only[Oper.upon]at h ⊢
theorem Oper.wpIn_monoQ {o : Oper} {a : Act} {w : World} {K : Act → World → Prop} {Q : Exit → Act → World → Prop}
    (hh:o.wpIn Fence.wide 1 P a w K (fun _ _ _=>False)):o.wpIn Fence.wide 1 P a w K Q:=by
  refine z56 ?_
  have hh:=y1q hh
  generalize (execOp a.eval o).run P w=r at *
  have lo:LetsOut (fun _ _ _=>False)→LetsOut Q:=fun⟨_,_,h⟩=>h.elim
  cases r with
  | ok n w' =>
    cases n<;>simp only[Oper.uponIn]at hh ⊢ <;>
      first
        | exact hh
        | exact⟨hh.1,CallsIn.mono hh.2 (fun e w'' he=>by cases e<;>first|exact he|exact he.elim|exact lo he)⟩
        | exact⟨hh.1,RoundIn.mono hh.2 (fun e w'' he=>by cases e<;>first|exact he|exact he.elim|exact lo he)⟩
  | halt x w'=>cases x<;>simp only[Oper.uponIn]at hh ⊢<;>exact hh.elim
theorem yk3{w:World}{b o n:Nat}{vs:List Value}(h:rd (hp w) b o n=some vs):vs.length=n∧∀j v,vs[j]?=some v→w.cell? ((⟨b,o,none⟩:Addr).add j)=some v:=by
 unfold rd at h
 split at h
 ·rename_i c _ _ hb
  split at h
  ·rename_i hle
   cases h
   refine⟨by simp;omega,fun j v hj=>?_⟩
   have hadd:(⟨b,o,none⟩:Addr).add j=⟨b,o+j,none⟩:=by unfold Addr.add;split<;>simp_all
   rw[hadd,cell_of_row w b (o+j) c _ _ hb]
   rw[List.getElem?_take]at hj
   split at hj
   ·simpa using hj
   ·cases hj
  ·cases h
 ·cases h
theorem zo7(P:Program):∀(vs:List Value) (w:World) (b o i:Nat) (h':Heap),wr (hp w) b (o+i) vs=some h' →
    ∃w',(storeCells ⟨b,o,none⟩ vs i).run P w=.ok () w'∧hp w'=h'∧Rest w w'
  | [],w,b,o,i,h',hw=>by
    unfold wr at hw
    split at hw
    · rename_i c e hb
      split at hw
      · cases hw
        refine⟨w,by simp [storeCells],?_,Rest.refl w⟩
        funext k
        simp only[zD1,upd]
        split
        · rename_i hk;subst hk;exact hb
        · rfl
      · cases hw
    · cases hw
  | v :: vs,w,b,o,i,h',hw=>by
    unfold wr at hw
    split at hw
    · rename_i c e hb
      split at hw
      · rename_i hc
        cases hw
        obtain⟨hle,hone⟩:=hc
        simp only[List.length_cons]at hle
        simp only[List.all_cons,Bool.and_eq_true]at hone
        have hb':w.heap[b]?=some (.cells c e (0,0)):=hb
        have hadd:(⟨b,o,none⟩:Addr).add i=⟨b,o+i,none⟩:=by unfold Addr.add;split<;>simp_all
        have hcell:w.cell? ⟨b,o+i,none⟩=some (c[o+i]'(by omega)):=by rw[cell_of_row w b (o+i) c _ _ hb'];simp
        have hfr:w.frozen? ⟨b,o+i,none⟩=false:=by simp [World.frozen?,hb']
        have hlt:b<w.heap.size:=(Array.getElem?_eq_some_iff.1 hb').1
        have hset:hp (w.setCell ⟨b,o+i,none⟩ v)=upd (hp w) b (.cells (c.setIfInBounds (o+i) v) e (0,0)):=by
          funext j
          simp only[hp,upd,World.setCell]
          by_cases hj:j=b
          · subst hj
            have hg:w.heap[j]=.cells c e (0,0):=(Array.getElem?_eq_some_iff.1 hb').2
            simp [Array.getElem_modify,hlt,hg]
          · simp [Array.getElem?_modify,hj,Ne.symm hj]
        have hstep:(store (⟨b,o+i,none⟩:Addr) v).run P w=.ok () (w.setCell ⟨b,o+i,none⟩ v):=by
          rw[run_store P w _ v .plain (by have:=hone.1;cases v<;>simp_all [one,Value.oneCell'])]
          simp [hcell,hfr]
        simp only[storeCells,hadd,Sem.run_bind,hstep,Result.andThen_ok]
        have hnext:wr (hp (w.setCell ⟨b,o+i,none⟩ v)) b (o+(i+1)) vs=some (upd (hp w) b (.cells (zD1 c (o+i) (v :: vs)) e (0,0))):=by
          rw[hset]
          unfold wr
          simp only[zb7]
          rw[if_pos ⟨by simp;omega,hone.2⟩]
          congr 1
          funext k
          simp only[upd,zD1,Nat.add_assoc]
          split<;>rfl
        obtain⟨w',h1,h2,h3⟩:=zo7 P vs _ b o (i+1) _ hnext
        exact⟨w',h1,h2,Rest.trans ⟨rfl,rfl,rfl⟩ h3⟩
      · cases hw
    · cases hw
theorem Str.run{o:Oper}{a:Act}{b off:Nat}{vs:List Value}(h:Str P o a b off vs){w:World}{h':Heap}(hw:wr (hp w) b off vs=some h'):
    ∃w',(execOp a.eval o).run P w=.ok .skip w'∧hp w'=h'∧Rest w w':=by
  obtain⟨t,p,v,h1,h2,h3,h4⟩:=h
  obtain⟨w',g1,g2,g3⟩:=zo7 P vs w b off 0 h' (by simpa using hw)
  refine⟨w',?_,g2,g3⟩
  cases hi:P.info? t with
  | none=>simp [hi]at h4
  | some i =>
    simp [hi]at h4
    simp [execOp,h1,Instr.storeAt,h2,Instr.sureAddr,storeVar,sizeOf,typeInfo,hi,h4,h3,g1]
theorem z23{i:Nat}{K:Act→Heap→Prop}{Q:Exit→Act→World→Prop}{a:Act}{w:World}(hh:zr8 P ops kd kp i K a (hp w)):
    wpOpIn Fence.wide 1 P ops Q i (fun a' w'=>Rest w w'∧K a' (hp w')) a w:=by
  unfold zr8 at hh
  unfold wpOpIn
  split
  · simp_all
  · rename_i o ho
    simp only[ho]at hh
    split
    · rename_i hw
      simp only[hw,if_true]at hh
      split at hh
      · obtain⟨v,hv,hK⟩:=hh
        refine z56 ?_
        rw[hv w (.inl rfl)]
        exact⟨Rest.refl w,hK⟩
      · obtain⟨v,hv,hK⟩:=hh
        refine z56 ?_
        rw[hv w (.inr (Ext.refl _))]
        exact⟨Rest.refl w,hK⟩
      · obtain⟨s,O,hm,hK⟩:=hh
        refine z56 ?_
        rw[hm w]
        refine⟨⟨rfl,rfl,rfl⟩,?_⟩
        rw[z7G]
        exact hK _ (by simp [hp])
      · obtain⟨b,off,vs,h',hs,hwr,hK⟩:=hh
        obtain⟨w',h1,h2,h3⟩:=hs.run hwr
        refine z56 ?_
        rw[h1]
        refine⟨h3,?_⟩
        rw[h2];exact hK
      · exact Oper.wpIn_mono (fun a w h=>⟨h.1,h.2.2⟩) (Oper.wpIn_monoQ (hh w rfl))
    · rename_i hw
      simp only[hw]at hh
      exact⟨fun _ _=>trivial,Rest.refl w,hh⟩
theorem xb5 {o : Oper} {a : Act} {dst : Option Tmp} {u : Value} {w : World} {K : Act → World → Prop}
    (hsel:∀cs b,o.op≠.select cs b) (h1:∀d,dst=some d→d ∉ o.looksAt ops) (h2:∀d,dst=some d→o.dst≠some d)
    (h:o.wpIn Fence.wide 1 P (a.put dst u) w K (fun _ _ _=>False)):o.wpIn Fence.wide 1 P a w (fun a' w'=>∃x,(a'=a.put o.dst x∨∃d,a'=({a with defers:=d :: a.defers}:Act).put o.dst x)∧K (a'.put dst u) w') (fun _ _ _=>False):=by
  refine z56 ?_
  have h:=y1q h
  rw[execOp_put o hsel a dst u h1]at h
  generalize (execOp a.eval o).run P w=r at *
  cases r with
  | ok n w' =>
    cases n<;>simp only[Oper.uponIn]at h ⊢
    case value x=>exact⟨x,.inl rfl,by rw[← Act.put_comm a u x h2];exact h⟩
    case skip=>exact⟨undef,.inl rfl,by rw[← Act.put_comm a u undef h2];exact h⟩
    case defer d =>
      refine⟨undef,.inr ⟨d,rfl⟩,?_⟩
      rw[← Act.put_comm _ u undef h2,← Act.put_defers]
      exact h
    case enter f args =>
      refine⟨h.1,CallsIn.mono h.2 fun e w'' he=>?_⟩
      cases e with
      | returned x=>exact⟨x,.inl rfl,by rw[← Act.put_comm a u x h2];exact he⟩
      | panicked c=>exact he
      | outgrown=>exact he
    case row row args=>exact⟨h.1,RowsIn.mono h.2 fun x w'' he=>⟨x,.inl rfl,by rw[← Act.put_comm a u x h2];exact he⟩⟩
    case round l f tmps assign body =>
      refine⟨h.1,RoundIn.mono h.2 fun e w'' he=>?_⟩
      cases e with
      | returned x=>exact⟨x,.inl rfl,by rw[← Act.put_comm a u x h2];exact he⟩
      | panicked c=>exact he
      | outgrown=>exact he
  | halt x w'=>cases x<;>simp only[Oper.uponIn]at h ⊢
inductive Dep(ops:Array Oper)(ex:List (Nat×Nat)):Nat→Nat→Prop
 | now {j i:Nat} (o:Oper) (e:Edge) (ho:ops[j]?=some o) (he:e∈o.after) (hb:Region.binds .any e=true) (hi:e.on=i):Dep ops ex j i
 | on {j i:Nat} (o:Oper) (e:Edge) (ho:ops[j]?=some o) (he:e∈o.after) (hb:Region.binds .any e=true) (hd:Dep ops ex e.on i):Dep ops ex j i
 | also {j i:Nat} (he:(i,j)∈ex):Dep ops ex j i
 | alsoOn {j i k:Nat} (he:(k,j)∈ex) (hd:Dep ops ex k i):Dep ops ex j i
def y1r(ops:Array Oper)(ex:List (Nat×Nat))(listed:Array Bool)(j:Nat):Prop :=
 (∀o,ops[j]?=some o→∀e∈o.after,Region.binds .any e=true→listed.getD e.on false=true)∧∀i,(i,j)∈ex→listed.getD i false=true
def y6P(ops:Array Oper)(ex:List (Nat×Nat))(listed:Array Bool):Prop:=∀j,listed.getD j false=true→y1r ops ex listed j
theorem y0I{ex:List (Nat×Nat)}{listed:Array Bool}(hc:y6P ops ex listed){j i:Nat}(hd:Dep ops ex j i):y1r ops ex listed j→listed.getD i false=true:=by
 induction hd with
 | now o e ho he hb hi=>intro hj;subst hi;exact hj.1 o ho e he hb
 | on o e ho he hb hd ih=>intro hj;exact ih (hc _ (hj.1 o ho e he hb))
 | also he=>intro hj;exact hj.2 _ he
 | alsoOn he hd ih=>intro hj;exact ih (hc _ (hj.2 _ he))
def yf7(acc:List Nat):List Edge→Nat→Nat
 | [],s=>s
 | e :: r,s=>yf7 acc r (if Region.binds .any e then s ||| 2 ^ e.on ||| acc.getD e.on 0 else s)
def yf8(acc:List Nat)(j:Nat):List (Nat×Nat)→Nat→Nat
 | [],s=>s
 | (p,q) :: r,s=>yf8 acc j r (if q == j then s ||| 2 ^ p ||| acc.getD p 0 else s)
def ys6(ex:List (Nat×Nat)):List Nat→List Oper→List Nat
 | acc,[]=>acc
 | acc,o :: r=>ys6 ex (acc++[yf8 acc acc.length ex (yf7 acc o.after.toList 0)]) r
theorem z49{acc:List Nat}{i:Nat}:∀(es:List Edge) (s:Nat),(yf7 acc es s).testBit i=true →
    s.testBit i=true∨∃e∈es,Region.binds .any e=true∧(e.on=i∨(acc.getD e.on 0).testBit i=true)
  | [],s,h=>.inl h
  | e :: r,s,h=>by
    rcases z49 r _ h with h|⟨e',he',hb,hx⟩
    · split at h
      · rename_i hb
        simp only[Nat.testBit_or,Bool.or_eq_true,Nat.testBit_two_pow,decide_eq_true_eq]at h
        rcases h with(h|h)|h
        · exact .inl h
        · exact .inr ⟨e,by simp,hb,.inl h⟩
        · exact .inr ⟨e,by simp,hb,.inr h⟩
      · exact .inl h
    · exact .inr ⟨e',by simp [he'],hb,hx⟩
theorem z5a{acc:List Nat}{i j:Nat}:∀(ex:List (Nat×Nat)) (s:Nat),(yf8 acc j ex s).testBit i=true →
    s.testBit i=true∨∃p,(p,j)∈ex∧(p=i∨(acc.getD p 0).testBit i=true)
  | [],s,h=>.inl h
  | (p,q) :: r,s,h=>by
    rcases z5a r _ h with h2|⟨p',hp',hx⟩
    · clear h
      split at h2
      · rename_i hq
        have hq:q=j:=by simpa using hq
        cases hq
        rw[Nat.testBit_or,Nat.testBit_or,Bool.or_eq_true,Bool.or_eq_true,Nat.testBit_two_pow,decide_eq_true_eq]at h2
        rcases h2 with(h|h)|h
        · exact .inl h
        · exact .inr ⟨p,by simp,.inl h⟩
        · exact .inr ⟨p,by simp,.inr h⟩
      · exact .inl h2
    · exact .inr ⟨p',by simp [hp'],hx⟩
theorem ys7{ex:List (Nat×Nat)}:∀(r:List Oper) (acc:List Nat) (pre:List Oper),ops.toList=pre++r→acc.length=pre.length →
    (∀j i,(acc.getD j 0).testBit i=true→Dep ops ex j i)→∀j i,((ys6 ex acc r).getD j 0).testBit i=true→Dep ops ex j i
  | [],_,_,_,_,h=>h
  | o :: r,acc,pre,hops,hlen,h=>by
    refine ys7 r _ (pre++[o]) (by simp [hops]) (by simp [hlen]) fun j i hb=>?_
    by_cases hj:j<acc.length
    · refine h j i ?_
      simpa [List.getElem?_append_left hj]using hb
    · by_cases hj2:j=acc.length
      · subst hj2
        have ho:ops[acc.length]?=some o:=by
          rw[← Array.getElem?_toList,hops,hlen];simp
        rw[show(acc++[yf8 acc acc.length ex (yf7 acc o.after.toList 0)]).getD acc.length 0=yf8 acc acc.length ex (yf7 acc o.after.toList 0)from by simp]at hb
        rcases z5a _ _ hb with hb|⟨p,hp,hx⟩
        · rcases z49 _ _ hb with hb|⟨e,he,hbd,hx⟩
          · simp at hb
          · rcases hx with hx|hx
            · exact .now o e ho (by simpa using he) hbd hx
            · exact .on o e ho (by simpa using he) hbd (h _ _ hx)
        · rcases hx with rfl|hx
          · exact .also hp
          · exact .alsoOn hp (h _ _ hx)
      · have : ∀ x, (acc ++ [x]).getD j 0 = 0 := fun x => by
          simp [List.getElem?_eq_none (l:=acc++[x]) (i:=j) (by simp;omega)]
        rw[this]at hb
        simp at hb
theorem z71{ex:List (Nat×Nat)}{j i:Nat}(h:((ys6 ex [] ops.toList).getD j 0).testBit i=true):Dep ops ex j i :=
 ys7 ops.toList [] [] (by simp) rfl (fun j i h=>by simp at h) j i h
def ys8(ex:List (Nat×Nat))(t:List Nat)(r:List Oper):List Nat:=r.zipIdx.map fun p=>yf8 t p.2 ex (yf7 t p.1.after.toList 0)
theorem zz0{ex:List (Nat×Nat)}{t:List Nat}(ht:∀j i,(t.getD j 0).testBit i=true→Dep ops ex j i)(j i:Nat)(h:((ys8 ex t ops.toList).getD j 0).testBit i=true):Dep ops ex j i:=by
 unfold ys8 at h
 by_cases hj:j<ops.size
 ·have ho:ops[j]?=some ops[j]:=by simp [hj]
  rw[List.getD_eq_getElem?_getD,List.getElem?_map,List.getElem?_zipIdx]at h
  simp only[Array.getElem?_toList,ho,Option.map_some,Option.getD_some,Nat.zero_add]at h
  rcases z5a _ _ h with h|⟨p,hp,hx⟩
  ·rcases z49 _ _ h with h|⟨e,he,hb,hx⟩
   ·simp at h
   ·rcases hx with hx|hx
    ·exact .now _ e ho (by simpa using he) hb hx
    ·exact .on _ e ho (by simpa using he) hb (ht _ _ hx)
  ·rcases hx with rfl|hx
   ·exact .also hp
   ·exact .alsoOn hp (ht _ _ hx)
 ·rw[List.getD_eq_getElem?_getD,List.getElem?_eq_none (by simp;omega)]at h
  simp at h
def y5I(ex:List (Nat×Nat))(acc:List Nat)(r:List Oper):List Nat:=match ex with
 | []=>ys6 ex acc r
 | _=>ys8 ex (ys8 ex (ys8 ex (ys8 ex (ys8 ex (ys8 ex (ys6 ex acc r) r) r) r) r) r) r
theorem y0J{ex:List (Nat×Nat)}{j i:Nat}(h:((y5I ex [] ops.toList).getD j 0).testBit i=true):Dep ops ex j i:=by
 unfold y5I at h
 split at h
 ·exact z71 h
 ·exact zz0 (zz0 (zz0 (zz0 (zz0 (zz0 fun j i h=>z71 h))))) j i h
def y0K(ops:Array Oper):Nat→Array Bool→List Nat→Prop
 | 0,_,τ=>τ=[]
 | n+1,listed,τ=>(τ=[]∧Region.ready .any ops listed=[])∨∃i τ',τ=i :: τ'∧i∈Region.ready .any ops listed∧y0K ops n (listed.setIfInBounds i true) τ'
theorem z72:∀(fuel t:Nat) (listed:Array Bool),y0K ops fuel listed (Region.linearise.go .any ops fuel t listed [])
 | 0,_,_=>by simp [Region.linearise.go,y0K]
 | fuel+1,t,listed=>by
  simp only[Region.linearise.go]
  change y0K ops (fuel+1) listed (match(Region.ready .any ops listed)[t % (Region.ready .any ops listed).length]? with
   | some i=>Region.linearise.go .any ops fuel (t / (Region.ready .any ops listed).length) (listed.setIfInBounds i true) [i]
   | none=>[].reverse)
  cases hi:(Region.ready .any ops listed)[t % (Region.ready .any ops listed).length]? with
  | none =>
   refine .inl ⟨rfl,?_⟩
   cases hr:Region.ready .any ops listed with
   | nil=>rfl
   | cons x xs =>
    rw[hr]at hi
    have hlt:t % (x :: xs).length<(x :: xs).length:=Nat.mod_lt _ (by simp)
    simp at hi
    simp at hlt
    omega
  | some i =>
   refine .inr ⟨i,Region.linearise.go .any ops fuel (t / (Region.ready .any ops listed).length) (listed.setIfInBounds i true) [],?_,List.mem_of_getElem? hi,z72 fuel _ _⟩
   exact(linearise_go_acc _ _ _ _ _ [i]).trans (by simp)
def ExOk(ex:List (Nat×Nat))(listed:Array Bool)(τ:List Nat):Prop:=∀p q,(p,q)∈ex→∀t1 t2,τ=t1++q :: t2→listed.getD p false=true∨p∈t1
theorem y8T{ex:List (Nat×Nat)}{listed:Array Bool}{τ:List Nat}{p q:Nat}(hne:p≠q)(h:ExOk ex listed τ):ExOk ((p,q) :: ex) listed τ∨ExOk ((q,p) :: ex) listed τ:=by
 by_cases hc:∀t1 t2,τ=t1++q :: t2→listed.getD p false=true∨p∈t1
 ·refine .inl fun p' q' hm=>?_
  rcases List.mem_cons.1 hm with e|hm
  ·cases e;exact hc
  ·exact h p' q' hm
 ·refine .inr fun p' q' hm=>?_
  rcases List.mem_cons.1 hm with e|hm
  ·cases e
   intro s1 s2 hs
   have hex:∃t1 t2,τ=t1++q :: t2∧p ∉ t1:=by
    refine Classical.byContradiction fun hn=>hc fun t1 t2 ht=>?_
    by_cases hp:p∈t1
    ·exact .inr hp
    ·exact absurd ⟨t1,t2,ht,hp⟩ hn
   obtain⟨t1,t2,ht,hp⟩:=hex
   refine .inr ?_
   rw[ht]at hs
   rcases List.append_eq_append_iff.1 hs with⟨as,e1,e2⟩|⟨bs,e1,e2⟩
   ·cases as with
    | nil=>simp at e2;exact absurd e2.1.symm hne
    | cons x xs=>simp at e2;rw[e1,← e2.1];simp
   ·cases bs with
    | nil=>simp at e2;exact absurd e2.1 hne
    | cons x xs=>simp at e2;exact absurd (by rw[e1,← e2.1];simp) hp
  ·exact h p' q' hm
def y0L(ki kj:Nat)(kpj:Bool):Bool :=
 match ki with
 | 0=>true
 | 1=>kj == 0 || kj == 1 || kj == 3 || (kj == 2 && kpj)
 | 3=>kj == 0 || kj == 3 || kj == 4
 | 4=>kj == 0 || kj == 3
 | _=>false
def yM6(ops:Array Oper)(bm:List Nat)(kd:Nat→Nat)(kp:Nat→Bool)(i j:Nat):Bool :=
 (bm.getD j 0).testBit i ||
 (y0L (kd i) (kd j) (kp j) && (match ops[i]?,ops[j]? with|some x,some y=>x.apart ops y|_,_=>false))
def z1B(ops:Array Oper)(bm:List Nat)(kd:Nat→Nat)(kp:Nat→Bool):List Nat→Bool
 | []=>true
 | i :: rest=>rest.all (fun j=>yM6 ops bm kd kp i j && !(i == j)) && z1B ops bm kd kp rest
theorem zD2{bm:List Nat}{i:Nat}:∀{pre post:List Nat},z1B ops bm kd kp (pre++i :: post)=true →
    (∀k∈pre,yM6 ops bm kd kp k i=true∧k≠i)∧z1B ops bm kd kp (pre++post)=true∧i ∉ pre++post
  | [],post,h=>by
    simp only[List.nil_append,z1B,Bool.and_eq_true,List.all_eq_true]at h
    refine⟨fun k hk=>(by cases hk),h.2,fun hm=>?_⟩
    have:=(h.1 i hm).2
    simp at this
  | p :: pre,post,h=>by
    simp only[List.cons_append,z1B,Bool.and_eq_true,List.all_eq_true]at h
    obtain⟨h1,h2,h3⟩:=zD2 h.2
    have hpi:=h.1 i (by simp)
    have hne:p≠i:=by have:=hpi.2;simpa using this
    refine⟨fun k hk=>?_,?_,?_⟩
    · rcases List.mem_cons.1 hk with rfl|hk
      · exact⟨hpi.1,hne⟩
      · exact h1 k hk
    · simp only[List.cons_append,z1B,Bool.and_eq_true,List.all_eq_true]
      refine⟨fun j hj=>h.1 j ?_,h2⟩
      simp only[List.mem_append,List.mem_cons]at hj ⊢
      rcases hj with hj|hj
      · exact .inl hj
      · exact .inr (.inr hj)
    · intro hm
      rcases List.mem_cons.1 hm with e|hm
      · exact hne e.symm
      · exact h3 hm
def Turn(k:Nat)(kp:Bool)(h h':Heap):Prop :=
 match k with
 | 0=>h'=h
 | 1=>h'=h
 | 3=>∃b O,h b=none∧h'=upd h b O
 | 4=>∃b off vs,wr h b off vs=some h'
 | _=>kp=true→Ext h h'
def y1s(a:Act)(o:Oper)(a':Act):Prop:=∃x,a'=a.put o.dst x∨∃d,a'=({a with defers:=d :: a.defers}:Act).put o.dst x
theorem Str.of_put{o:Oper}{a:Act}{dst:Option Tmp}{u:Value}{b off:Nat}{vs:List Value}(h1:∀d,dst=some d→d ∉ o.looksAt ops)(h:Str P o (a.put dst u) b off vs):Str P o a b off vs:=by
 obtain⟨t,p,v,g1,g2,g3,g4⟩:=h
 have ev:∀x∈o.op.operands,(a.put dst u).eval x=a.eval x:=fun x hx=>Act.eval_put fun d hd hxd=>h1 d hd (by
  subst hxd
  exact List.mem_append_left _ (List.mem_filterMap.2 ⟨.tmp d,by simpa using hx,rfl⟩))
 have e1:=ev p (by rw[g1];simp [Op.operands])
 have e2:=ev v (by rw[g1];simp [Op.operands])
 exact⟨t,p,v,g1,by rw[← e1];exact g2,by rw[← e2];exact g3,by rw[← e2];exact g4⟩
theorem Str.put{o:Oper}{a:Act}{dst:Option Tmp}{u:Value}{b off:Nat}{vs:List Value}(h1:∀d,dst=some d→d ∉ o.looksAt ops)(h:Str P o a b off vs):Str P o (a.put dst u) b off vs:=by
 obtain⟨t,p,v,g1,g2,g3,g4⟩:=h
 have ev:∀x∈o.op.operands,(a.put dst u).eval x=a.eval x:=fun x hx=>Act.eval_put fun d hd hxd=>h1 d hd (by
  subst hxd
  exact List.mem_append_left _ (List.mem_filterMap.2 ⟨.tmp d,by simpa using hx,rfl⟩))
 have e1:=ev p (by rw[g1];simp [Op.operands])
 have e2:=ev v (by rw[g1];simp [Op.operands])
 exact⟨t,p,v,g1,by rw[e1];exact g2,by rw[e2];exact g3,by rw[e2];exact g4⟩
theorem z73 {j : Nat} {oj : Oper} {dst : Option Tmp} {u : Value} {K K' : Act → Heap → Prop} {a : Act} {h : Heap} (hoj : ops[j]? = some oj) (hsel : ∀ cs b, oj.op ≠ .select cs b)
    (h1:∀d,dst=some d→d ∉ oj.looksAt ops) (h2:∀d,dst=some d→oj.dst≠some d) (hs:zr8 P ops kd kp j K (a.put dst u) h)
    (hback:∀a' h',y1s a oj a'→(h'=h∨Turn (kd j) (kp j) h h')→K (a'.put dst u) h'→K' a' h'):zr8 P ops kd kp j K' a h:=by
  unfold zr8 at hs ⊢
  simp only[hoj]at hs ⊢
  rw[wanted_put oj a dst u h1]at hs
  split
  · rename_i hw
    simp only[hw,if_true]at hs
    generalize hk:kd j=k at *
    split at hs
    · obtain⟨v,hv,hK⟩:=hs
      refine⟨v,fun w hw'=>?_,hback _ _ ⟨v,.inl rfl⟩ (.inl rfl) ?_⟩
      · have:=hv w hw';rwa [execOp_put oj hsel a dst u h1]at this
      · rw[← Act.put_comm a u v h2];exact hK
    · obtain⟨v,hv,hK⟩:=hs
      refine⟨v,fun w hw'=>?_,hback _ _ ⟨v,.inl rfl⟩ (.inl rfl) ?_⟩
      · have:=hv w hw';rwa [execOp_put oj hsel a dst u h1]at this
      · rw[← Act.put_comm a u v h2];exact hK
    · obtain⟨s,O,hm,hK⟩:=hs
      refine⟨s,O,fun w=>?_,fun b hb=>hback _ _ ⟨_,.inl rfl⟩ (.inr ⟨b,O,hb,rfl⟩) ?_⟩
      · have:=hm w;rwa [execOp_put oj hsel a dst u h1]at this
      · rw[← Act.put_comm a u _ h2];exact hK b hb
    · obtain⟨b,off,vs,h',hst,hwr,hK⟩:=hs
      refine⟨b,off,vs,h',hst.of_put h1,hwr,hback _ _ ⟨_,.inl rfl⟩ (.inr ⟨b,off,vs,hwr⟩) ?_⟩
      rw[← Act.put_comm a u _ h2];exact hK
    · rename_i n0 n1 n3 n4
      intro w hw'
      refine Oper.wpIn_mono ?_ (xb5 hsel h1 h2 (hs w hw'))
      rintro a' w' ⟨x,hx,hr,he,hK⟩
      refine⟨hr,he,hback _ _ ⟨x,hx⟩ (.inr ?_) hK⟩
      unfold Turn
      split<;>first|contradiction|exact he
  · rename_i hw
    simp only[hw,if_false,Bool.false_eq_true]at hs ⊢
    refine hback _ _ ⟨undef,.inl rfl⟩ (.inl rfl) ?_
    rw[← Act.put_comm a u undef h2];exact hs
theorem xb6(hs:Region.noSelect ops=true){j:Nat}{post:List Nat}{Q:Act→Heap→Prop}:∀(pre:List Nat) (a:Act) (h:Heap),Fin h →
    (∀i∈pre,(∃x y,ops[i]?=some x∧ops[j]?=some y∧x.apart ops y=true)∧y0L (kd i) (kd j) (kp j)=true) →
    wpC P ops kd kp Q (pre++j :: post) a h→zr8 P ops kd kp j (wpC P ops kd kp Q (pre++post)) a h
  | [],_,_,_,_,h=>h
  | i :: pre,a,h,hfin,hp,hh=>by
    obtain⟨⟨oi,oj,hoi,hoj,hap⟩,hal⟩:=hp i (by simp)
    obtain⟨h1,h2,h3⟩:=Oper.apart_spec hap
    have hseli:∀cs b,oi.op≠.select cs b:=fun cs b=>Region.noSelect_spec hs i oi cs b hoi
    have hselj:∀cs b,oj.op≠.select cs b:=fun cs b=>Region.noSelect_spec hs j oj cs b hoj
    have same:∀(a':Act),y1s a oj a'→execOp a'.eval oi=execOp a.eval oi∧Region.wanted oi (yielded ops a'.tmps)=Region.wanted oi (yielded ops a.tmps):=by
      rintro a' ⟨x,rfl|⟨d,rfl⟩⟩
      · exact⟨execOp_put oi hseli a oj.dst x h3,wanted_put oi a oj.dst x h3⟩
      · exact⟨execOp_put oi hseli _ oj.dst x h3,wanted_put oi _ oj.dst x h3⟩
    have IH:=fun a h hf=>xb6 (Q:=Q) (post:=post) hs pre a h hf (fun k hk=>hp k (by simp [hk]))
    simp only[List.cons_append,wpC]at hh ⊢
    unfold zr8 at hh
    simp only[hoi]at hh
    by_cases hw:Region.wanted oi (yielded ops a.tmps)=true
    · simp only[hw,if_true]at hh
      split at hh
      · rename_i hki
        obtain⟨u,hu,hK⟩:=hh
        refine z73 hoj hselj h1 h2 (IH _ _ hfin hK) fun a' h' haf ht hrest=>?_
        obtain⟨e1,e2⟩:=same a' haf
        try simp only[wpC]
        unfold zr8
        simp only[hoi,e2,hw,if_true,hki]
        exact⟨u,fun w' hw'=>by rw[e1];exact hu w' (.inl rfl),hrest⟩
      · rename_i hki
        obtain⟨u,hu,hK⟩:=hh
        refine z73 hoj hselj h1 h2 (IH _ _ hfin hK) fun a' h' haf ht hrest=>?_
        obtain⟨e1,e2⟩:=same a' haf
        try simp only[wpC]
        unfold zr8
        simp only[hoi,e2,hw,if_true,hki]
        have hext:Ext h h':=by
          rcases ht with rfl|ht
          · exact Ext.refl _
          · rw[hki]at hal
            generalize kd j=kj at *
            simp only[y0L,Bool.or_eq_true,Bool.and_eq_true,beq_iff_eq]at hal
            rcases hal with((hk|hk)|hk)|⟨hk,hkp⟩<;>subst hk<;>simp only[Turn]at ht
            · subst ht;exact Ext.refl _
            · subst ht;exact Ext.refl _
            · obtain⟨b,O,hb,rfl⟩:=ht;exact Ext.upd hb O
            · exact ht hkp
        refine⟨u,?_,hrest⟩
        have:=hu.ext (.inr hext)
        exact fun w' hw'=>by rw[e1];exact this w' hw'
      · rename_i hki
        obtain⟨s,O,hm,hK⟩:=hh
        have hmi:∀a',y1s a oj a'→Mkr P oi a' s O:=fun a' haf w=>by rw[(same a' haf).1];exact hm w
        have ih:=fun b hb=>IH _ _ (hfin.upd b O) (hK b hb)
        have wmk:∀a' h',y1s a oj a'→(∀b,h' b=none→wpC P ops kd kp Q (pre++post) (a'.put oi.dst (mkV s b)) (upd h' b O))→wpC P ops kd kp Q (i :: (pre++post)) a' h':=by
          intro a' h' haf hall
          try simp only[wpC]
          unfold zr8
          simp only[hoi,(same a' haf).2,hw,if_true,hki]
          exact⟨s,O,hmi a' haf,hall⟩
        obtain⟨b0,hb0,_⟩:=hfin.fresh 0
        have ih0:=ih b0 hb0
        rw[hki]at hal
        unfold zr8 at ih ih0 ⊢
        simp only[hoj,wanted_put oj a oi.dst _ h1]at ih ih0 ⊢
        by_cases hwj:Region.wanted oj (yielded ops a.tmps)=true
        · simp only[hwj,if_true]at ih ih0 ⊢
          have hkj:kd j=0∨kd j=3∨kd j=4:=by
            simp only[y0L,Bool.or_eq_true,beq_iff_eq]at hal
            rcases hal with(hk|hk)|hk
            · exact .inl hk
            · exact .inr (.inl hk)
            · exact .inr (.inr hk)
          rcases hkj with hkj|hkj|hkj<;>simp only[hkj]at ih ih0 ⊢
          · obtain⟨v,hv,_⟩:=ih0
            refine⟨v,fun w hw'=>?_,wmk _ _ ⟨v,.inl rfl⟩ fun b hb=>?_⟩
            · have:=hv w (.inl rfl);rwa [execOp_put oj hselj a oi.dst _ h1]at this
            · obtain⟨v',hv',hK'⟩:=ih b hb
              have e1:=hv default (.inl rfl)
              have e2:=hv' default (.inl rfl)
              rw[execOp_put oj hselj a oi.dst _ h1]at e1 e2
              have:v'=v:=by rw[e1]at e2;injection e2 with e2;injection e2 with e2;exact e2.symm
              subst this
              rw[← Act.put_comm a _ _ h2];exact hK'
          · obtain⟨s',O',hm',_⟩:=ih0
            have hm'':Mkr P oj a s' O':=fun w=>by have:=hm' w;rwa [execOp_put oj hselj a oi.dst _ h1]at this
            refine⟨s',O',hm'',fun b' hb'=>wmk _ _ ⟨_,.inl rfl⟩ fun b hb=>?_⟩
            have hne:b≠b':=by rintro rfl;simp at hb
            have hb2:h b=none:=by rw[Y7 _ _ hne]at hb;exact hb
            obtain⟨s2,O2,hm2,hK2⟩:=ih b hb2
            have hm2':Mkr P oj a s2 O2:=fun w=>by have:=hm2 w;rwa [execOp_put oj hselj a oi.dst _ h1]at this
            obtain⟨rfl,rfl⟩:=hm2'.det hm''
            have:=hK2 b' (by rw[Y7 _ _ (Ne.symm hne)];exact hb')
            rw[yM5 _ _ _ hne,Act.put_comm a _ _ h2]at this
            exact this
          · obtain⟨blk,off,vs,h0,hst,hwr,_⟩:=ih0
            have hst':=hst.of_put h1
            have hne0:blk≠b0:=by
              rintro rfl
              obtain⟨b1,hb1,hge⟩:=hfin.fresh (blk+1)
              obtain⟨blk1,off1,vs1,h1',hst1,hwr1,_⟩:=ih b1 hb1
              obtain⟨rfl,rfl,rfl⟩:=(hst1.of_put h1).det hst'
              have:=(z70 hwr1).1
              rw[Y7 _ _ (by omega),hb0]at this
              cases this
            have hblk:(h blk).isSome=true:=by have:=(z70 hwr).1;rwa [Y7 _ _ hne0]at this
            rw[y1p O hne0]at hwr
            obtain⟨h',hwr',_⟩:=Option.map_eq_some_iff.1 hwr
            refine⟨blk,off,vs,h',hst',hwr',wmk _ _ ⟨_,.inl rfl⟩ fun b hb=>?_⟩
            have hb2:h b=none:=by
              unfold wr at hwr'
              split at hwr'
              · split at hwr'
                · cases hwr'
                  by_cases hbb:b=blk
                  · subst hbb;simp at hb
                  · rwa [Y7 _ _ hbb]at hb
                · cases hwr'
              · cases hwr'
            have hneb:blk≠b:=by rintro rfl;rw[hb2]at hblk;cases hblk
            obtain⟨blk1,off1,vs1,h1',hst1,hwr1,hK1⟩:=ih b hb2
            obtain⟨rfl,rfl,rfl⟩:=(hst1.of_put h1).det hst'
            rw[y1p O hneb,hwr']at hwr1
            simp only[Option.map_some,Option.some.injEq]at hwr1
            subst hwr1
            rw[← Act.put_comm a _ _ h2];exact hK1
        · simp only[hwj,if_false,Bool.false_eq_true]at ih ⊢
          refine wmk _ _ ⟨_,.inl rfl⟩ fun b hb=>?_
          rw[← Act.put_comm a _ _ h2];exact ih b hb
      · rename_i hki
        obtain⟨blk,off,vs,h1',hst,hwr,hK⟩:=hh
        have ih:=IH _ _ ((z70 hwr).2.2 hfin) hK
        have hblk:=(z70 hwr).1
        have wst:∀a' h' h'',y1s a oj a'→wr h' blk off vs=some h''→wpC P ops kd kp Q (pre++post) (a'.put oi.dst undef) h''→wpC P ops kd kp Q (i :: (pre++post)) a' h':=by
          intro a' h' h'' haf hwr' hK'
          try simp only[wpC]
          unfold zr8
          simp only[hoi,(same a' haf).2,hw,if_true,hki]
          refine⟨blk,off,vs,h'',?_,hwr',hK'⟩
          obtain⟨x,rfl|⟨d,rfl⟩⟩:=haf
          · exact hst.put h3
          · exact Str.put (a:={a with defers:=d :: a.defers}) h3 hst
        rw[hki]at hal
        unfold zr8 at ih ⊢
        simp only[hoj,wanted_put oj a oi.dst _ h1]at ih ⊢
        by_cases hwj:Region.wanted oj (yielded ops a.tmps)=true
        · simp only[hwj,if_true]at ih ⊢
          have hkj:kd j=0∨kd j=3:=by
            simp only[y0L,Bool.or_eq_true,beq_iff_eq]at hal
            exact hal
          rcases hkj with hkj|hkj<;>simp only[hkj]at ih ⊢
          · obtain⟨v,hv,hK'⟩:=ih
            refine⟨v,fun w hw'=>?_,wst _ _ _ ⟨v,.inl rfl⟩ hwr ?_⟩
            · have:=hv w (.inl rfl);rwa [execOp_put oj hselj a oi.dst _ h1]at this
            · rw[← Act.put_comm a _ _ h2];exact hK'
          · obtain⟨s',O',hm',hK'⟩:=ih
            refine⟨s',O',fun w=>by have:=hm' w;rwa [execOp_put oj hselj a oi.dst _ h1]at this,fun b hb=>wst _ _ (upd h1' b O') ⟨_,.inl rfl⟩ ?_ ?_⟩
            · rw[y1p O' (by rintro rfl;rw[hb]at hblk;cases hblk),hwr];rfl
            · rw[← Act.put_comm a _ _ h2];exact hK' b ((z70 hwr).2.1 b hb)
        · simp only[hwj,if_false,Bool.false_eq_true]at ih ⊢
          refine wst _ _ _ ⟨_,.inl rfl⟩ hwr ?_
          rw[← Act.put_comm a _ _ h2];exact ih
      · rename_i n0 n1 n3 n4
        exfalso
        unfold y0L at hal
        split at hal<;>first|contradiction|cases hal
    · simp only[hw,if_false,Bool.false_eq_true]at hh
      refine z73 hoj hselj h1 h2 (IH _ _ hfin hh) fun a' h' haf ht hrest=>?_
      try simp only[wpC]
      unfold zr8
      simp only[hoi,(same a' haf).2,hw,if_false,Bool.false_eq_true]
      exact hrest
theorem y1t{bm:List Nat}{ex:List (Nat×Nat)}(hbm:∀j i,(bm.getD j 0).testBit i=true→Dep ops ex j i)(hs:Region.noSelect ops=true){w0:World}{Q:Act→Heap→Prop}:
    ∀(l:List Nat) (τ:List Nat) (listed:Array Bool) (a:Act) (w:World),y0K ops l.length listed τ→ExOk ex listed τ→Rest w0 w→listed.size=ops.size→(∀i,i<ops.size→(listed.getD i false=false↔i∈l))→(∀i∈l,i<ops.size) →
    (∀pre i post,l=pre++i :: post→(∀o,ops[i]?=some o→∀e∈o.after,Region.binds .any e=true→e.on<ops.size∧e.on ∉ i :: post)) →
    y6P ops ex listed→z1B ops bm kd kp l=true→wpC P ops kd kp Q l a (hp w)→wpOpsIn Fence.wide 1 P ops (fun e a w'=>e=.normal∧Rest w0 w'∧Q a (hp w')) τ a w:=by
  intro l
  generalize hn:l.length=n
  induction n generalizing l with
  | zero =>
    intro τ listed a w hsch hex hrest hsz hl hlt hdep hcl hok h
    have:l=[]:=List.eq_nil_of_length_eq_zero hn
    subst this
    have:τ=[]:=hsch
    subst this
    exact⟨rfl,hrest,h⟩
  | succ n ih =>
    intro τ listed a w hsch hex hrest hsz hl hlt hdep hcl hok h
    rcases hsch with⟨rfl,hr⟩|⟨j,τ',rfl,hj,hsch⟩
    · exfalso
      cases l with
      | nil=>simp at hn
      | cons i l =>
        have his:i<ops.size:=hlt i (by simp)
        have hi0:listed.getD i false=false:=(hl i his).2 (by simp)
        have:i∈Region.ready .any ops listed:=by
          rw[mem_ready]
          have hisz:i<listed.size:=by omega
          refine⟨by simpa [hisz]using hi0,ops[i],by simp [his],fun e he hb=>?_⟩
          have hd:=hdep [] i l rfl ops[i] (by simp [his]) e he hb
          cases hg:listed.getD e.on false with
          | true=>rfl
          | false=>exact absurd ((hl e.on hd.1).1 hg) hd.2
        rw[hr]at this
        cases this
    · obtain⟨h0,o,ho,hall⟩:=mem_ready.1 hj
      have hjs:=(Array.getElem?_eq_some_iff.1 ho).1
      have hjl:=(hl j hjs).1 (by simpa [hsz,hjs]using h0)
      have hbeh:y1r ops ex listed j:=by
        refine⟨fun o' ho' e he hb=>?_,fun i hi=>?_⟩
        · have:o'=o:=by rw[ho]at ho';exact(Option.some.inj ho').symm
          subst this;exact hall e he hb
        · rcases hex i j hi [] τ' rfl with h|h
          · exact h
          · cases h
      obtain⟨pre,post,rfl⟩:=List.append_of_mem hjl
      obtain⟨hp,hok',hnot⟩:=zD2 hok
      have hfront:=xb6 (P:=P) (Q:=Q) (post:=post) hs pre a _ (Fin.hp w) (fun i hi=>?_) h
      · rw[wpOpsIn_cons]
        refine wpOpIn_mono (fun a' w' h'=>?_) (z23 hfront)
        obtain⟨hr',h'⟩:=h'
        refine ih (pre++post) (by simp at hn ⊢;omega) τ' _ a' w' hsch ?_ (hrest.trans hr') (by simpa using hsz) (fun i hi=>?_) (fun i hi=>hlt i (by simp at hi ⊢;rcases hi with hi|hi;exact .inl hi;exact .inr (.inr hi))) ?_ ?_ hok' h'
        · intro p q hpq t1 t2 ht
          rcases hex p q hpq (j :: t1) t2 (by rw[ht];rfl)with h|h
          · exact .inl (getD_set_true h)
          · rcases List.mem_cons.1 h with rfl|h
            · exact .inl (by
                have hjsz:p<listed.size:=by omega
                simp [hjsz])
            · exact .inr h
        · by_cases hij:i=j
          · subst hij
            have hisz:i<listed.size:=by omega
            simp [hisz,hnot]
          · have hset : (listed.setIfInBounds j true).getD i false = listed.getD i false := by
              simp [Array.getElem?_setIfInBounds_ne (Ne.symm hij)]
            rw[hset,hl i hi]
            simp [hij]
        · intro pre' i post' heq o' ho' e he hb
          have hmem:i∈pre++post:=by rw[heq];simp
          have hiN:i≠j:=fun hh=>hnot (hh▸hmem)
          have hin:i∈pre++j :: post:=by simp at hmem ⊢;rcases hmem with hh|hh;exact .inl hh;exact .inr (.inr hh)
          obtain⟨p1,p2,hpp⟩:=List.append_of_mem hin
          have hd:=hdep p1 i p2 hpp o' ho' e he hb
          refine⟨hd.1,fun hm=>?_⟩
          have hsub:e.on∈i :: post'→e.on∈i :: p2:=by
            intro hm'
            rcases List.mem_cons.1 hm' with rfl|hm'
            · simp
            · have hnd1:z1B ops bm kd kp (p1++i :: p2)=true:=hpp▸hok
              have hnd2:z1B ops bm kd kp (pre'++i :: post')=true:=heq▸hok'
              have hi1:=(zD2 hnd1).2.2
              have hi2:=(zD2 hnd2).2.2
              have herase:(p1++i :: p2).erase j=pre'++i :: post':=by
                rw[← hpp,← heq]
                have hjpre:j ∉ pre:=fun hh=>hnot (by simp [hh])
                rw[List.erase_append_right _ hjpre]
                simp
              have hi2':i ∉ pre':=fun hh=>hi2 (by simp [hh])
              by_cases hj1:j∈p1
              · rw[List.erase_append_left _ hj1]at herase
                have hi1':i ∉ p1.erase j:=fun hh=>hi1 (by simp [List.mem_of_mem_erase hh])
                rcases List.append_eq_append_iff.1 herase with⟨as,e1,e2⟩|⟨bs,e1,e2⟩
                · cases as with
                  | nil=>simp at e2;simp [← e2]at hm' ⊢;exact .inr hm'
                  | cons x xs=>simp at e2;exact absurd (by rw[e1,← e2.1];simp) hi2'
                · cases bs with
                  | nil=>simp at e2;simp [e2]at hm' ⊢;exact .inr hm'
                  | cons x xs=>simp at e2;exact absurd (by rw[e1,← e2.1];simp) hi1'
              · rw[List.erase_append_right _ hj1,List.erase_cons_tail (by simpa using hiN)]at herase
                have hi1':i ∉ p1:=fun hh=>hi1 (by simp [hh])
                rcases List.append_eq_append_iff.1 herase with⟨as,e1,e2⟩|⟨bs,e1,e2⟩
                · cases as with
                  | nil=>simp at e2;exact List.mem_cons_of_mem _ (List.mem_of_mem_erase (e2▸hm'))
                  | cons x xs=>simp at e2;exact absurd (by rw[e1,← e2.1];simp) hi2'
                · cases bs with
                  | nil=>simp at e2;exact List.mem_cons_of_mem _ (List.mem_of_mem_erase (e2▸hm'))
                  | cons x xs=>simp at e2;exact absurd (by rw[e1,← e2.1];simp) hi1'
          exact hd.2 (hsub hm)
        · intro k hk
          by_cases hkj:k=j
          · subst hkj
            exact⟨fun o' ho' e he hb=>getD_set_true (hbeh.1 o' ho' e he hb),fun i hi=>getD_set_true (hbeh.2 i hi)⟩
          · have hset : (listed.setIfInBounds j true).getD k false = listed.getD k false := by
              simp [Array.getElem?_setIfInBounds_ne (Ne.symm hkj)]
            rw[hset]at hk
            have:=hcl k hk
            exact⟨fun o' ho' e he hb=>getD_set_true (this.1 o' ho' e he hb),fun i hi=>getD_set_true (this.2 i hi)⟩
      · obtain⟨hpair,hne⟩:=hp i hi
        have hil:i∈pre++j :: post:=by simp [hi]
        have hi0:listed.getD i false=false:=(hl i (hlt i hil)).2 hil
        unfold yM6 at hpair
        simp only[Bool.or_eq_true,Bool.and_eq_true]at hpair
        rcases hpair with hpair|⟨hal,hap⟩
        · have:=y0I hcl (hbm _ _ hpair) hbeh
          rw[hi0]at this;cases this
        · refine⟨?_,hal⟩
          split at hap
          · rename_i x y hx hy;exact⟨x,y,hx,hy,hap⟩
          · cases hap
def yM7(ops:Array Oper):List Nat→Bool
  | []=>true
  | i :: post => (match ops[i]? with
      | some o=>o.after.toList.all fun e=>!Region.binds .any e || (decide (e.on<ops.size) && !((i :: post).contains e.on))
      | none=>false) && yM7 ops post
theorem z74:∀{l:List Nat},yM7 ops l=true→∀pre i post,l=pre++i :: post→∀o,ops[i]?=some o→∀e∈o.after,Region.binds .any e=true→e.on<ops.size∧e.on ∉ i :: post
 | [],_,pre,i,post,h=>by simp at h
 | x :: l,hd,pre,i,post,h=>by
  simp only[yM7,Bool.and_eq_true]at hd
  cases pre with
  | nil =>
   simp at h
   obtain⟨rfl,rfl⟩:=h
   intro o ho e he hb
   have h1:=hd.1
   simp only[ho,List.all_eq_true,Bool.or_eq_true,Bool.not_eq_true',Bool.and_eq_true,decide_eq_true_eq]at h1
   rcases h1 e (by simpa using he)with h2|⟨h2,h3⟩
   ·rw[hb]at h2;cases h2
   ·refine⟨h2,fun hm=>?_⟩
    have:(x :: l).contains e.on=true:=by simpa using hm
    rw[this]at h3;cases h3
  | cons p pre =>
   simp at h
   exact z74 hd.2 pre i post h.2
def yF9(ops:Array Oper)(ex:List (Nat×Nat))(kd:Nat→Nat)(kp:Nat→Bool)(l:List Nat):Bool :=
 Region.noSelect ops && yM7 ops l && z1B ops (y5I ex [] ops.toList) kd kp l && (List.range ops.size).all (fun i=>l.contains i) && l.all (fun i=>decide (i<ops.size)) && l.length == ops.size
def z75(P:Program)(ops:Array Oper)(Q:Act→Heap→Prop)(ex:List (Nat×Nat))(a:Act)(w:World):Prop :=
 ∀τ,y0K ops ops.size (Array.replicate ops.size false) τ→ExOk ex (Array.replicate ops.size false) τ→∀w',Rest w w'→hp w'=hp w→wpOpsIn Fence.wide 1 P ops (fun e a w'=>e=.normal∧Rest w w'∧Q a (hp w')) τ a w'
theorem ys9{ex:List (Nat×Nat)}{l:List Nat}{Q:Act→Heap→Prop}{a:Act}{w:World}(hc:yF9 ops ex kd kp l=true)(h:wpC P ops kd kp Q l a (hp w)):z75 P ops Q ex a w:=by
 simp only[yF9,Bool.and_eq_true,List.all_eq_true,List.mem_range,decide_eq_true_eq,beq_iff_eq]at hc
 obtain⟨⟨⟨⟨⟨h1,h2⟩,h3⟩,h4⟩,h5⟩,h6⟩:=hc
 intro τ hsch hex w' hr hh
 refine y1t (fun _ _=>y0J) h1 (w0:=w) l τ _ a w' (by rw[h6];exact hsch) hex hr (by simp) (fun i hi=>?_) h5 (z74 h2) ?_ h3 (by rw[hh];exact h)
 ·have:=h4 i hi
  simp [hi]
  simpa using this
 ·intro j hj
  simp [Array.getElem?_replicate]at hj
  split at hj<;>simp at hj
theorem yt0{ex:List (Nat×Nat)}{p q:Nat}{Q:Act→Heap→Prop}{a:Act}{w:World}(hne:p≠q)(h1:z75 P ops Q ((p,q) :: ex) a w)(h2:z75 P ops Q ((q,p) :: ex) a w):z75 P ops Q ex a w:=by
 intro τ hsch hex w' hr hh
 rcases y8T hne hex with h|h
 ·exact h1 τ hsch h w' hr hh
 ·exact h2 τ hsch h w' hr hh
theorem y1u{id:Nat}{Q:Act→Heap→Prop}{a:Act}{w:World}(hm:P.follows .mixedOrders=true)(h:z75 P ops Q [] a w):
    (Code.region id ops true).wp P (fun e a w'=>e=.normal∧Rest w w'∧Q a (hp w')) a w:=by
  refine(wpIn_wide (n:=1)).1 (wpIn_region_draw fun t=>?_)
  simp only[Region.schedule,hm,Bool.true_or,if_true]
  exact h _ (z72 _ _ _) (fun p q hpq=>by cases hpq) _ ⟨rfl,rfl,rfl⟩ rfl
theorem zZ0{w0:World}{Q:Act→Heap→Prop}:∀(l:List Nat) (a:Act) (w:World),Rest w0 w→wpC P ops kd kp Q l a (hp w)→wpOpsIn Fence.wide 1 P ops (fun e a w'=>e=.normal∧Rest w0 w'∧Q a (hp w')) l a w
 | [],_,_,hr,h=>⟨rfl,hr,h⟩
 | i :: l,a,w,hr,h=>by
  rw[wpOpsIn_cons]
  exact wpOpIn_mono (fun a w' h=>zZ0 l a w' (hr.trans h.1) h.2) (z23 h)
theorem y5J{id:Nat}{Q:Act→Heap→Prop}{a:Act}{w:World}(h:wpC P ops kd kp Q (List.range ops.size) a (hp w)):
    (Code.region id ops false).wp P (fun e a w'=>e=.normal∧Rest w w'∧Q a (hp w')) a w:=(wpIn_wide (n:=1)).1 (wpIn_region (zZ0 _ a w (Rest.refl w) h))
end
end Go.Lft
