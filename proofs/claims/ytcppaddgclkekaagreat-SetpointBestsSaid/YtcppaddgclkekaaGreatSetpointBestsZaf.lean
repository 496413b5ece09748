/- Lemmas and walks that the proof of SetpointBests uses. No statement is claimed here. -/
import Derived.Test.YtcppaddgclkekaaGreatSetpointBestsZae
import Derived.Below
namespace Go.Lft
open Go
set_option linter.unusedSimpArgs false
set_option linter.unusedVariables false
theorem y1O{h0 h:Heap}(he:Ext h0 h){b:Nat}(hb:h0 b=none)(o:Obj):Ext h0 (upd h b o):=fun k p hk=>by
 rw[Y7 _ _ (by rintro rfl;rw[hb]at hk;cases hk)];exact he k p hk
theorem z1a{h:Heap}{b:Nat}{o:Obj}(hb:h b=some o):upd h b o=h:=by
 funext k;simp only[upd];split
 ·rename_i hk;rw[hk,hb]
 ·rfl
theorem y89{h:Heap}{b:Nat}(hb:h b=none)(o:Obj):Ext h (upd h b o):=fun k p hk=>by
 rw[Y7 _ _ (by rintro rfl;rw[hb]at hk;cases hk)];exact hk
structure Sl(h:Heap)(k:Nat)(v:Value)(n:Nat)(f:Nat→List Value):Prop where
 shape:(n=0∧∃a c,v=.slice a 0 c)∨∃b o c,v=.slice (some ⟨b,o,none⟩) n c∧n≤c∧∀i,i<n→rd h b (o+i*k) k=some (f i)
theorem yg7{c:Array Value}{o:Nat}{vs:List Value}(ho:o+vs.length≤c.size):(zD1 c o vs).toList=c.toList.take o++vs++c.toList.drop (o+vs.length):=by
 apply List.ext_getElem?
 intro i
 rw[Array.getElem?_toList,z5b vs c o i ho]
 have hl:(c.toList.take o).length=o:=by simp;omega
 by_cases h1:o≤i
 ·by_cases h2:i<o+vs.length
  ·simp only[h1,h2,and_self,if_true]
   rw[List.append_assoc,List.getElem?_append_right (by omega),hl,List.getElem?_append_left (by omega)]
  ·simp only[h1,h2,and_false,if_false]
   rw[List.getElem?_append_right (by simp;omega)]
   simp
   congr 1
   omega
 ·simp only[h1,false_and,if_false]
  rw[List.append_assoc,List.getElem?_append_left (by omega)]
  simp [List.getElem?_take]
  omega
theorem y64{h:Heap}{t b o:Nat}{l vs:List Value}(hb:h b=some (.cells l.toArray t))(ho:o+vs.length≤l.length)(h1:vs.all one=true):wr h b o vs=some (upd h b (.cells (l.take o++vs++l.drop (o+vs.length)).toArray t)):=by
 unfold wr
 rw[hb]
 simp only
 rw[if_pos ⟨by simpa using ho,h1⟩]
 congr 3
 apply Array.ext'
 rw[yg7 (by simpa using ho)]
theorem y5O{w w':World}(he:Ext (hp w) (hp w'))(hr:Rest w w'):Go.RowKit.Below w.heap.size w w':=by
 have hb:∀k,k<w.heap.size→w'.heap[k]?=w.heap[k]?:=fun k hk=>by
  have h1:hp w k=some (w.heap[k]):=by simp [hp,hk]
  have h2:=he k _ h1
  have h3:w'.heap[k]?=some (w.heap[k]):=h2
  rw[h3];simp [hk]
 refine⟨hr.1,hr.2.1,hr.2.2,?_,hb⟩
 rcases Nat.lt_or_ge w'.heap.size w.heap.size with h|h
 ·have:=hb w'.heap.size h
  simp [h]at this
 ·exact h
theorem xf6{P:Program}{f:Nat}{args:List Value}{w:World}(hr:Runs P f args (hp w) fun r h'=>r=.bool true∧Ext (hp w) h'):
    Calls P f args.toArray w fun e w'=>e=.returned (.bool true)∧Go.RowKit.Below w.heap.size w w' :=
  (hr w rfl).mono fun e w' ⟨v,h1,h2,h3⟩=>⟨by rw[h1,h2.1],y5O h2.2 h3⟩
def vb:Value→Option Nat
 | .slice (some ⟨b,_,_⟩) _ _=>some b
 | _=>none
@[simp] theorem xB2 (n c:Nat):vb (.slice none n c)=none:=rfl
@[simp] theorem xz5 (b o n c:Nat):vb (.slice (some ⟨b,o,none⟩) n c)=some b:=rfl
theorem Sl.cells{h:Heap}{k:Nat}{v:Value}{n:Nat}{f:Nat→List Value}{cs:List Value}(hs:Sl h k v n f)(hl:cs.length=n*k)(hf:∀i,i<n→(cs.drop (i*k)).take k=f i):cellsOf h k n v=some cs:=by
 unfold cellsOf
 split
 ·rename_i h0
  have:cs=[]:=by rw[h0]at hl;simpa using hl
  subst this
  rcases hs.shape with⟨rfl,a,c,rfl⟩|⟨b,o,c,rfl,_,h3⟩<;>rfl
 ·rename_i h0
  have hk:0<k:=Nat.pos_of_ne_zero fun h=>h0 (by simp [h])
  have hn:0<n:=Nat.pos_of_ne_zero fun h=>h0 (by simp [h])
  rcases hs.shape with⟨rfl,a,c,rfl⟩|⟨b,o,c,rfl,_,h3⟩
  ·omega
  ·simp only
   have hblk:∃a t f,h b=some (.cells a t f):=by
    have:=h3 0 hn
    unfold rd at this
    split at this
    ·rename_i a t f hh;exact⟨a,t,f,hh⟩
    ·cases this
   obtain⟨a,t,fm,hb⟩:=hblk
   have hget:∀i,i<n→o+i*k+k≤a.size∧(a.toList.drop (o+i*k)).take k=f i:=by
    intro i hi
    have:=h3 i hi
    unfold rd at this
    rw[hb]at this
    simp only at this
    split at this
    ·rename_i hle;exact⟨hle,Option.some.inj this⟩
    ·cases this
   have hsz:o+n*k≤a.size:=by
    have:=(hget (n-1) (by omega)).1
    have:(n-1)*k+k=n*k:=by rw[← Nat.succ_mul];congr 1;omega
    omega
   unfold rd
   rw[hb]
   simp only
   rw[if_pos hsz]
   congr 1
   apply List.ext_getElem?
   intro j
   by_cases hj:j<n*k
   ·have hq:j / k<n:=(Nat.div_lt_iff_lt_mul hk).2 hj
    have hjk:j=j / k*k+j % k:=by rw[Nat.mul_comm];exact(Nat.div_add_mod j k).symm
    have hm:=Nat.mod_lt j hk
    have e1:=(hget _ hq).2
    rw[← hf _ hq]at e1
    have e2:=congrArg (·[j % k]?) e1
    simp only[List.getElem?_take,hm,if_true,List.getElem?_drop]at e2
    rw[List.getElem?_take,if_pos hj,List.getElem?_drop]
    rw[show o+j=o+j / k*k+j % k by omega,e2,← hjk]
   ·rw[List.getElem?_eq_none (by simp;omega),List.getElem?_eq_none (by omega)]
end Go.Lft
namespace Go.Lft
open Go
set_option linter.unusedVariables false
inductive A where
 | any
 | v (x:Value)
 | agg (l:List A)
 | tup (l:List A)
 | fn (f:Nat) (caps:List A)
 | fs (w:Bool) (l:List A)
 | fp (w:Bool) (l:List A)
 | sl (i ver k o n:Nat)
 | lp (i ver o:Nat)
 | vs (i ver k n:Nat)
instance:Inhabited A:=⟨.any⟩
def A.one:A→Bool
 | .any=>false
 | .v x=>Lft.one x
 | .agg _=>false
 | .tup _=>false
 | .fn _ _=>true
 | .fs _ _=>true
 | .fp _ _=>true
 | .sl _ _ _ _ _=>true
 | .lp _ _ _=>true
 | .vs _ _ _ _=>true
def A.cells:A→Option (List A)
 | .agg l=>if l.all A.one then some l else none
 | a=>if a.one then some [a]else none
structure Blk where
 ver:Nat
 cells:List A
abbrev Nam:=Nat→Nat→Option (Option (Nat×Nat))
inductive Rel(g:Bool→Heap)(σ:Nam):A→Value→Prop
  | any (x:Value):Rel g σ .any x
  | v (x:Value):Rel g σ (.v x) x
  | agg (l:List A) (vs:List Value) (hl:l.length=vs.length) (hr:∀(i:Nat) (a:A) (x:Value),l[i]?=some a→vs[i]?=some x→Rel g σ a x):Rel g σ (.agg l) (.agg vs.toArray)
  | tup (l:List A) (vs:List Value) (hl:l.length=vs.length) (hr:∀(i:Nat) (a:A) (x:Value),l[i]?=some a→vs[i]?=some x→Rel g σ a x):Rel g σ (.tup l) (.tuple vs.toArray)
  | fn (f:Nat) (l:List A) (vs:List Value) (hl:l.length=vs.length) (hr:∀(i:Nat) (a:A) (x:Value),l[i]?=some a→vs[i]?=some x→Rel g σ a x):Rel g σ (.fn f l) (.func (.func f) #[] vs.toArray)
  | fs0 (w:Bool) (a:Option Addr) (c:Nat):Rel g σ (.fs w []) (.slice a 0 c)
  | fs (w : Bool) (l : List A) (b o c k : Nat) (f : Nat → List Value) (hc : l.length ≤ c)
      (hl:∀(i:Nat) (a:A),l[i]?=some a→∃cs,a.cells=some cs∧cs.length=k∧rd (g w) b (o+i*k) k=some (f i))
      (hr:∀(i:Nat) (a:A) (cs:List A) (j:Nat) (q:A) (x:Value),l[i]?=some a→a.cells=some cs→cs[j]?=some q→(f i)[j]?=some x→Rel g σ q x) :
      Rel g σ (.fs w l) (.slice (some ⟨b,o,none⟩) l.length c)
  | fp (w:Bool) (l:List A) (b o:Nat) (vs:List Value) (hd:rd (g w) b o l.length=some vs) (hr:∀(i:Nat) (a:A) (x:Value),l[i]?=some a→vs[i]?=some x→Rel g σ a x):Rel g σ (.fp w l) (.pointer (some ⟨b,o,none⟩))
  | sl (i ver k o n b s o' c:Nat) (hs:σ i ver=some (some (b,s))) (hn:n≤c) (ho:0<c→o'=o∧o+c*k≤s):Rel g σ (.sl i ver k o n) (.slice (some ⟨b,o',none⟩) n c)
  | lp (i ver o b s:Nat) (hs:σ i ver=some (some (b,s))):Rel g σ (.lp i ver o) (.pointer (some ⟨b,o,none⟩))
  | vs0 (i ver k:Nat) (hs:σ i ver=some none):Rel g σ (.vs i ver k 0) (.slice none 0 0)
  | vs (i ver k n b s o' c:Nat) (hs:σ i ver=some (some (b,s))) (hn:n≤c) (ho:0<c→o'=0∧c*k≤s):Rel g σ (.vs i ver k n) (.slice (some ⟨b,o',none⟩) n c)
def RL(g:Bool→Heap)(σ:Nam)(l:List A)(vs:List Value):Prop:=l.length=vs.length∧∀(i:Nat) (a:A) (x:Value),l[i]?=some a→vs[i]?=some x→Rel g σ a x
theorem RL.nil{g:Bool→Heap}{σ:Nam}:RL g σ [] []:=⟨rfl,fun i a x h=>by simp at h⟩
theorem RL.cons{g:Bool→Heap}{σ:Nam}{a:A}{l:List A}{x:Value}{vs:List Value}(h:Rel g σ a x)(hl:RL g σ l vs):RL g σ (a :: l) (x :: vs) :=
 ⟨by simp [hl.1],fun i b y h1 h2=>by
  cases i with
  | zero=>simp at h1 h2;subst h1;subst h2;exact h
  | succ i=>simp at h1 h2;exact hl.2 i b y h1 h2⟩
theorem RL.uncons{g:Bool→Heap}{σ:Nam}{a:A}{l:List A}{vs:List Value}(h:RL g σ (a :: l) vs):∃x xs,vs=x :: xs∧Rel g σ a x∧RL g σ l xs:=by
 cases vs with
 | nil=>have:=h.1;simp at this
 | cons x xs=>exact⟨x,xs,rfl,h.2 0 a x (by simp) (by simp),by simpa using h.1,fun i b y h1 h2=>h.2 (i+1) b y (by simpa using h1) (by simpa using h2)⟩
theorem RL.nil_inv{g:Bool→Heap}{σ:Nam}{vs:List Value}(h:RL g σ [] vs):vs=[]:=by
 have:=h.1;cases vs<;>simp at this ⊢
theorem RL.get{g:Bool→Heap}{σ:Nam}{l:List A}{vs:List Value}(h:RL g σ l vs){i:Nat}{a:A}(ha:l[i]?=some a):∃x,vs[i]?=some x∧Rel g σ a x:=by
 have hi:i<l.length:=(List.getElem?_eq_some_iff.1 ha).1
 exact⟨vs[i]'(by have:=h.1;omega),by simp [h.1▸hi],h.2 i a _ ha (by simp [h.1▸hi])⟩
theorem RL.app{g:Bool→Heap}{σ:Nam}{l m:List A}{vs xs:List Value}(h:RL g σ l vs)(h':RL g σ m xs):RL g σ (l++m) (vs++xs) :=
 ⟨by simp [h.1,h'.1],fun i a x h1 h2=>by
  by_cases hi:i<l.length
  ·rw[List.getElem?_append_left hi]at h1
   rw[List.getElem?_append_left (by rw[← h.1];exact hi)]at h2
   exact h.2 i a x h1 h2
  ·rw[List.getElem?_append_right (by omega)]at h1
   rw[List.getElem?_append_right (by rw[← h.1];omega),← h.1]at h2
   exact h'.2 _ a x h1 h2⟩
theorem RL.take{g:Bool→Heap}{σ:Nam}{l:List A}{vs:List Value}(h:RL g σ l vs)(n:Nat):RL g σ (l.take n) (vs.take n) :=
 ⟨by simp [h.1],fun i a x h1 h2=>by
  rw[List.getElem?_take]at h1 h2
  split at h1
  ·rename_i hi;rw[if_pos hi]at h2;exact h.2 i a x h1 h2
  ·cases h1⟩
theorem RL.drop{g:Bool→Heap}{σ:Nam}{l:List A}{vs:List Value}(h:RL g σ l vs)(n:Nat):RL g σ (l.drop n) (vs.drop n) :=
 ⟨by simp [h.1],fun i a x h1 h2=>by
  rw[List.getElem?_drop]at h1 h2;exact h.2 _ a x h1 h2⟩
theorem RL.set{g:Bool→Heap}{σ:Nam}{l:List A}{vs:List Value}(h:RL g σ l vs)(n:Nat){a:A}{x:Value}(ha:Rel g σ a x):RL g σ (l.set n a) (vs.set n x) :=
 ⟨by simp [h.1],fun i b y h1 h2=>by
  rw[List.getElem?_set]at h1 h2
  split at h1
  ·rename_i hi;rw[if_pos hi]at h2
   split at h1
   ·rename_i hl;rw[if_pos (by have:=h.1;omega)]at h2
    cases h1;cases h2;exact ha
   ·cases h1
  ·rename_i hi;rw[if_neg hi]at h2;exact h.2 i b y h1 h2⟩
theorem Rel.mono{g g':Bool→Heap}{σ σ':Nam}(hg:∀w,Ext (g w) (g' w))(hs:∀i ver p,σ i ver=some p→σ' i ver=some p){a:A}{x:Value}(h:Rel g σ a x):Rel g' σ' a x:=by
 induction h with
 | any x=>exact .any x
 | v x=>exact .v x
 | agg l vs hl hr ih=>exact .agg l vs hl ih
 | tup l vs hl hr ih=>exact .tup l vs hl ih
 | fn f l vs hl hr ih=>exact .fn f l vs hl ih
 | fs0 w a c=>exact .fs0 w a c
 | fs w l b o c k f hc hl hr ih =>
  exact .fs w l b o c k f hc (fun i a ha=>by obtain⟨cs,h1,h2,h3⟩:=hl i a ha;exact⟨cs,h1,h2,zz5 (hg w) h3⟩) ih
 | fp w l b o vs hd hr ih=>exact .fp w l b o vs (zz5 (hg w) hd) ih
 | sl i ver k o n b s o' c hs' hn ho=>exact .sl i ver k o n b s o' c (hs _ _ _ hs') hn ho
 | lp i ver o b s hs'=>exact .lp i ver o b s (hs _ _ _ hs')
 | vs0 i ver k hs'=>exact .vs0 i ver k (hs _ _ _ hs')
 | vs i ver k n b s o' c hs' hn ho=>exact .vs i ver k n b s o' c (hs _ _ _ hs') hn ho
theorem RL.mono{g g':Bool→Heap}{σ σ':Nam}(hg:∀w,Ext (g w) (g' w))(hs:∀i ver p,σ i ver=some p→σ' i ver=some p){l:List A}{vs:List Value}(h:RL g σ l vs):RL g' σ' l vs :=
 ⟨h.1,fun i a x h1 h2=>(h.2 i a x h1 h2).mono hg hs⟩
theorem Rel.one{g:Bool→Heap}{σ:Nam}{a:A}{x:Value}(h:Rel g σ a x)(ha:a.one=true):Lft.one x=true:=by
 cases h<;>first|rfl|exact ha|cases ha
theorem RL.one{g:Bool→Heap}{σ:Nam}{l:List A}{vs:List Value}(h:RL g σ l vs)(ha:l.all A.one=true):vs.all Lft.one=true:=by
 rw[List.all_eq_true]at ha ⊢
 intro x hx
 obtain⟨i,hi,rfl⟩:=List.mem_iff_getElem.1 hx
 have hi':i<l.length:=by rw[h.1];exact hi
 exact(h.2 i l[i] vs[i] (by simp [hi']) (by simp [hi])).one (ha _ (List.getElem_mem hi'))
theorem Rel.cells{g:Bool→Heap}{σ:Nam}{a:A}{x:Value}{cs:List A}(h:Rel g σ a x)(hc:a.cells=some cs):RL g σ cs x.cells.toList∧cs.all A.one=true:=by
 have single:∀{a:A} {x:Value},Rel g σ a x→a.one=true→x.cells=#[x]→cs=[a]→RL g σ cs x.cells.toList∧cs.all A.one=true:=by
  intro a x h1 h2 h3 h4
  rw[h3,h4]
  exact⟨RL.cons h1 RL.nil,by simp [h2]⟩
 cases h with
 | any x=>simp [A.cells,A.one]at hc
 | v x =>
  simp only[A.cells]at hc
  by_cases h1:(A.v x).one=true
  ·rw[if_pos h1]at hc;cases hc
   refine single (.v x) h1 ?_ rfl
   cases x<;>first|rfl|cases h1
  ·rw[if_neg h1]at hc;cases hc
 | agg l vs hl hr =>
  simp only[A.cells]at hc
  split at hc
  ·rename_i h1;cases hc;exact⟨⟨hl,hr⟩,h1⟩
  ·cases hc
 | tup l vs hl hr=>simp [A.cells,A.one]at hc
 | fn f l vs hl hr=>simp [A.cells,A.one]at hc;exact single (.fn f l vs hl hr) rfl rfl hc.symm
 | fs0 w a c=>simp [A.cells,A.one]at hc;exact single (.fs0 w a c) rfl rfl hc.symm
 | fs w l b o c k f h1 h2 h3=>simp [A.cells,A.one]at hc;exact single (.fs w l b o c k f h1 h2 h3) rfl rfl hc.symm
 | fp w l b o vs hd hr=>simp [A.cells,A.one]at hc;exact single (.fp w l b o vs hd hr) rfl rfl hc.symm
 | sl i ver k o n b s o' c h1 h2 h3=>simp [A.cells,A.one]at hc;exact single (.sl i ver k o n b s o' c h1 h2 h3) rfl rfl hc.symm
 | lp i ver o b s h1=>simp [A.cells,A.one]at hc;exact single (.lp i ver o b s h1) rfl rfl hc.symm
 | vs0 i ver k h1=>simp [A.cells,A.one]at hc;exact single (.vs0 i ver k h1) rfl rfl hc.symm
 | vs i ver k n b s o' c h1 h2 h3=>simp [A.cells,A.one]at hc;exact single (.vs i ver k n b s o' c h1 h2 h3) rfl rfl hc.symm
structure Cfg where
 g:Bool→Heap
 σ:Nam
 H:List Blk
 h:Heap
structure St(c:Cfg):Prop where
 ext:∀w,Ext (c.g w) c.h
 blk:∀i B,c.H[i]?=some B→(c.σ i B.ver=some none∧B.cells=[])∨∃b s vs z t,c.σ i B.ver=some (some (b,s))∧(∀w,c.g w b=none)∧c.h b=some (.cells (vs++z).toArray t (0,0))∧(vs++z).length=s∧RL c.g c.σ B.cells vs
 inj:∀i j B C b s t,c.H[i]?=some B→c.H[j]?=some C→c.σ i B.ver=some (some (b,s))→c.σ j C.ver=some (some (b,t))→i=j
 nam:∀i ver p,c.σ i ver=some p→∃B,c.H[i]?=some B∧ver≤B.ver
structure Lat(n0:Nat)(c d:Cfg):Prop where
 g0:d.g false=c.g false
 g1:Ext (c.g true) (d.g true)
 new:∀b,d.g true b≠none→c.g true b≠none∨c.h b=none∨∃i B s,n0≤i∧c.H[i]?=some B∧c.σ i B.ver=some (some (b,s))
 dom:∀b,c.h b≠none→d.h b≠none
 frm:∀b o,c.h b=some o→(∀i B s,c.H[i]?=some B→c.σ i B.ver≠some (some (b,s)))→d.h b=some o
 own:∀i B b s,d.H[i]?=some B→d.σ i B.ver=some (some (b,s))→c.h b=none∨∃j C t,c.H[j]?=some C∧c.σ j C.ver=some (some (b,t))∧(i=j∨(n0≤i∧n0≤j))
 nam:∀i ver p,i<n0→c.σ i ver=some p→d.σ i ver=some p
 len:n0≤c.H.length→n0≤d.H.length
theorem Lat.refl(n0:Nat)(c:Cfg):Lat n0 c c :=
 ⟨rfl,Ext.refl _,fun b h=>.inl h,fun b h=>h,fun b o h _=>h,fun i B b s h1 h2=>.inr ⟨i,B,s,h1,h2,.inl rfl⟩,fun i ver p _ h=>h,fun h=>h⟩
theorem Lat.trans{n0:Nat}{a b c:Cfg}(h:Lat n0 a b)(k:Lat n0 b c):Lat n0 a c:=by
 refine⟨k.g0.trans h.g0,h.g1.trans k.g1,fun x hx=>?_,fun x hx=>k.dom x (h.dom x hx),fun x o hx hn=>?_,fun i B x s h1 h2=>?_,fun i ver p hi hp=>k.nam i ver p hi (h.nam i ver p hi hp),fun hl=>k.len (h.len hl)⟩
 ·rcases k.new x hx with h1|h1|⟨i,B,s,h1,h2,h3⟩
  ·exact h.new x h1
  ·by_cases ha:a.h x=none
   ·exact .inr (.inl ha)
   ·exact absurd h1 (h.dom x ha)
  ·rcases h.own i B x s h2 h3 with h4|⟨j,C,t,h4,h5,h6⟩
   ·exact .inr (.inl h4)
   ·exact .inr (.inr ⟨j,C,t,by omega,h4,h5⟩)
 ·refine k.frm x o (h.frm x o hx hn) fun i B s h1 h2=>?_
  rcases h.own i B x s h1 h2 with h4|⟨j,C,t,h4,h5,h6⟩
  ·rw[hx]at h4;cases h4
  ·exact hn j C t h4 h5
 ·rcases k.own i B x s h1 h2 with h4|⟨j,C,t,h4,h5,h6⟩
  ·by_cases ha:a.h x=none
   ·exact .inl ha
   ·exact absurd h4 (h.dom x ha)
  ·rcases h.own j C x t h4 h5 with h7|⟨l,D,u,h7,h8,h9⟩
   ·exact .inl h7
   ·exact .inr ⟨l,D,u,h7,h8,by omega⟩
theorem Lat.lower{m n:Nat}{c d:Cfg}(hmn:m≤n)(hn:c.H.length=n)(h:Lat n c d):Lat m c d:=by
 refine⟨h.g0,h.g1,fun b hb=>?_,h.dom,h.frm,fun i B b s h1 h2=>?_,fun i ver p hi hp=>h.nam i ver p (by omega) hp,fun _=>by have:=h.len (by omega);omega⟩
 ·rcases h.new b hb with h1|h1|⟨i,B,s,h1,h2,h3⟩
  ·exact .inl h1
  ·exact .inr (.inl h1)
  ·have:=(List.getElem?_eq_some_iff.1 h2).1;omega
 ·rcases h.own i B b s h1 h2 with h4|⟨j,C,t,h4,h5,h6⟩
  ·exact .inl h4
  ·refine .inr ⟨j,C,t,h4,h5,?_⟩
   have:=(List.getElem?_eq_some_iff.1 h4).1;omega
end Go.Lft
namespace Go.Lft
open Go
set_option linter.unusedSimpArgs false
set_option linter.unusedVariables false
def E0:Heap:=fun _=>none
def blkAt:List Blk→Nat→Nat→Option (List A)
 | [],_,_=>none
 | B :: _,0,ver=>if B.ver=ver then some B.cells else none
 | _ :: H,i+1,ver=>blkAt H i ver
theorem w8:∀{H:List Blk} {i ver:Nat} {l:List A},blkAt H i ver=some l↔∃B,H[i]?=some B∧B.ver=ver∧B.cells=l
 | [],_,_,_=>by simp [blkAt]
 | B :: H,0,ver,l=>by
  simp only[blkAt,List.getElem?_cons_zero,Option.some.injEq]
  constructor
  ·intro h;split at h
   ·rename_i hv;cases h;exact⟨B,rfl,hv,rfl⟩
   ·cases h
  ·rintro⟨_,rfl,h1,h2⟩;rw[if_pos h1,h2]
 | B :: H,i+1,ver,l=>by simp only[blkAt,List.getElem?_cons_succ];exact w8
def nthA:List A→Nat→Option A
 | [],_=>none
 | a :: _,0=>some a
 | _ :: l,n+1=>nthA l n
theorem Y8:∀(l:List A) (i:Nat),nthA l i=l[i]?
 | [],_=>by simp [nthA]
 | a :: l,0=>by simp [nthA]
 | a :: l,n+1=>by simp [nthA,Y8 l n]
def z29:Value→A
 | .func (.func f) ⟨[]⟩ ⟨[]⟩=>.fn f []
 | x=>.v x
theorem y1P{g:Bool→Heap}{σ:Nam}(x:Value):Rel g σ (z29 x) x:=by
 unfold z29
 split
 ·exact .fn _ [] [] rfl (fun i a x h=>by simp at h)
 ·exact .v x
def lenA:A→Option A
 | .fs _ l=>some (.v (.int .i64 l.length))
 | .sl _ _ _ _ n=>some (.v (.int .i64 n))
 | .vs _ _ _ n=>some (.v (.int .i64 n))
 | .v x=>(k1v .len x E0).map .v
 | _=>none
def yG7:A→Option A
 | .fp w l=>some (.fp w l)
 | .lp i ver o=>some (.lp i ver o)
 | .fn f l=>some (.fn f l)
 | .v x=>(k1v .nilc x E0).map .v
 | _=>none
def fldA(off:Nat):A→Option A
 | .fp w l=>if off≤l.length then some (.fp w (l.drop off))else none
 | .lp i ver o=>some (.lp i ver (o+off))
 | _=>none
def ldA(H:List Blk):A→Option A
 | .fp _ l=>nthA l 0
 | .lp i ver o=>(blkAt H i ver).bind fun l=>nthA l o
 | _=>none
def ldaA(n:Nat)(H:List Blk):A→Option A
 | .fp _ l=>if n≤l.length then some (.agg (l.take n))else none
 | .lp i ver o=>(blkAt H i ver).bind fun l=>if o+n≤l.length then some (.agg ((l.drop o).take n))else none
 | _=>none
def prtA(off:Nat):A→Option A
 | .agg cs=>nthA cs off
 | _=>none
def y5P(off n:Nat):A→Option A
 | .agg cs=>some (.agg ((cs.drop off).take n))
 | _=>none
def extA(i:Nat):A→Option A
 | .tup cs=>nthA cs i
 | _=>none
def s1A(k:K1):A→Option A
 | .v x=>(k1v k x E0).map .v
 | _=>none
def s2A(k:K2):A→A→Option A
 | .v x,.v y=>(k2v k x y).map .v
 | _,_=>none
def a1(k:K1)(H:List Blk)(x:A):Option A :=
 match k with
 | .len=>lenA x
 | .nilc=>yG7 x
 | .fld off=>fldA off x
 | .ld1=>ldA H x
 | .lda n=>ldaA n H x
 | .prt off=>prtA off x
 | .prta off n=>y5P off n x
 | .ext i=>extA i x
 | .un op=>s1A (.un op) x
 | .conv k=>s1A (.conv k) x
def eqpA(neg:Bool):A→A→Option A
 | .v x,.v y=>(k2v (.eqp neg) x y).map .v
 | .lp _ _ _,.v (.pointer none)=>some (.v (.bool neg))
 | .fp _ _,.v (.pointer none)=>some (.v (.bool neg))
 | .v (.pointer none),.lp _ _ _=>some (.v (.bool neg))
 | .v (.pointer none),.fp _ _=>some (.v (.bool neg))
 | _,_=>none
def eqsA(neg:Bool):A→A→Option A
 | .v x,.v y=>(k2v (.eqs neg) x y).map .v
 | .sl _ _ _ _ _,.v (.slice none _ _)=>some (.v (.bool neg))
 | .fs _ l,.v (.slice none _ _)=>if l.length=0 then none else some (.v (.bool neg))
 | _,_=>none
def eqfA(neg:Bool):A→A→Option A
 | .v x,.v y=>(k2v (.eqf neg) x y).map .v
 | .fn _ _,.v .nilFunc=>some (.v (.bool neg))
 | _,_=>none
def eqiL:List A→List A→Option Bool
 | [],[]=>some true
 | .v (.int k a) :: r,.v (.int k' b) :: s=>if k=k' then(eqiL r s).map fun t=>decide (a=b) && t else none
 | _,_=>none
def eqiA(n:Nat)(neg:Bool):A→A→Option A
 | .agg cs,.agg ds=>if cs.length=n then(eqiL cs ds).map fun b=>.v (.bool (b != neg))else none
 | _,_=>none
def idxA(n:Nat):A→A→Option A
 | .fs w l,.v (.int _ i)=>if 0≤i∧i<l.length then(nthA l i.toNat).bind fun a=>a.cells.bind fun cs=>if cs.length=n then some (.fp w cs)else none else none
 | .sl i ver _ o m,.v (.int _ j)=>if 0≤j∧j<m then some (.lp i ver (o+j.toNat*n))else none
 | .vs i ver _ m,.v (.int _ j)=>if 0≤j∧j<m then some (.lp i ver (j.toNat*n))else none
 | _,_=>none
def yu1(len n:Nat):A→A→Option A
 | .fp w l,.v (.int _ j)=>if 0≤j∧j<len∧j.toNat*n≤l.length then some (.fp w (l.drop (j.toNat*n)))else none
 | .lp i ver o,.v (.int _ j)=>if 0≤j∧j<len then some (.lp i ver (o+j.toNat*n))else none
 | _,_=>none
def ixvA(len n:Nat)(agg:Bool):A→A→Option A
 | .agg cs,.v (.int _ i)=>if 0≤i∧i<len then(if agg then some (.agg ((cs.drop (i.toNat*n)).take n))else nthA cs (i.toNat*n))else none
 | _,_=>none
def a2(k:K2)(x y:A):Option A :=
 match k with
 | .eqp neg=>eqpA neg x y
 | .eqs neg=>eqsA neg x y
 | .eqf neg=>eqfA neg x y
 | .eqi n neg=>eqiA n neg x y
 | .idx n=>idxA n x y
 | .idxa len n=>yu1 len n x y
 | .ixv len n agg=>ixvA len n agg x y
 | k=>s2A k x y
def szB(n:Nat)(l:List A):Bool:=l.all fun a=>match a.cells with|some cs=>cs.length == n|none=>false
def slcA(H:List Blk)(arr:Option Nat)(n:Nat)(x lo hi:A)(mx:Option A):Option A :=
 match arr,x,lo,hi,mx with
 | none,.fs w l,.v (.int _ a),.v (.int _ b),none=>if szB n l=true∧0≤a∧a≤b∧b≤l.length then some (.fs w ((l.take b.toNat).drop a.toNat))else none
 | none,.sl i ver k o m,.v (.int _ a),.v (.int _ b),none=>if k=n∧0≤a∧a≤b∧b≤m then some (.sl i ver k (o+a.toNat*n) (b.toNat-a.toNat))else none
 | none,.sl i ver k o m,.v (.int _ a),.v (.int _ b),some (.v (.int _ c))=>if k=n∧0≤a∧a≤b∧b≤c∧c≤m then some (.sl i ver k (o+a.toNat*n) (b.toNat-a.toNat))else none
 | none,.v x,.v l,.v u,none=>(slcv none n x l u none).map .v
 | some len,.lp i ver o,.v (.int _ a),.v (.int _ b),none=>(blkAt H i ver).bind fun l=>if 0≤a∧a≤b∧b≤len∧o+len*n≤l.length then some (.sl i ver n (o+a.toNat*n) (b.toNat-a.toNat))else none
 | some len,.fp w l,.v (.int _ a),.v (.int _ b),none=>if n=1∧0≤a∧a≤b∧b≤len∧b≤l.length∧((l.take b.toNat).drop a.toNat).all A.one=true then some (.fs w ((l.take b.toNat).drop a.toNat))else none
 | some len,.lp i ver o,.v (.int _ a),.v (.int _ b),some (.v (.int _ c))=>(blkAt H i ver).bind fun l=>if 0≤a∧a≤b∧b≤c∧c≤len∧o+len*n≤l.length then some (.sl i ver n (o+a.toNat*n) (b.toNat-a.toNat))else none
 | some len,.fp w l,.v (.int _ a),.v (.int _ b),some (.v (.int _ c))=>if n=1∧0≤a∧a≤b∧b≤c∧c≤len∧c≤l.length∧((l.take b.toNat).drop a.toNat).all A.one=true then some (.fs w ((l.take b.toNat).drop a.toNat))else none
 | _,_,_,_,_=>none
def splA(c:List A)(o:Nat)(cs:List A):List A:=c.take o++cs++c.drop (o+cs.length)
def z5h:List A→List (Nat×A)→Option (List A)
 | c,[]=>some c
 | c,(off,a) :: r=>a.cells.bind fun cs=>if off+cs.length≤c.length then z5h (splA c off cs) r else none
def itA(c a b:Option A):Option A:=c.bind fun v=>match v with | .v (.bool true)=>a | .v (.bool false)=>b|_=>none
mutual
def X.av(e:List A)(H:List Blk):X→Option A
  | .var i=>some (e.getD i .any)
  | .lit v=>some (z29 v)
  | .u k a=>(a.av e H).bind fun x=>a1 k H x
  | .b k a c=>(a.av e H).bind fun x=>(c.av e H).bind fun y=>a2 k x y
  | .ite c a d=>itA (c.av e H) (a.av e H) (d.av e H)
  | .slc arr n a lo hi mx => (a.av e H).bind fun x => (lo.av e H).bind fun l => (hi.av e H).bind fun u =>
      match mx with
      | .nl=>slcA H arr n x l u none
      | mx=>(mx.av e H).bind fun m=>slcA H arr n x l u (some m)
  | .fn f caps=>(caps.avs e H).bind fun vs=>some (.fn f vs)
  | .bld z ps=>(ps.avp e H).bind fun vs=>(z5h (z.map .v) vs).bind fun cs=>some (.agg cs)
  | .nl=>none
  | .cn _ _=>none
  | .pl _ _ _ _=>none
def X.avs(e:List A)(H:List Blk):X→Option (List A)
 | .nl=>some []
 | .cn a r=>(a.av e H).bind fun x=>(r.avs e H).bind fun xs=>some (x :: xs)
 | _=>none
def X.avp(e:List A)(H:List Blk):X→Option (List (Nat×A))
 | .nl=>some []
 | .pl off size a r=>(a.av e H).bind fun x=>x.cells.bind fun cs=>if cs.length=size then(r.avp e H).bind fun xs=>some ((off,x) :: xs)else none
 | _=>none
end
theorem St.blkAt{c:Cfg}(hs:St c){i ver:Nat}{l:List A}(hb:blkAt c.H i ver=some l){q:Nat×Nat}(hq:c.σ i ver=some (some q)):
    ∃b s vs z t,c.σ i ver=some (some (b,s))∧(∀w,c.g w b=none)∧c.h b=some (.cells (vs++z).toArray t (0,0))∧(vs++z).length=s∧RL c.g c.σ l vs:=by
  obtain⟨B,h1,h2,h3⟩:=w8.1 hb
  rcases hs.blk i B h1 with⟨g1,_⟩|⟨b,s,vs,z,t,g1,g2,g3,g4,g5⟩
  · rw[h2,hq]at g1;cases g1
  · exact⟨b,s,vs,z,t,h2▸g1,g2,g3,g4,h3▸g5⟩
theorem zD4{h:Heap}{b o n:Nat}{vs:List Value}(hr:rd h b o n=some vs):vs.length=n:=by
 unfold rd at hr
 split at hr
 ·split at hr
  ·cases hr;simp;omega
  ·cases hr
 ·cases hr
theorem z7K{α:Type}{l:List α}{o:Nat}{x:α}(h:l[o]?=some x):(l.drop o).take 1=[x]:=by
 have hl:o<l.length:=(List.getElem?_eq_some_iff.1 h).1
 rw[List.drop_eq_getElem_cons hl]
 simp only[List.take_succ_cons,List.take_zero]
 rw[(List.getElem?_eq_some_iff.1 h).2]
theorem zD5{h:Heap}{b o n:Nat}{vs z:List Value}{t:Nat}(hb:h b=some (.cells (vs++z).toArray t (0,0)))(hn:o+n≤vs.length):rd h b o n=some ((vs.drop o).take n):=by
 unfold rd
 rw[hb]
 simp only[List.size_toArray,List.length_append]
 rw[if_pos (by omega)]
 congr 1
 rw[List.drop_append_of_le_length (by omega),List.take_append_of_le_length (by simp;omega)]
theorem yG8{h:Heap}{b o m:Nat}{vs:List Value}(hd:rd h b o m=some vs){p n:Nat}(hp:p+n≤m):rd h b (o+p) n=some ((vs.drop p).take n):=by
 unfold rd at hd ⊢
 split at hd
 ·rename_i c t f hb
  split at hd
  ·rename_i hle
   cases hd
   rw[if_pos (by omega)]
   congr 1
   apply List.ext_getElem?
   intro i
   simp only[List.getElem?_take,List.getElem?_drop]
   by_cases hi:i<n
   ·rw[if_pos hi,if_pos hi,if_pos (by omega)];congr 1;omega
   ·rw[if_neg hi,if_neg hi]
  ·cases hd
 ·cases hd
theorem xf7{op:UnOp}{x:Value}{h:Heap}:k1v (.un op) x h=k1v (.un op) x E0:=rfl
theorem y9a{x:Value}{h:Heap}:k1v .len x h=k1v .len x E0:=by cases x<;>rfl
theorem y5Q{k:IntKind}{x:Value}{h:Heap}:k1v (.conv k) x h=k1v (.conv k) x E0:=by cases x<;>rfl
theorem y5R{x:Value}{h:Heap}:k1v .nilc x h=k1v .nilc x E0:=by
 cases x with
 | pointer a=>cases a<;>rfl
 | func f p q=>cases f<;>rfl
 | _=>rfl
section
variable {c:Cfg} (hs:St c)
include hs
omit hs in
theorem y0P{x r:A}{v:Value}(h:lenA x=some r)(hr:Rel c.g c.σ x v):∃u,k1v .len v c.h=some u∧Rel c.g c.σ r u:=by
 cases hr<;>simp only[lenA]at h<;>try (cases h;done)
 case v =>
  cases hx:k1v .len v E0 with
  | none=>rw[hx]at h;cases h
  | some u=>rw[hx]at h;cases h;exact⟨u,y9a.trans hx,.v u⟩
 all_goals (cases h;exact⟨_,rfl,.v _⟩)
omit hs in
theorem yG9{x r:A}{v:Value}(h:yG7 x=some r)(hr:Rel c.g c.σ x v):∃u,k1v .nilc v c.h=some u∧Rel c.g c.σ r u:=by
 have hr':=hr
 cases hr<;>simp only[yG7]at h<;>try (cases h;done)
 case v =>
  cases hx:k1v .nilc v E0 with
  | none=>rw[hx]at h;cases h
  | some u=>rw[hx]at h;cases h;exact⟨u,y5R.trans hx,.v u⟩
 all_goals (cases h;exact⟨_,rfl,hr'⟩)
omit hs in
theorem y0Q{off:Nat}{x r:A}{v:Value}(h:fldA off x=some r)(hr:Rel c.g c.σ x v):∃u,k1v (.fld off) v c.h=some u∧Rel c.g c.σ r u:=by
 cases hr<;>simp only[fldA]at h<;>try (cases h;done)
 case fp w l b o vs hd hr =>
  split at h
  ·rename_i hle
   cases h
   refine⟨_,rfl,.fp w _ b (o+off) (vs.drop off) ?_ ?_⟩
   ·have hl:=yG8 hd (p:=off) (n:=l.length-off) (by omega)
    rw[List.length_drop,hl]
    congr 1
    apply List.take_of_length_le
    have:=(zD4 hd);simp;omega
   ·intro i a x h1 h2
    rw[List.getElem?_drop]at h1 h2
    exact hr _ a x h1 h2
  ·cases h
 case lp i ver o b s h1=>cases h;exact⟨_,rfl,.lp i ver (o+off) b s h1⟩
theorem y1Q{x r:A}{v:Value}(h:ldA c.H x=some r)(hr:Rel c.g c.σ x v):∃u,k1v .ld1 v c.h=some u∧Rel c.g c.σ r u:=by
 cases hr<;>simp only[ldA]at h<;>try (cases h;done)
 case fp w l b o vs hd hr =>
  rw[Y8]at h
  have hl:0<l.length:=(List.getElem?_eq_some_iff.1 h).1
  have hd':=zz5 (hs.ext w) (yG8 hd (p:=0) (n:=1) (by omega))
  have hvl:=zD4 hd
  have hv:vs[0]?=some (vs[0]'(by omega)):=by simp
  rw[z7K hv]at hd'
  exact⟨_,by simp only[k1v];rw[show rd c.h b o 1=some _ from hd'],hr 0 r _ h hv⟩
 case lp i ver o b s h1 =>
  cases hb:Lft.blkAt c.H i ver with
  | none=>rw[hb]at h;cases h
  | some l =>
   rw[hb]at h
   simp only[Option.bind_some,Y8]at h
   obtain⟨b',s',vs,z,t,g1,g2,g3,g4,g5⟩:=hs.blkAt hb h1
   rw[h1]at g1;cases g1
   obtain⟨u,hu,hur⟩:=g5.get h
   have hlt:o<vs.length:=(List.getElem?_eq_some_iff.1 hu).1
   have:=zD5 g3 (o:=o) (n:=1) (by omega)
   rw[z7K hu]at this
   exact⟨u,by simp only[k1v];rw[this],hur⟩
theorem y0R{n:Nat}{x r:A}{v:Value}(h:ldaA n c.H x=some r)(hr:Rel c.g c.σ x v):∃u,k1v (.lda n) v c.h=some u∧Rel c.g c.σ r u:=by
 cases hr<;>simp only[ldaA]at h<;>try (cases h;done)
 case fp w l b o vs hd hr =>
  split at h
  ·rename_i hle
   cases h
   have hd':=zz5 (hs.ext w) (yG8 hd (p:=0) (n:=n) (by omega))
   have hvl:=zD4 hd
   refine⟨_,by simp only[k1v];rw[show rd c.h b o n=some _ from hd'],.agg _ _ (by simp [hvl]) fun i a x h1 h2=>?_⟩
   simp only[List.drop_zero]at h2
   rw[List.getElem?_take]at h1 h2
   split at h1
   ·rename_i hi;rw[if_pos hi]at h2;exact hr i a x h1 h2
   ·cases h1
  ·cases h
 case lp i ver o b s h1 =>
  cases hb:Lft.blkAt c.H i ver with
  | none=>rw[hb]at h;cases h
  | some l =>
   rw[hb]at h
   simp only[Option.bind_some]at h
   split at h
   ·rename_i hle
    cases h
    obtain⟨b',s',vs,z,t,g1,g2,g3,g4,g5⟩:=hs.blkAt hb h1
    rw[h1]at g1;cases g1
    have:=zD5 g3 (o:=o) (n:=n) (by have:=g5.1;omega)
    have g6:=(g5.drop o).take n
    exact⟨_,by simp only[k1v];rw[this],.agg _ _ g6.1 g6.2⟩
   ·cases h
theorem y5S{k:K1}{x r:A}{v:Value}(h:a1 k c.H x=some r)(hr:Rel c.g c.σ x v):∃u,k1v k v c.h=some u∧Rel c.g c.σ r u:=by
 cases k<;>simp only[a1]at h
 case len=>exact y0P h hr
 case nilc=>exact yG9 h hr
 case fld=>exact y0Q h hr
 case ld1=>exact y1Q hs h hr
 case lda=>exact y0R hs h hr
 case un op =>
  cases hr<;>simp only[s1A]at h<;>try (cases h;done)
  cases hx:k1v (.un op) v E0 with
  | none=>rw[hx]at h;cases h
  | some u=>rw[hx]at h;cases h;exact⟨u,xf7.trans hx,.v u⟩
 case conv k =>
  cases hr<;>simp only[s1A]at h<;>try (cases h;done)
  cases hx:k1v (.conv k) v E0 with
  | none=>rw[hx]at h;cases h
  | some u=>rw[hx]at h;cases h;exact⟨u,y5Q.trans hx,.v u⟩
 case prt off =>
  cases hr<;>simp only[prtA]at h<;>try (cases h;done)
  rename_i l vs hl hr
  rw[Y8]at h
  obtain⟨u,hu,hur⟩:=RL.get ⟨hl,hr⟩ h
  exact⟨u,by simp [k1v,hu],hur⟩
 case prta off n =>
  cases hr<;>simp only[y5P]at h<;>try (cases h;done)
  rename_i l vs hl hr
  cases h
  have g6:RL c.g c.σ ((l.drop off).take n) ((vs.drop off).take n):=(RL.drop ⟨hl,hr⟩ off).take n
  exact⟨.agg ((vs.drop off).take n).toArray,by simp [k1v,List.take_drop],.agg _ _ g6.1 g6.2⟩
 case ext i =>
  cases hr<;>simp only[extA]at h<;>try (cases h;done)
  rename_i l vs hl hr
  rw[Y8]at h
  obtain⟨u,hu,hur⟩:=RL.get ⟨hl,hr⟩ h
  exact⟨u,by simp [k1v,hu],hur⟩
end
theorem ya6{g:Bool→Heap}{σ:Nam}{w:Bool}{l:List A}{v:Value}(hr:Rel g σ (.fs w l) v)(hl:l.length≠0):∃a c,v=.slice (some a) l.length c:=by
 cases hr with
 | fs0 w a c=>exact absurd rfl hl
 | fs w l b o c k f h1 h2 h3=>exact⟨_,_,rfl⟩
theorem y5T{g:Bool→Heap}{σ:Nam}{k:K2}{x y r:A}{v u:Value}(h:s2A k x y=some r)(hx:Rel g σ x v)(hy:Rel g σ y u):∃z,k2v k v u=some z∧Rel g σ r z:=by
 cases hx<;>simp only[s2A]at h<;>try (cases h;done)
 cases hy<;>simp only[s2A]at h<;>try (cases h;done)
 cases hz:k2v k v u with
 | none=>rw[hz]at h;cases h
 | some z=>rw[hz]at h;cases h;exact⟨z,rfl,.v z⟩
theorem y1R{g:Bool→Heap}{σ:Nam}{neg:Bool}{x y r:A}{v u:Value}(h:eqpA neg x y=some r)(hx:Rel g σ x v)(hy:Rel g σ y u):∃z,k2v (.eqp neg) v u=some z∧Rel g σ r z:=by
 unfold eqpA at h
 split at h
 ·cases hx;cases hy
  cases hz:k2v (.eqp neg) v u with
  | none=>rw[hz]at h;cases h
  | some z=>rw[hz]at h;cases h;exact⟨z,rfl,.v z⟩
 ·cases hx;cases hy;cases h;exact⟨_,rfl,.v _⟩
 ·cases hx;cases hy;cases h;exact⟨_,rfl,.v _⟩
 ·cases hx;cases hy;cases h;exact⟨_,rfl,by simp;exact .v _⟩
 ·cases hx;cases hy;cases h;exact⟨_,rfl,by simp;exact .v _⟩
 ·cases h
theorem y1S{g:Bool→Heap}{σ:Nam}{neg:Bool}{x y r:A}{v u:Value}(h:eqsA neg x y=some r)(hx:Rel g σ x v)(hy:Rel g σ y u):∃z,k2v (.eqs neg) v u=some z∧Rel g σ r z:=by
 unfold eqsA at h
 split at h
 ·cases hx;cases hy
  cases hz:k2v (.eqs neg) v u with
  | none=>rw[hz]at h;cases h
  | some z=>rw[hz]at h;cases h;exact⟨z,rfl,.v z⟩
 ·cases hx;cases hy;cases h;exact⟨_,rfl,.v _⟩
 ·split at h
  ·cases h
  ·rename_i hl
   obtain⟨a,c,rfl⟩:=ya6 hx hl
   cases hy;cases h;exact⟨_,rfl,.v _⟩
 ·cases h
theorem y1T{g:Bool→Heap}{σ:Nam}{neg:Bool}{x y r:A}{v u:Value}(h:eqfA neg x y=some r)(hx:Rel g σ x v)(hy:Rel g σ y u):∃z,k2v (.eqf neg) v u=some z∧Rel g σ r z:=by
 unfold eqfA at h
 split at h
 ·cases hx;cases hy
  cases hz:k2v (.eqf neg) v u with
  | none=>rw[hz]at h;cases h
  | some z=>rw[hz]at h;cases h;exact⟨z,rfl,.v z⟩
 ·cases hx;cases hy;cases h;exact⟨_,rfl,.v _⟩
 ·cases h
theorem yg8{g:Bool→Heap}{σ:Nam}:∀(cs ds:List A) (vs us:List Value) (b:Bool),eqiL cs ds=some b→RL g σ cs vs→RL g σ ds us→zZ1 vs us=some b
 | [],ds,vs,us,b,h,h1,h2=>by
  rw[h1.nil_inv]
  cases ds with
  | nil=>rw[h2.nil_inv];cases h;rfl
  | cons d r=>simp [eqiL]at h
 | c :: r,[],vs,us,b,h,h1,h2=>by simp [eqiL]at h
 | c :: r,d :: s,vs,us,b,h,h1,h2=>by
  obtain⟨x,xs,rfl,e1,e2⟩:=h1.uncons
  obtain⟨y,ys,rfl,e3,e4⟩:=h2.uncons
  unfold eqiL at h
  split at h
  ·rename_i h0 _;cases h0
  ·rename_i k a r' k' b' s' hc hd
   cases hc;cases hd;cases e1;cases e3
   split at h
   ·rename_i hk
    obtain⟨t,ht,rfl⟩:=Option.map_eq_some_iff.1 h
    simp only[zZ1,hk,if_true,yg8 r s xs ys t ht e2 e4,Option.map_some]
    congr 2
   ·cases h
  ·cases h
theorem y1U{g:Bool→Heap}{σ:Nam}{n:Nat}{neg:Bool}{x y r:A}{v u:Value}(h:eqiA n neg x y=some r)(hx:Rel g σ x v)(hy:Rel g σ y u):∃z,k2v (.eqi n neg) v u=some z∧Rel g σ r z:=by
 unfold eqiA at h
 split at h
 ·split at h
  ·rename_i hn
   obtain⟨b,hb,rfl⟩:=Option.map_eq_some_iff.1 h
   cases hx with
   | agg l vs h1 h2=>cases hy with
    | agg m us h3 h4 =>
     have:=yg8 _ _ _ _ b hb ⟨h1,h2⟩ ⟨h3,h4⟩
     exact⟨.bool (b != neg),by simp only[k2v];rw[if_pos (by simpa [← h1]using hn)];simp [this],.v _⟩
  ·cases h
 ·cases h
theorem y1V{g:Bool→Heap}{σ:Nam}{n:Nat}{x y r:A}{v u:Value}(h:idxA n x y=some r)(hx:Rel g σ x v)(hy:Rel g σ y u):∃z,k2v (.idx n) v u=some z∧Rel g σ r z:=by
 unfold idxA at h
 split at h
 ·rename_i w l k i
  split at h
  ·rename_i hi
   cases hy
   cases hx with
   | fs0 w a c=>simp at hi;omega
   | fs w l b o c kk f h1 h2 h3 =>
    rw[Y8]at h
    cases ha:l[i.toNat]? with
    | none=>rw[ha]at h;cases h
    | some a =>
     obtain⟨cs,g1,g2,g3⟩:=h2 _ a ha
     rw[ha]at h
     simp only[Option.bind_some,g1]at h
     split at h
     ·rename_i hn
      cases h
      have hkn:kk=n:=by omega
      subst hkn
      refine⟨.pointer (some ⟨b,o+i.toNat*kk,none⟩),by simp only[k2v];rw[if_pos ⟨hi.1,by omega⟩],.fp w cs b _ (f i.toNat) (by rw[g2];exact g3) fun j q x h4 h5=>h3 _ a cs j q x ha g1 h4 h5⟩
     ·cases h
  ·cases h
 ·rename_i i ver k o m kk j
  split at h
  ·rename_i hj
   cases hy
   cases h
   cases hx with
   | sl i ver k o n' b s o' c h1 h2 h3 =>
    have hc:0<c:=by omega
    obtain⟨rfl,h4⟩:=h3 hc
    exact⟨.pointer (some ⟨b,o'+j.toNat*n,none⟩),by simp only[k2v];rw[if_pos ⟨hj.1,by omega⟩],.lp i ver _ b s h1⟩
  ·cases h
 ·rename_i i ver k m kk j
  split at h
  ·rename_i hj
   cases hy
   cases h
   cases hx with
   | vs0 i ver k h1=>simp at hj;omega
   | vs i ver k n' b s o' c h1 h2 h3 =>
    have hc:0<c:=by omega
    obtain⟨rfl,h4⟩:=h3 hc
    exact⟨.pointer (some ⟨b,j.toNat*n,none⟩),by simp only[k2v];rw[if_pos ⟨hj.1,by omega⟩];simp,.lp i ver _ b s h1⟩
  ·cases h
 ·cases h
theorem y0S{g:Bool→Heap}{σ:Nam}{len n:Nat}{x y r:A}{v u:Value}(h:yu1 len n x y=some r)(hx:Rel g σ x v)(hy:Rel g σ y u):∃z,k2v (.idxa len n) v u=some z∧Rel g σ r z:=by
 unfold yu1 at h
 split at h
 ·rename_i w l kk j
  split at h
  ·rename_i hj
   cases hy;cases h
   cases hx with
   | fp w l b o vs hd hr =>
    refine⟨.pointer (some ⟨b,o+j.toNat*n,none⟩),by simp only[k2v];rw[if_pos ⟨hj.1,hj.2.1⟩],.fp w _ b _ (vs.drop (j.toNat*n)) ?_ ?_⟩
    ·have hl:=yG8 hd (p:=j.toNat*n) (n:=l.length-j.toNat*n) (by omega)
     rw[List.length_drop,hl]
     congr 1
     apply List.take_of_length_le
     have:=(zD4 hd);simp;omega
    ·intro i a x h1 h2
     rw[List.getElem?_drop]at h1 h2
     exact hr _ a x h1 h2
  ·cases h
 ·rename_i i ver o kk j
  split at h
  ·rename_i hj
   cases hy;cases h
   cases hx with
   | lp i ver o b s h1=>exact⟨.pointer (some ⟨b,o+j.toNat*n,none⟩),by simp only[k2v];rw[if_pos hj],.lp i ver _ b s h1⟩
  ·cases h
 ·cases h
theorem y1W{g:Bool→Heap}{σ:Nam}{len n:Nat}{ag:Bool}{x y r:A}{v u:Value}(h:ixvA len n ag x y=some r)(hx:Rel g σ x v)(hy:Rel g σ y u):∃z,k2v (.ixv len n ag) v u=some z∧Rel g σ r z:=by
 unfold ixvA at h
 split at h
 ·rename_i cs kk i
  split at h
  ·rename_i hi
   cases hy
   cases hx with
   | agg l vs hl hr =>
    cases ag with
    | true =>
     simp only[if_true]at h
     cases h
     have g6:RL g σ ((cs.drop (i.toNat*n)).take n) ((vs.drop (i.toNat*n)).take n):=(RL.drop ⟨hl,hr⟩ _).take n
     exact⟨.agg ((vs.drop (i.toNat*n)).take n).toArray,by simp only[k2v];rw[if_pos hi];simp [List.take_drop,Nat.add_comm],.agg _ _ g6.1 g6.2⟩
    | false =>
     simp only[Bool.false_eq_true,if_false,Y8]at h
     obtain⟨u,hu,hur⟩:=RL.get ⟨hl,hr⟩ h
     exact⟨u,by simp only[k2v];rw[if_pos hi];simpa using hu,hur⟩
  ·cases h
 ·cases h
theorem y5U{g:Bool→Heap}{σ:Nam}{k:K2}{x y r:A}{v u:Value}(h:a2 k x y=some r)(hx:Rel g σ x v)(hy:Rel g σ y u):∃z,k2v k v u=some z∧Rel g σ r z:=by
 cases k<;>simp only[a2]at h
 case eqp=>exact y1R h hx hy
 case eqs=>exact y1S h hx hy
 case eqf=>exact y1T h hx hy
 case eqi=>exact y1U h hx hy
 case idx=>exact y1V h hx hy
 case idxa=>exact y0S h hx hy
 case ixv=>exact y1W h hx hy
 all_goals exact y5T h hx hy
theorem y9b{n:Nat}{l:List A}(h:szB n l=true){i:Nat}{a:A}(ha:l[i]?=some a):∃cs,a.cells=some cs∧cs.length=n:=by
 unfold szB at h
 rw[List.all_eq_true]at h
 have:=h a (List.mem_of_getElem? ha)
 cases hc:a.cells with
 | none=>simp [hc]at this
 | some cs=>simp [hc]at this;exact⟨cs,rfl,this⟩
theorem yu2 {c : Cfg} (hs : St c) {arr : Option Nat} {n : Nat} {x lo hi r : A} {mx : Option A} {v l u : Value} {m : Option Value} (h : slcA c.H arr n x lo hi mx = some r)
    (hx:Rel c.g c.σ x v) (hl:Rel c.g c.σ lo l) (hu:Rel c.g c.σ hi u) (hm:(mx=none∧m=none)∨∃a b,mx=some a∧m=some b∧Rel c.g c.σ a b) :
    ∃z,slcv arr n v l u m=some z∧Rel c.g c.σ r z:=by
  unfold slcA at h
  split at h
  · rename_i arr w ls k1 a k2 b
    split at h
    · rename_i hc
      obtain⟨hsz,h1,h2,h3⟩:=hc
      cases h;cases hl;cases hu
      obtain rfl:m=none:=by rcases hm with⟨_,h⟩|⟨_,_,h,_⟩<;>first|exact h|cases h
      cases hx with
      | fs0 w ad cp =>
        simp at h3
        have ha:a=0:=by omega
        have hb:b=0:=by omega
        subst ha;subst hb
        exact⟨_,by simp only[slcv];rw[if_pos (by omega)],by simpa using .fs0 w _ _⟩
      | fs w ls bl o cp k f g1 g2 g3 =>
        refine⟨.slice (if cp=a.toNat then some ⟨bl,o,none⟩else some ⟨bl,o+a.toNat*n,none⟩) (b.toNat-a.toNat) (cp-a.toNat),?_,?_⟩
        · simp only[slcv]
          rw[if_pos (by omega)]
          split<;>simp [zh2]
        · by_cases hab:a.toNat=b.toNat
          · have:((ls.take b.toNat).drop a.toNat)=[]:=by apply List.drop_eq_nil_of_le;simp;omega
            rw[this,show b.toNat-a.toNat=0 by omega]
            exact .fs0 w _ _
          · have hlen:((ls.take b.toNat).drop a.toNat).length=b.toNat-a.toNat:=by simp;omega
            rw[if_neg (by omega),← hlen]
            have hkn:k=n:=by
              have ha:ls[a.toNat]?=some (ls[a.toNat]'(by omega)):=by simp
              obtain⟨cs,e1,e2⟩:=y9b hsz ha
              obtain⟨cs',e3,e4,_⟩:=g2 _ _ ha
              rw[e1]at e3;cases e3;omega
            subst hkn
            have hget:∀i a',((ls.take b.toNat).drop a.toNat)[i]?=some a'→ls[a.toNat+i]?=some a':=fun i a' hi=>by
              rw[List.getElem?_drop,List.getElem?_take]at hi
              split at hi
              · exact hi
              · cases hi
            refine .fs w _ bl _ _ k (fun i=>f (a.toNat+i)) (by omega) (fun i a' hi=>?_) (fun i a' cs j q x hi=>g3 _ a' cs j q x (hget i a' hi))
            obtain⟨cs,e1,e2,e3⟩:=g2 _ _ (hget i a' hi)
            exact⟨cs,e1,e2,by rw[show o+a.toNat*k+i*k=o+(a.toNat+i)*k by rw[Nat.add_mul];omega];exact e3⟩
    · cases h
  · rename_i arr i ver k o mm k1 a k2 b
    split at h
    · rename_i hc
      obtain⟨rfl,h1,h2,h3⟩:=hc
      cases h;cases hl;cases hu
      obtain rfl:m=none:=by rcases hm with⟨_,h⟩|⟨_,_,h,_⟩<;>first|exact h|cases h
      cases hx with
      | sl i ver k o n' bl s o' cp g1 g2 g3 =>
        refine⟨.slice (some ⟨bl,if cp=a.toNat then o' else o'+a.toNat*k,none⟩) (b.toNat-a.toNat) (cp-a.toNat),?_,.sl i ver k _ _ bl s _ _ g1 (by omega) fun hc=>?_⟩
        · simp only[slcv]
          rw[if_pos (by omega)]
          split<;>simp [zh2]
        · obtain⟨rfl,g4⟩:=g3 (by omega)
          rw[if_neg (by omega)]
          refine⟨rfl,?_⟩
          have:a.toNat*k+(cp-a.toNat)*k=cp*k:=by rw[← Nat.add_mul];congr 1;omega
          omega
    · cases h
  · rename_i arr i ver k o mm k1 a k2 b k3 cc
    split at h
    · rename_i hc
      obtain⟨rfl,h1,h2,h3,h4⟩:=hc
      cases h;cases hl;cases hu
      rcases hm with⟨hm,_⟩|⟨_,_,hm,rfl,hq⟩
      · cases hm
      cases hm;cases hq
      cases hx with
      | sl i ver k o n' bl s o' cp g1 g2 g3 =>
        refine⟨.slice (some ⟨bl,if cc.toNat=a.toNat then o' else o'+a.toNat*k,none⟩) (b.toNat-a.toNat) (cc.toNat-a.toNat),?_,.sl i ver k _ _ bl s _ _ g1 (by omega) fun hc=>?_⟩
        · simp only[slcv]
          rw[if_pos (by omega)]
          split<;>simp [zh2]
        · obtain⟨rfl,g4⟩:=g3 (by omega)
          rw[if_neg (by omega)]
          refine⟨rfl,?_⟩
          have:a.toNat*k+(cp-a.toNat)*k=cp*k:=by rw[← Nat.add_mul];congr 1;omega
          have:(cc.toNat-a.toNat)*k≤(cp-a.toNat)*k:=Nat.mul_le_mul_right k (by omega)
          omega
    · cases h
  · rename_i arr x l u
    cases hx;cases hl;cases hu
    obtain rfl:m=none:=by rcases hm with⟨_,h⟩|⟨_,_,h,_⟩<;>first|exact h|cases h
    cases hz:slcv none n v l u none with
    | none=>rw[hz]at h;cases h
    | some z=>rw[hz]at h;cases h;exact⟨z,rfl,.v z⟩
  · rename_i arr len i ver o k1 a k2 b
    cases hb:blkAt c.H i ver with
    | none=>rw[hb]at h;cases h
    | some ls =>
      rw[hb]at h
      simp only[Option.bind_some]at h
      split at h
      · rename_i hc
        obtain⟨h1,h2,h3,h4⟩:=hc
        cases h;cases hl;cases hu
        obtain rfl:m=none:=by rcases hm with⟨_,h⟩|⟨_,_,h,_⟩<;>first|exact h|cases h
        cases hx with
        | lp i ver o bl s g1 =>
          obtain⟨b',s',vs,z,t,e1,e2,e3,e4,e5⟩:=hs.blkAt hb g1
          rw[g1]at e1;cases e1
          refine⟨.slice (some ⟨bl,if len=a.toNat then o else o+a.toNat*n,none⟩) (b.toNat-a.toNat) (len-a.toNat),?_,.sl i ver n _ _ bl s _ _ g1 (by omega) fun hc=>?_⟩
          · simp only[slcv]
            rw[if_pos ⟨h1,h2,h3⟩]
            split<;>simp [zh2]
          · rw[if_neg (by omega)]
            refine⟨rfl,?_⟩
            have:a.toNat*n+(len-a.toNat)*n=len*n:=by rw[← Nat.add_mul];congr 1;omega
            have:=e5.1
            simp at e4
            omega
      · cases h
  · rename_i arr len w ls k1 a k2 b
    split at h
    · rename_i hc
      obtain⟨rfl,h1,h2,h3,h4,h5⟩:=hc
      cases h;cases hl;cases hu
      obtain rfl:m=none:=by rcases hm with⟨_,h⟩|⟨_,_,h,_⟩<;>first|exact h|cases h
      cases hx with
      | fp w ls bl o vs hd hr =>
        refine⟨.slice (some ⟨bl,if len=a.toNat then o else o+a.toNat*1,none⟩) (b.toNat-a.toNat) (len-a.toNat),?_,?_⟩
        · simp only[slcv]
          rw[if_pos ⟨h1,h2,h3⟩]
          split<;>simp [zh2]
        · by_cases hab:a.toNat=b.toNat
          · have:((ls.take b.toNat).drop a.toNat)=[]:=by apply List.drop_eq_nil_of_le;simp;omega
            rw[this,show b.toNat-a.toNat=0 by omega]
            exact .fs0 w _ _
          · have hlen:((ls.take b.toNat).drop a.toNat).length=b.toNat-a.toNat:=by simp;omega
            rw[if_neg (by omega),← hlen]
            have hvl:=zD4 hd
            have hget:∀i a',((ls.take b.toNat).drop a.toNat)[i]?=some a'→ls[a.toNat+i]?=some a':=fun i a' hi=>by
              rw[List.getElem?_drop,List.getElem?_take]at hi
              split at hi
              · exact hi
              · cases hi
            refine .fs w _ bl _ _ 1 (fun i=>[vs.getD (a.toNat+i) undef]) (by omega) (fun i a' hi=>?_) (fun i a' cs j q x hi hcs hj hx=>?_)
            · have hone : a'.one = true := by
                rw[List.all_eq_true]at h5
                exact h5 a' (List.mem_of_getElem? hi)
              have hlt:a.toNat+i<vs.length:=by
                have:=(List.getElem?_eq_some_iff.1 (hget i a' hi)).1;omega
              refine⟨[a'],by cases a'<;>first|(cases hone;done)|(simp only[A.cells];rw[if_pos hone]),rfl,?_⟩
              have:=yG8 hd (p:=a.toNat+i) (n:=1) (by omega)
              rw[z7K (x:=vs[a.toNat+i]) (by simp [hlt])]at this
              rw[show o+a.toNat*1+i*1=o+(a.toNat+i) by omega,this]
              simp [hlt]
            · have hone : a'.one = true := by
                rw[List.all_eq_true]at h5
                exact h5 a' (List.mem_of_getElem? hi)
              have hca:a'.cells=some [a']:=by cases a'<;>first|(cases hone;done)|(simp only[A.cells];rw[if_pos hone])
              rw[hca]at hcs;cases hcs
              cases j with
              | succ j=>simp at hj
              | zero =>
                simp at hj;subst hj
                have hlt:a.toNat+i<vs.length:=by
                  have:=(List.getElem?_eq_some_iff.1 (hget i a' hi)).1;omega
                simp at hx
                have hgx:vs[a.toNat+i]?=some x:=by
                  rw[← hx];simp [hlt]
                exact hr _ a' x (hget i a' hi) hgx
    · cases h
  · rename_i arr len i ver o k1 a k2 b k3 cc
    cases hb:blkAt c.H i ver with
    | none=>rw[hb]at h;cases h
    | some ls =>
      rw[hb]at h
      simp only[Option.bind_some]at h
      split at h
      · rename_i hc
        obtain⟨h1,h2,h3,h6,h4⟩:=hc
        cases h;cases hl;cases hu
        rcases hm with⟨hm,_⟩|⟨_,_,hm,rfl,hq⟩
        · cases hm
        cases hm;cases hq
        cases hx with
        | lp i ver o bl s g1 =>
          obtain⟨b',s',vs,z,t,e1,e2,e3,e4,e5⟩:=hs.blkAt hb g1
          rw[g1]at e1;cases e1
          refine⟨.slice (some ⟨bl,if cc.toNat=a.toNat then o else o+a.toNat*n,none⟩) (b.toNat-a.toNat) (cc.toNat-a.toNat),?_,.sl i ver n _ _ bl s _ _ g1 (by omega) fun hc=>?_⟩
          · simp only[slcv]
            rw[if_pos ⟨h1,h2,h3,h6⟩]
            split<;>simp [zh2]
          · rw[if_neg (by omega)]
            refine⟨rfl,?_⟩
            have:a.toNat*n+(len-a.toNat)*n=len*n:=by rw[← Nat.add_mul];congr 1;omega
            have:(cc.toNat-a.toNat)*n≤(len-a.toNat)*n:=Nat.mul_le_mul_right n (by omega)
            have:=e5.1
            simp at e4
            omega
      · cases h
  · rename_i arr len w ls k1 a k2 b k3 cc
    split at h
    · rename_i hc
      obtain⟨rfl,h1,h2,h3,h6,h4,h5⟩:=hc
      cases h;cases hl;cases hu
      rcases hm with⟨hm,_⟩|⟨_,_,hm,rfl,hq⟩
      · cases hm
      cases hm;cases hq
      cases hx with
      | fp w ls bl o vs hd hr =>
        refine⟨.slice (some ⟨bl,if cc.toNat=a.toNat then o else o+a.toNat*1,none⟩) (b.toNat-a.toNat) (cc.toNat-a.toNat),?_,?_⟩
        · simp only[slcv]
          rw[if_pos ⟨h1,h2,h3,h6⟩]
          split<;>simp [zh2]
        · by_cases hab:a.toNat=b.toNat
          · have:((ls.take b.toNat).drop a.toNat)=[]:=by apply List.drop_eq_nil_of_le;simp;omega
            rw[this,show b.toNat-a.toNat=0 by omega]
            exact .fs0 w _ _
          · have hlen:((ls.take b.toNat).drop a.toNat).length=b.toNat-a.toNat:=by simp;omega
            rw[if_neg (by omega),← hlen]
            have hvl:=zD4 hd
            have hget:∀i a',((ls.take b.toNat).drop a.toNat)[i]?=some a'→ls[a.toNat+i]?=some a':=fun i a' hi=>by
              rw[List.getElem?_drop,List.getElem?_take]at hi
              split at hi
              · exact hi
              · cases hi
            refine .fs w _ bl _ _ 1 (fun i=>[vs.getD (a.toNat+i) undef]) (by omega) (fun i a' hi=>?_) (fun i a' cs j q x hi hcs hj hx=>?_)
            · have hone : a'.one = true := by
                rw[List.all_eq_true]at h5
                exact h5 a' (List.mem_of_getElem? hi)
              have hlt:a.toNat+i<vs.length:=by
                have:=(List.getElem?_eq_some_iff.1 (hget i a' hi)).1;omega
              refine⟨[a'],by cases a'<;>first|(cases hone;done)|(simp only[A.cells];rw[if_pos hone]),rfl,?_⟩
              have:=yG8 hd (p:=a.toNat+i) (n:=1) (by omega)
              rw[z7K (x:=vs[a.toNat+i]) (by simp [hlt])]at this
              rw[show o+a.toNat*1+i*1=o+(a.toNat+i) by omega,this]
              simp [hlt]
            · have hone : a'.one = true := by
                rw[List.all_eq_true]at h5
                exact h5 a' (List.mem_of_getElem? hi)
              have hca:a'.cells=some [a']:=by cases a'<;>first|(cases hone;done)|(simp only[A.cells];rw[if_pos hone])
              rw[hca]at hcs;cases hcs
              cases j with
              | succ j=>simp at hj
              | zero =>
                simp at hj;subst hj
                have hlt:a.toNat+i<vs.length:=by
                  have:=(List.getElem?_eq_some_iff.1 (hget i a' hi)).1;omega
                simp at hx
                have hgx:vs[a.toNat+i]?=some x:=by
                  rw[← hx];simp [hlt]
                exact hr _ a' x (hget i a' hi) hgx
    · cases h
  · cases h
def RP(g:Bool→Heap)(σ:Nam)(qs:List (Nat×A))(ps:List (Nat×Value)):Prop:=qs.map (·.1)=ps.map (·.1)∧RL g σ (qs.map (·.2)) (ps.map (·.2))
theorem z5i{g:Bool→Heap}{σ:Nam}:∀(qs:List (Nat×A)) (ps:List (Nat×Value)) (c:List A) (vs:List Value) (c':List A),RP g σ qs ps→RL g σ c vs→z5h c qs=some c'→∃ws:List Value,zr9 vs.toArray ps=some ws.toArray∧RL g σ c' ws
 | [],ps,c,vs,c',hp,hc,h=>by
  have:ps=[]:=by have:=hp.1;cases ps<;>simp at this ⊢
  subst this;cases h
  exact⟨vs,rfl,hc⟩
 | (off,a) :: r,ps,c,vs,c',hp,hc,h=>by
  cases ps with
  | nil=>have:=hp.1;simp at this
  | cons p ps =>
   obtain⟨off',x⟩:=p
   obtain⟨h1,h2⟩:=hp
   simp only[List.map_cons,List.cons.injEq]at h1 h2
   obtain⟨rfl,h1⟩:=h1
   obtain⟨y,ys,e1,hax,hrl⟩:=h2.uncons
   injection e1 with e1 e2;subst e1;subst e2
   simp only[z5h]at h
   cases hca:a.cells with
   | none=>rw[hca]at h;cases h
   | some cs =>
    rw[hca]at h
    simp only[Option.bind_some]at h
    split at h
    ·rename_i hle
     obtain⟨g1,g2⟩:=hax.cells hca
     have hl1:x.cells.size=cs.length:=by have:=g1.1;simp at this;omega
     have hsz:off+x.cells.toList.length≤vs.toArray.size:=by have:=hc.1;simp;omega
     have hspl:zD1 vs.toArray off x.cells.toList=(vs.take off++x.cells.toList++vs.drop (off+x.cells.toList.length)).toArray:=by
      apply Array.ext';rw[yg7 hsz]
     obtain⟨ws,k1,k2⟩:=z5i r ps _ (vs.take off++x.cells.toList++vs.drop (off+x.cells.toList.length)) c' ⟨h1,hrl⟩ (((hc.take off).app g1).app (by rw[show x.cells.toList.length=cs.length from g1.1.symm];exact hc.drop _)) h
     refine⟨ws,?_,k2⟩
     simp only[zr9]
     rw[if_pos (by have:=hc.1;simp;omega),hspl]
     exact k1
    ·cases h
theorem RL.getD{g:Bool→Heap}{σ:Nam}{e:List A}{ev:List Value}(he:RL g σ e ev)(i:Nat):Rel g σ (e.getD i .any) (ev.getD i undef):=by
 by_cases hi:i<e.length
 ·have h1:i<ev.length:=by have:=he.1;omega
  have:=he.2 i e[i] ev[i] (by simp [hi]) (by simp [h1])
  simpa [List.getD_eq_getElem?_getD,hi,h1]using this
 ·have:e.getD i .any=.any:=by simp [List.getD_eq_getElem?_getD,List.getElem?_eq_none (Nat.le_of_not_lt hi)]
  rw[this];exact .any _
theorem X.av_all{c:Cfg}(hs:St c){e:List A}{ev:List Value}(he:RL c.g c.σ e ev)(x:X):
    (∀a,x.av e c.H=some a→∃v,x.ev ev c.h=some v∧Rel c.g c.σ a v)∧(∀l,x.avs e c.H=some l→∃vs,x.evs ev c.h=some vs∧RL c.g c.σ l vs) ∧
    (∀qs,x.avp e c.H=some qs→∃ps,x.evp ev c.h=some ps∧RP c.g c.σ qs ps):=by
  induction x with
  | var i=>exact⟨fun a h=>by cases h;exact⟨_,rfl,he.getD i⟩,fun l h=>by simp [X.avs]at h,fun l h=>by simp [X.avp]at h⟩
  | lit v=>exact⟨fun a h=>by cases h;exact⟨_,rfl,y1P v⟩,fun l h=>by simp [X.avs]at h,fun l h=>by simp [X.avp]at h⟩
  | u k a ih =>
    refine⟨fun r h=>?_,fun l h=>by simp [X.avs]at h,fun l h=>by simp [X.avp]at h⟩
    simp only[X.av,Option.bind_eq_some_iff]at h
    obtain⟨x,h1,h2⟩:=h
    obtain⟨v,h3,h4⟩:=ih.1 x h1
    obtain⟨u,h5,h6⟩:=y5S hs h2 h4
    exact⟨u,by simp [X.ev,h3,h5],h6⟩
  | b k a d iha ihd =>
    refine⟨fun r h=>?_,fun l h=>by simp [X.avs]at h,fun l h=>by simp [X.avp]at h⟩
    simp only[X.av,Option.bind_eq_some_iff]at h
    obtain⟨x,h1,y,h2,h3⟩:=h
    obtain⟨v,h4,h5⟩:=iha.1 x h1
    obtain⟨u,h6,h7⟩:=ihd.1 y h2
    obtain⟨z,h8,h9⟩:=y5U h3 h5 h7
    exact⟨z,by simp [X.ev,h4,h6,h8],h9⟩
  | ite q a d ihq iha ihd =>
    refine⟨fun r h=>?_,fun l h=>by simp [X.avs]at h,fun l h=>by simp [X.avp]at h⟩
    simp only[X.av,itA,Option.bind_eq_some_iff]at h
    obtain⟨x,h1,h2⟩:=h
    obtain⟨v,h3,h4⟩:=ihq.1 x h1
    split at h2
    · cases h4
      obtain⟨u,h5,h6⟩:=iha.1 r h2
      exact⟨u,by simp [X.ev,h3,h5],h6⟩
    · cases h4
      obtain⟨u,h5,h6⟩:=ihd.1 r h2
      exact⟨u,by simp [X.ev,h3,h5],h6⟩
    · cases h2
  | slc arr n a lo hi mx iha ihl ihh ihm =>
    refine⟨fun r h=>?_,fun l h=>by simp [X.avs]at h,fun l h=>by simp [X.avp]at h⟩
    simp only[X.av,Option.bind_eq_some_iff]at h
    obtain⟨x,h1,l,h2,u,h3,h4⟩:=h
    obtain⟨v1,g1,g2⟩:=iha.1 x h1
    obtain⟨v2,g3,g4⟩:=ihl.1 l h2
    obtain⟨v3,g5,g6⟩:=ihh.1 u h3
    by_cases hmx:mx=.nl
    · subst hmx
      simp only at h4
      obtain⟨z,k1,k2⟩:=yu2 hs h4 g2 g4 g6 (.inl ⟨rfl,rfl⟩)
      exact⟨z,by simp [X.ev,g1,g3,g5,k1],k2⟩
    · have hev : (X.slc arr n a lo hi mx).ev ev c.h = (a.ev ev c.h).bind fun x => (lo.ev ev c.h).bind fun l => (hi.ev ev c.h).bind fun u => (mx.ev ev c.h).bind fun m => slcv arr n x l u (some m) := by
        cases mx<;>first|rfl|exact absurd rfl hmx
      have hav:∃m,mx.av e c.H=some m∧slcA c.H arr n x l u (some m)=some r:=by
        cases mx<;>first|exact absurd rfl hmx|simpa only[Option.bind_eq_some_iff]using h4
      obtain⟨m,h5,h6⟩:=hav
      obtain⟨v4,g7,g8⟩:=ihm.1 m h5
      obtain⟨z,k1,k2⟩:=yu2 hs h6 g2 g4 g6 (.inr ⟨_,_,rfl,rfl,g8⟩)
      exact⟨z,by rw[hev];simp [g1,g3,g5,g7,k1],k2⟩
  | fn f q ih =>
    refine⟨fun r h=>?_,fun l h=>by simp [X.avs]at h,fun l h=>by simp [X.avp]at h⟩
    simp only[X.av,Option.bind_eq_some_iff]at h
    obtain⟨l,h1,h2⟩:=h
    cases h2
    obtain⟨vs,h3,h4⟩:=ih.2.1 l h1
    exact⟨_,by simp only[X.ev,h3];rfl,.fn f l vs h4.1 h4.2⟩
  | bld z q ih =>
    refine⟨fun r h=>?_,fun l h=>by simp [X.avs]at h,fun l h=>by simp [X.avp]at h⟩
    simp only[X.av,Option.bind_eq_some_iff]at h
    obtain⟨qs,h1,cs,h2,h3⟩:=h
    cases h3
    obtain⟨ps,h4,h5⟩:=ih.2.2 qs h1
    obtain⟨ws,h6,h7⟩:=z5i qs ps _ z cs h5 ⟨by simp,fun i a x h1 h2=>by
      rw[List.getElem?_map,h2]at h1;cases h1;exact .v x⟩ h2
    exact⟨_,by simp only[X.ev,h4,Option.bind_some,h6];rfl,.agg cs ws h7.1 h7.2⟩
  | nl=>exact⟨fun r h=>by simp [X.av]at h,fun l h=>by simp [X.avs]at h;subst h;exact⟨[],rfl,RL.nil⟩,fun l h=>by simp [X.avp]at h;subst h;exact⟨[],rfl,rfl,RL.nil⟩⟩
  | cn a r iha ihr =>
    refine⟨fun r h=>by simp [X.av]at h,fun l h=>?_,fun l h=>by simp [X.avp]at h⟩
    simp only[X.avs,Option.bind_eq_some_iff]at h
    obtain⟨x,h1,xs,h2,h3⟩:=h
    cases h3
    obtain⟨v,h4,h5⟩:=iha.1 x h1
    obtain⟨vs,h6,h7⟩:=ihr.2.1 xs h2
    exact⟨v :: vs,by simp [X.evs,h4,h6],RL.cons h5 h7⟩
  | pl off size a r iha ihr =>
    refine⟨fun r h=>by simp [X.av]at h,fun l h=>by simp [X.avs]at h,fun l h=>?_⟩
    simp only[X.avp,Option.bind_eq_some_iff]at h
    obtain⟨x,h1,cs,h2,h3⟩:=h
    split at h3
    · rename_i hsz
      simp only[Option.bind_eq_some_iff]at h3
      obtain⟨xs,h4,h5⟩:=h3
      cases h5
      obtain⟨v,h6,h7⟩:=iha.1 x h1
      obtain⟨vs,h8,h9⟩:=ihr.2.2 xs h4
      have hc:=(h7.cells h2).1.1
      refine⟨(off,v) :: vs,by simp only[X.evp,h6,Option.bind_some];rw[if_pos (by simp at hc;omega),h8];rfl,?_,?_⟩
      · simp [h9.1]
      · exact RL.cons h7 h9.2
    · cases h3
theorem za8{c:Cfg}(hs:St c){e:List A}{ev:List Value}(he:RL c.g c.σ e ev){x:X}{a:A}(h:x.av e c.H=some a):∃v,x.ev ev c.h=some v∧Rel c.g c.σ a v:=(X.av_all hs he x).1 a h
theorem z79{c:Cfg}(hs:St c){e:List A}{ev:List Value}(he:RL c.g c.σ e ev){x:X}{l:List A}(h:x.avs e c.H=some l):∃vs,x.evs ev c.h=some vs∧RL c.g c.σ l vs:=(X.av_all hs he x).2.1 l h
theorem y1X{c:Cfg}(hs:St c){e:List A}{ev:List Value}(he:RL c.g c.σ e ev){x:X}{qs:List (Nat×A)}(h:x.avp e c.H=some qs):∃ps,x.evp ev c.h=some ps∧RP c.g c.σ qs ps:=(X.av_all hs he x).2.2 qs h
def nmd(σ:Nam)(i ver:Nat)(p:Option (Nat×Nat)):Nam:=fun j w=>if j=i∧w=ver then some p else σ j w
theorem Z2(σ:Nam)(i ver:Nat)(p:Option (Nat×Nat)):nmd σ i ver p i ver=some p:=by simp [nmd]
theorem zT9(σ:Nam){i ver j w:Nat}(p:Option (Nat×Nat))(h:¬(j=i∧w=ver)):nmd σ i ver p j w=σ j w:=by simp only[nmd];rw[if_neg h]
theorem St.free{c:Cfg}(hs:St c){b:Nat}(hb:c.h b=none)(w:Bool):c.g w b=none:=by
 cases hg:c.g w b with
 | none=>rfl
 | some o=>have:=hs.ext w b o hg;rw[hb]at this;cases this
theorem St.turn {c : Cfg} (hs : St c) (n0 : Nat) {i : Nat} {B : Blk} (hi : c.H[i]? = some B) {v' b' s' t : Nat} {cells : List A} {vs z : List Value}
    (hor:(c.σ i B.ver=some (some (b',s'))∧B.ver≤v')∨(c.h b'=none∧B.ver<v')) (hl:(vs++z).length=s') (hr:RL c.g c.σ cells vs) :
    let d:Cfg:=⟨c.g,nmd c.σ i v' (some (b',s')),c.H.set i ⟨v',cells⟩,upd c.h b' (.cells (vs++z).toArray t)⟩
    St d∧Lat n0 c d∧∀j ver p,c.σ j ver=some p→d.σ j ver=some p:=by
  intro d
  have hlt:i<c.H.length:=(List.getElem?_eq_some_iff.1 hi).1
  have hle:∀j ver p,c.σ j ver=some p→d.σ j ver=some p:=by
    intro j ver p hp
    by_cases hc:j=i∧ver=v'
    · obtain⟨rfl,rfl⟩:=hc
      obtain⟨C,h1,h2⟩:=hs.nam _ _ _ hp
      rw[hi]at h1;cases h1
      rcases hor with⟨h3,h4⟩|⟨_,h4⟩
      · have hvv:ver=B.ver:=Nat.le_antisymm h2 h4
        subst hvv
        rw[h3]at hp;cases hp
        exact Z2 _ _ _ _
      · omega
    · exact(zT9 _ _ hc).trans hp
  have hg:∀w,c.g w b'=none:=by
    rcases hor with⟨h3,_⟩|⟨hf,_⟩
    · rcases hs.blk i B hi with⟨e0,_⟩|⟨b0,s0,vs0,z0,t0,e1,e2,e3,e4,e5⟩
      · rw[h3]at e0;cases e0
      · rw[h3]at e1;cases e1;exact e2
    · exact hs.free hf
  have hget:∀j C,(c.H.set i ⟨v',cells⟩)[j]?=some C→(j=i∧C=⟨v',cells⟩)∨(j≠i∧c.H[j]?=some C):=by
    intro j C hj
    rw[List.getElem?_set]at hj
    by_cases hij:i=j
    · rw[if_pos hij]at hj
      first
        | (rw[if_pos hlt]at hj;exact .inl ⟨hij.symm,by cases hj;rfl⟩)
        | exact .inl ⟨hij.symm,by cases hj;rfl⟩
    · rw[if_neg hij]at hj;exact .inr ⟨fun h=>hij h.symm,hj⟩
  have hsig:∀j C,j≠i→c.H[j]?=some C→d.σ j C.ver=c.σ j C.ver:=fun j C hji _=>zT9 _ _ (fun h=>hji h.1)
  have hapart:∀j C bj sj,j≠i→c.H[j]?=some C→c.σ j C.ver=some (some (bj,sj))→bj≠b':=by
    intro j C bj sj hji hj hσ heq
    subst heq
    rcases hor with⟨h3,_⟩|⟨hf,_⟩
    · exact hji (hs.inj j i C B _ _ _ hj hi hσ h3)
    · rcases hs.blk j C hj with⟨k1,_⟩|⟨b1,s1,_,_,_,k1,_,k3,_⟩
      · rw[hσ]at k1;cases k1
      · rw[hσ]at k1;cases k1;rw[hf]at k3;cases k3
  refine⟨⟨fun w=>y1O (hs.ext w) (hg w) _,fun j C hj=>?_,fun j k C D bb s1 s2 hj hk h1 h2=>?_,fun j ver p hp=>?_⟩,⟨rfl,Ext.refl _,fun x hx=>.inl hx,fun x hx=>?_,fun x o hx hn=>?_,fun j C x s1 hj h1=>?_,fun j ver p _ hp=>hle j ver p hp,fun hn=>by simpa [d]using hn⟩,hle⟩
  · rcases hget j C hj with⟨rfl,rfl⟩|⟨hji,hj⟩
    · exact .inr ⟨b',s',vs,z,t,Z2 _ _ _ _,hg,zb7 _ _ _,hl,hr.mono (fun _=>Ext.refl _) hle⟩
    · rcases hs.blk j C hj with⟨k1,k2⟩|⟨b1,s1,vs1,z1,t1,k1,k2,k3,k4,k5⟩
      · exact .inl ⟨(hsig j C hji hj).trans k1,k2⟩
      · refine .inr ⟨b1,s1,vs1,z1,t1,(hsig j C hji hj).trans k1,k2,?_,k4,k5.mono (fun _=>Ext.refl _) hle⟩
        exact(Y7 _ _ (hapart j C b1 s1 hji hj k1)).trans k3
  · rcases hget j C hj with⟨rfl,rfl⟩|⟨hji,hj'⟩<;>rcases hget k D hk with⟨rfl,rfl⟩|⟨hki,hk'⟩
    · rfl
    · rw[show d.σ j v'=_ from Z2 _ _ _ _]at h1;cases h1
      rw[hsig k D hki hk']at h2
      exact absurd rfl (hapart k D _ s2 hki hk' h2)
    · rw[show d.σ k v'=_ from Z2 _ _ _ _]at h2;cases h2
      rw[hsig j C hji hj']at h1
      exact absurd rfl (hapart j C _ s1 hji hj' h1)
    · rw[hsig j C hji hj']at h1;rw[hsig k D hki hk']at h2
      exact hs.inj j k C D _ _ _ hj' hk' h1 h2
  · by_cases hc:j=i∧ver=v'
    · obtain⟨rfl,rfl⟩:=hc
      exact⟨⟨ver,cells⟩,by simp [d,hlt],Nat.le_refl _⟩
    · have hp':c.σ j ver=some p:=by rw[← hp];exact(zT9 _ _ hc).symm
      obtain⟨C,h1,h2⟩:=hs.nam j ver p hp'
      by_cases hji:j=i
      · subst hji
        rw[hi]at h1;cases h1
        exact⟨⟨v',cells⟩,by simp [d,hlt],by simp only;omega⟩
      · exact⟨C,by simp only[d];rw[List.getElem?_set_ne (Ne.symm hji)];exact h1,h2⟩
  · simp only[d,upd];split
    · simp
    · exact hx
  · refine(Y7 _ _ ?_).trans hx
    rintro rfl
    rcases hor with⟨h3,_⟩|⟨hf,_⟩
    · exact hn i B _ hi h3
    · rw[hf]at hx;cases hx
  · rcases hget j C hj with⟨rfl,rfl⟩|⟨hji,hj'⟩
    · rw[show d.σ j v'=_ from Z2 _ _ _ _]at h1;cases h1
      rcases hor with⟨h3,_⟩|⟨hf,_⟩
      · exact .inr ⟨j,B,_,hi,h3,.inl rfl⟩
      · exact .inl hf
    · rw[hsig j C hji hj']at h1
      exact .inr ⟨j,C,s1,hj',h1,.inl rfl⟩
theorem St.bump{c:Cfg}(hs:St c)(n0:Nat){i:Nat}{B:Blk}(hi:c.H[i]?=some B)(hv:c.σ i B.ver=some none):
    let d:Cfg:=⟨c.g,nmd c.σ i (B.ver+1) none,c.H.set i ⟨B.ver+1,[]⟩,c.h⟩
    St d∧Lat n0 c d∧∀j ver p,c.σ j ver=some p→d.σ j ver=some p:=by
  intro d
  have hlt:i<c.H.length:=(List.getElem?_eq_some_iff.1 hi).1
  have hle:∀j ver p,c.σ j ver=some p→d.σ j ver=some p:=by
    intro j ver p hp
    refine(zT9 _ _ ?_).trans hp
    rintro⟨rfl,rfl⟩
    obtain⟨C,h1,h2⟩:=hs.nam _ _ _ hp
    rw[hi]at h1;cases h1
    omega
  have hget:∀j C,(c.H.set i ⟨B.ver+1,[]⟩)[j]?=some C→(j=i∧C=⟨B.ver+1,[]⟩)∨(j≠i∧c.H[j]?=some C):=by
    intro j C hj
    rw[List.getElem?_set]at hj
    by_cases hij:i=j
    · rw[if_pos hij]at hj
      first
        | (rw[if_pos hlt]at hj;exact .inl ⟨hij.symm,by cases hj;rfl⟩)
        | exact .inl ⟨hij.symm,by cases hj;rfl⟩
    · rw[if_neg hij]at hj;exact .inr ⟨fun h=>hij h.symm,hj⟩
  have hsig:∀j C,j≠i→d.σ j C.ver=c.σ j (Blk.ver C):=fun j C hji=>zT9 _ _ (fun h=>hji h.1)
  have hnone:d.σ i (B.ver+1)=some none:=Z2 _ _ _ _
  refine⟨⟨hs.ext,fun j C hj=>?_,fun j k C D bb s1 s2 hj hk h1 h2=>?_,fun j ver p hp=>?_⟩,⟨rfl,Ext.refl _,fun x hx=>.inl hx,fun x hx=>hx,fun x o hx hn=>hx,fun j C x s1 hj h1=>?_,fun j ver p _ hp=>hle j ver p hp,fun hn=>by simpa [d]using hn⟩,hle⟩
  · rcases hget j C hj with⟨rfl,rfl⟩|⟨hji,hj⟩
    · exact .inl ⟨hnone,rfl⟩
    · rcases hs.blk j C hj with⟨k1,k2⟩|⟨b1,s1,vs1,z1,t1,k1,k2,k3,k4,k5⟩
      · exact .inl ⟨(hsig j C hji).trans k1,k2⟩
      · exact .inr ⟨b1,s1,vs1,z1,t1,(hsig j C hji).trans k1,k2,k3,k4,k5.mono (fun _=>Ext.refl _) hle⟩
  · rcases hget j C hj with⟨rfl,rfl⟩|⟨hji,hj'⟩
    · rw[hnone]at h1;cases h1
    · rcases hget k D hk with⟨rfl,rfl⟩|⟨hki,hk'⟩
      · rw[hnone]at h2;cases h2
      · rw[hsig j C hji]at h1;rw[hsig k D hki]at h2
        exact hs.inj j k C D _ _ _ hj' hk' h1 h2
  · by_cases hc:j=i∧ver=B.ver+1
    · obtain⟨rfl,rfl⟩:=hc
      exact⟨⟨B.ver+1,[]⟩,by simp [d,hlt],Nat.le_refl _⟩
    · have hp':c.σ j ver=some p:=by rw[← hp];exact(zT9 _ _ hc).symm
      obtain⟨C,h1,h2⟩:=hs.nam j ver p hp'
      by_cases hji:j=i
      · subst hji
        rw[hi]at h1;cases h1
        exact⟨⟨B.ver+1,[]⟩,by simp [d,hlt],by simp only;omega⟩
      · exact⟨C,by simp only[d];rw[List.getElem?_set_ne (Ne.symm hji)];exact h1,h2⟩
  · rcases hget j C hj with⟨rfl,rfl⟩|⟨hji,hj'⟩
    · rw[hnone]at h1;cases h1
    · rw[hsig j C hji]at h1
      exact .inr ⟨j,C,s1,hj',h1,.inl rfl⟩
theorem St.virt{c:Cfg}(hs:St c)(n0:Nat):
    let d:Cfg:=⟨c.g,nmd c.σ c.H.length 0 none,c.H++[⟨0,[]⟩],c.h⟩
    St d∧Lat n0 c d∧∀j ver p,c.σ j ver=some p→d.σ j ver=some p:=by
  intro d
  have hlt:∀j ver p,c.σ j ver=some p→j<c.H.length:=fun j ver p hp=>by
    obtain⟨B,h1,_⟩:=hs.nam j ver p hp;exact(List.getElem?_eq_some_iff.1 h1).1
  have hle:∀j ver p,c.σ j ver=some p→d.σ j ver=some p:=fun j ver p hp=>(zT9 _ _ (fun h=>by have:=hlt j ver p hp;omega)).trans hp
  have hget:∀j C,(c.H++[(⟨0,[]⟩:Blk)])[j]?=some C→(j=c.H.length∧C=⟨0,[]⟩)∨c.H[j]?=some C:=by
    intro j C hj
    by_cases h1:j<c.H.length
    · rw[List.getElem?_append_left h1]at hj;exact .inr hj
    · rw[List.getElem?_append_right (by omega)]at hj
      by_cases h2:j=c.H.length
      · subst h2;simp at hj;exact .inl ⟨rfl,hj.symm⟩
      · rw[List.getElem?_eq_none (by simp;omega)]at hj;cases hj
  have hold:∀j C p,c.H[j]?=some C→d.σ j C.ver=some p→c.σ j C.ver=some p:=fun j C p hj h1=>by
    rw[← h1];exact(zT9 _ _ (fun h=>by have:=(List.getElem?_eq_some_iff.1 hj).1;omega)).symm
  have hnone:d.σ c.H.length 0=some none:=Z2 _ _ _ _
  refine⟨⟨hs.ext,fun j C hj=>?_,fun j k C D bb s1 s2 hj hk h1 h2=>?_,fun j ver p hp=>?_⟩,⟨rfl,Ext.refl _,fun x hx=>.inl hx,fun x hx=>hx,fun x o hx hn=>hx,fun j C x s1 hj h1=>?_,fun j ver p _ hp=>hle j ver p hp,fun hn=>by simp [d];omega⟩,hle⟩
  · rcases hget j C hj with⟨rfl,rfl⟩|hj
    · exact .inl ⟨hnone,rfl⟩
    · rcases hs.blk j C hj with⟨k1,k2⟩|⟨b1,s1,vs1,z1,t1,k1,k2,k3,k4,k5⟩
      · exact .inl ⟨hle _ _ _ k1,k2⟩
      · exact .inr ⟨b1,s1,vs1,z1,t1,hle _ _ _ k1,k2,k3,k4,k5.mono (fun _=>Ext.refl _) hle⟩
  · rcases hget j C hj with⟨rfl,rfl⟩|hj'
    · rw[hnone]at h1;cases h1
    · rcases hget k D hk with⟨rfl,rfl⟩|hk'
      · rw[hnone]at h2;cases h2
      · exact hs.inj j k C D _ _ _ hj' hk' (hold j C _ hj' h1) (hold k D _ hk' h2)
  · by_cases hc:j=c.H.length∧ver=0
    · obtain⟨rfl,rfl⟩:=hc
      exact⟨⟨0,[]⟩,by simp [d],Nat.le_refl _⟩
    · have hp':c.σ j ver=some p:=by rw[← hp];exact(zT9 _ _ hc).symm
      obtain⟨C,h1,h2⟩:=hs.nam j ver p hp'
      exact⟨C,by simp only[d];rw[List.getElem?_append_left (List.getElem?_eq_some_iff.1 h1).1];exact h1,h2⟩
  · rcases hget j C hj with⟨rfl,rfl⟩|hj'
    · rw[hnone]at h1;cases h1
    · exact .inr ⟨j,C,s1,hj',hold j C _ hj' h1,.inl rfl⟩
theorem St.alloc{c:Cfg}(hs:St c)(n0:Nat){b t:Nat}(hb:c.h b=none){cells:List A}{vs z:List Value}(hr:RL c.g c.σ cells vs):
    let d:Cfg:=⟨c.g,nmd c.σ c.H.length 0 (some (b,(vs++z).length)),c.H++[⟨0,cells⟩],upd c.h b (.cells (vs++z).toArray t)⟩
    St d∧Lat n0 c d∧∀j ver p,c.σ j ver=some p→d.σ j ver=some p:=by
  intro d
  have hlt:∀j ver p,c.σ j ver=some p→j<c.H.length:=fun j ver p hp=>by
    obtain⟨B,h1,_⟩:=hs.nam j ver p hp;exact(List.getElem?_eq_some_iff.1 h1).1
  have hle:∀j ver p,c.σ j ver=some p→d.σ j ver=some p:=fun j ver p hp=>(zT9 _ _ (fun h=>by have:=hlt j ver p hp;omega)).trans hp
  have hget:∀j C,(c.H++[(⟨0,cells⟩:Blk)])[j]?=some C→(j=c.H.length∧C=⟨0,cells⟩)∨c.H[j]?=some C:=by
    intro j C hj
    by_cases h1:j<c.H.length
    · rw[List.getElem?_append_left h1]at hj;exact .inr hj
    · rw[List.getElem?_append_right (by omega)]at hj
      by_cases h2:j=c.H.length
      · subst h2;simp at hj;exact .inl ⟨rfl,hj.symm⟩
      · rw[List.getElem?_eq_none (by simp;omega)]at hj;cases hj
  have hold:∀j C b1 s1,c.H[j]?=some C→d.σ j C.ver=some (some (b1,s1))→c.σ j C.ver=some (some (b1,s1)):=fun j C b1 s1 hj h1=>by
    rw[← h1];exact(zT9 _ _ (fun h=>by have:=(List.getElem?_eq_some_iff.1 hj).1;omega)).symm
  have hne:∀j C b1 s1,c.H[j]?=some C→c.σ j C.ver=some (some (b1,s1))→b1≠b:=by
    rintro j C b1 s1 hj h1 rfl
    rcases hs.blk j C hj with⟨k1,_⟩|⟨b2,s2,_,_,_,k1,_,k3,_⟩
    · rw[h1]at k1;cases k1
    · rw[h1]at k1;cases k1;rw[hb]at k3;cases k3
  refine⟨⟨fun w=>y1O (hs.ext w) (hs.free hb w) _,fun j C hj=>?_,fun j k C D bb s1 s2 hj hk h1 h2=>?_,fun j ver p hp=>?_⟩,⟨rfl,Ext.refl _,fun x hx=>.inl hx,fun x hx=>?_,fun x o hx hn=>?_,fun j C x s1 hj h1=>?_,fun j ver p _ hp=>hle j ver p hp,fun hn=>by simp [d];omega⟩,hle⟩
  · rcases hget j C hj with⟨rfl,rfl⟩|hj
    · exact .inr ⟨b,_,vs,z,t,Z2 _ _ _ _,hs.free hb,zb7 _ _ _,rfl,hr.mono (fun _=>Ext.refl _) hle⟩
    · rcases hs.blk j C hj with⟨k1,k2⟩|⟨b1,s1,vs1,z1,t1,k1,k2,k3,k4,k5⟩
      · exact .inl ⟨hle _ _ _ k1,k2⟩
      · exact .inr ⟨b1,s1,vs1,z1,t1,hle _ _ _ k1,k2,(Y7 _ _ (hne j C b1 s1 hj k1)).trans k3,k4,k5.mono (fun _=>Ext.refl _) hle⟩
  · rcases hget j C hj with⟨rfl,rfl⟩|hj<;>rcases hget k D hk with⟨rfl,rfl⟩|hk
    · rfl
    · rw[show d.σ c.H.length 0=_ from Z2 _ _ _ _]at h1;cases h1
      exact absurd rfl (hne k D _ s2 hk (hold k D _ _ hk h2))
    · rw[show d.σ c.H.length 0=_ from Z2 _ _ _ _]at h2;cases h2
      exact absurd rfl (hne j C _ s1 hj (hold j C _ _ hj h1))
    · exact hs.inj j k C D _ _ _ hj hk (hold j C _ _ hj h1) (hold k D _ _ hk h2)
  · by_cases hc:j=c.H.length∧ver=0
    · obtain⟨rfl,rfl⟩:=hc
      exact⟨⟨0,cells⟩,by simp [d],Nat.le_refl _⟩
    · have hp':c.σ j ver=some p:=by rw[← hp];exact(zT9 _ _ hc).symm
      obtain⟨C,h1,h2⟩:=hs.nam j ver p hp'
      exact⟨C,by simp only[d];rw[List.getElem?_append_left (List.getElem?_eq_some_iff.1 h1).1];exact h1,h2⟩
  · simp only[d,upd];split
    · simp
    · exact hx
  · exact(Y7 _ _ (by rintro rfl;rw[hb]at hx;cases hx)).trans hx
  · rcases hget j C hj with⟨rfl,rfl⟩|hj
    · rw[show d.σ c.H.length 0=_ from Z2 _ _ _ _]at h1;cases h1
      exact .inl hb
    · exact .inr ⟨j,C,s1,hj,hold j C _ _ hj h1,.inl rfl⟩
def za5(size:Nat):List A→Option (List A)
 | []=>some []
 | a :: r=>a.cells.bind fun cs=>if cs.length=size then(za5 size r).bind fun l=>some (cs++l)else none
theorem yO5{k:Nat}:∀(fl:List (List Value)),(∀x∈fl,x.length=k)→fl.flatten.length=fl.length*k∧∀i x,fl[i]?=some x→(fl.flatten.drop (i*k)).take k=x
 | [],_=>by simp
 | y :: r,h=>by
  obtain⟨h1,h2⟩:=yO5 r fun x hx=>h x (by simp [hx])
  have hy:=h y (by simp)
  refine⟨by simp only[List.flatten_cons,List.length_append,List.length_cons];rw[h1,hy,Nat.add_mul];omega,fun i x hx=>?_⟩
  cases i with
  | zero=>simp at hx;subst hx;simp [← hy]
  | succ i =>
   simp at hx
   have:=h2 i x hx
   rw[List.flatten_cons,show(i+1)*k=y.length+i*k by rw[Nat.add_mul,hy];omega,List.drop_append,List.drop_eq_nil_of_le (by omega),Nat.add_sub_cancel_left]
   simpa using this
theorem yO6{g:Bool→Heap}{σ:Nam}{k:Nat}:∀(l:List A) (fl:List (List Value)) (c:List A),l.length=fl.length →
    (∀(i:Nat) (a:A) (x:List Value),l[i]?=some a→fl[i]?=some x→∃cs,a.cells=some cs∧cs.length=k∧RL g σ cs x)→za5 k l=some c→RL g σ c fl.flatten
  | [],fl,c,hl,_,h=>by
    have:fl=[]:=by cases fl<;>simp at hl ⊢
    subst this;cases h;exact RL.nil
  | a :: r,fl,c,hl,hh,h=>by
    cases fl with
    | nil=>simp at hl
    | cons x fl =>
      obtain⟨cs,h1,h2,h3⟩:=hh 0 a x (by simp) (by simp)
      simp only[za5,h1,Option.bind_some,h2,if_true,Option.bind_eq_some_iff]at h
      obtain⟨m,h4,h5⟩:=h
      cases h5
      exact h3.app (yO6 r fl m (by simpa using hl) (fun i a x g1 g2=>hh (i+1) a x (by simpa using g1) (by simpa using g2)) h4)
def zz6(H:List Blk)(size:Nat):A→Option (Nat×List A)
 | .v (.slice _ 0 _)=>some (0,[])
 | .fs w l=>(za5 size l).bind fun cs=>if cs.all A.one=true then some (l.length,cs)else none
 | .vs j ver k m=>if k=size then(blkAt H j ver).bind fun l=>if m*size≤l.length∧(l.take (m*size)).all A.one=true then some (m,l.take (m*size))else none else none
 | .sl j ver k o m=>if k=size then(blkAt H j ver).bind fun l=>if o+m*size≤l.length∧((l.drop o).take (m*size)).all A.one=true then some (m,(l.drop o).take (m*size))else none else none
 | _=>none
theorem yg9{c:Cfg}(hs:St c){size m:Nat}{x:A}{v:Value}{news:List A}(h:zz6 c.H size x=some (m,news))(hr:Rel c.g c.σ x v):
    ∃y cp ns,v=.slice y m cp∧cellsOf c.h size m v=some ns∧RL c.g c.σ news ns∧news.length=m*size∧ns.all one=true∧∀q,q≤m→cellsOf c.h size q v=some (ns.take (q*size)):=by
  have key:∀{y:Option Addr} {cp:Nat} {ns:List Value},v=.slice y m cp→cellsOf c.h size m v=some ns→ns.length=m*size→∀q,q≤m→cellsOf c.h size q v=some (ns.take (q*size)):=by
    intro y cp ns hv hc hl q hq
    subst hv
    unfold cellsOf at hc ⊢
    by_cases hq0:q*size=0
    · rw[if_pos hq0];simp [hq0]
    · rw[if_neg hq0]
      have hm0:m*size≠0:=by
        intro h0
        have:q*size≤m*size:=Nat.mul_le_mul_right size hq
        omega
      rw[if_neg hm0]at hc
      cases y with
      | none=>cases hc;simp
      | some y =>
        obtain⟨b,o,s⟩:=y
        cases s with
        | some s=>cases hc
        | none =>
          have:=yG8 hc (p:=0) (n:=q*size) (by have:q*size≤m*size:=Nat.mul_le_mul_right size hq;omega)
          simpa using this
  unfold zz6 at h
  split at h
  · cases hr
    cases h
    exact⟨_,_,[],rfl,by simp [cellsOf],RL.nil,by simp,rfl,fun q hq=>by
      have:q=0:=by omega
      subst this;simp [cellsOf]⟩
  · rename_i w l
    cases hr with
    | fs0 w a cp =>
      simp only[za5,Option.bind_some,List.all_nil,if_true,List.length_nil]at h
      cases h
      exact⟨a,cp,[],rfl,by simp [cellsOf],RL.nil,by simp,rfl,fun q hq=>by
        have:q=0:=by omega
        subst this;simp [cellsOf]⟩
    | fs w l b o cp k f h1 h2 h3 =>
      simp only[Option.bind_eq_some_iff]at h
      obtain⟨cs,g1,g2⟩:=h
      split at g2
      · rename_i hone
        cases g2
        by_cases hl0:l.length=0
        · have:l=[]:=by cases l<;>simp at hl0 ⊢
          subst this
          simp [za5]at g1;subst g1
          exact⟨_,_,[],rfl,by simp [cellsOf],RL.nil,by simp,rfl,fun q hq=>by
            have:q=0:=by simpa using hq
            subst this;simp [cellsOf]⟩
        have hk:k=size:=by
          obtain⟨a,r,hl⟩:∃a r,l=a :: r:=by cases l with|nil=>simp at hl0|cons a r=>exact⟨a,r,rfl⟩
          subst hl
          obtain⟨ca,e1,e2,_⟩:=h2 0 a (by simp)
          simp only[za5,e1,Option.bind_some]at g1
          split at g1
          · omega
          · cases g1
        subst hk
        let fl:=(List.range l.length).map f
        have hfl:∀i x,fl[i]?=some x→x=f i∧i<l.length:=fun i x hx=>by
          simp only[fl,List.getElem?_map,Option.map_eq_some_iff]at hx
          obtain⟨j,hj,rfl⟩:=hx
          have hi:i<l.length:=by have:=(List.getElem?_eq_some_iff.1 hj).1;simpa using this
          rw[List.getElem?_range hi]at hj
          cases hj
          exact⟨rfl,hi⟩
        have hk2:∀x∈fl,x.length=k:=by
          intro x hx
          obtain⟨i,hi,rfl⟩:=List.mem_iff_getElem.1 hx
          have hi':i<l.length:=by simpa [fl]using hi
          obtain⟨ca,e1,e2,e3⟩:=h2 i l[i] (by simp [hi'])
          simp only[fl,List.getElem_map,List.getElem_range]
          exact zD4 e3
        obtain⟨f1,f2⟩:=yO5 fl hk2
        have hfll:fl.length=l.length:=by simp [fl]
        have hrl:RL c.g c.σ news fl.flatten:=yO6 l fl news hfll.symm (fun i a x g3 g4=>by
          obtain⟨rfl,hi⟩:=hfl i x g4
          obtain⟨ca,e1,e2,e3⟩:=h2 i a g3
          exact⟨ca,e1,e2,by rw[zD4 e3];exact e2,fun j q y k1 k2=>h3 i a ca j q y g3 e1 k1 k2⟩) g1
        have hsl:Sl c.h k (.slice (some ⟨b,o,none⟩) l.length cp) l.length f:=⟨.inr ⟨b,o,cp,rfl,h1,fun i hi=>by
          obtain⟨ca,e1,e2,e3⟩:=h2 i l[i] (by simp [hi])
          exact zz5 (hs.ext w) e3⟩⟩
        have hco:cellsOf c.h k l.length (.slice (some ⟨b,o,none⟩) l.length cp)=some fl.flatten:=Sl.cells hsl (by rw[f1,hfll]) (fun i hi=>f2 i (f i) (by simp [fl,hi]))
        exact⟨_,_,fl.flatten,rfl,hco,hrl,by rw[hrl.1,f1,hfll],hrl.one hone,key rfl hco (by rw[f1,hfll])⟩
      · cases g2
  · rename_i j ver k mm
    split at h
    · rename_i hk
      subst hk
      cases hb:Lft.blkAt c.H j ver with
      | none=>rw[hb]at h;cases h
      | some l =>
        rw[hb]at h
        simp only[Option.bind_some]at h
        split at h
        · rename_i hc
          cases h
          cases hr with
          | vs0 j ver k h1 =>
            refine⟨none,0,[],rfl,by simp [cellsOf],?_,by simp,rfl,fun q hq=>?_⟩
            · simp;exact RL.nil
            · have:q=0:=by omega
              subst this;simp [cellsOf]
          | vs j ver k n b s o' cp h1 h2 h3 =>
            obtain⟨b',s',vs,z,t,e1,e2,e3,e4,e5⟩:=hs.blkAt hb h1
            rw[h1]at e1;cases e1
            have hrl:=e5.take (m*k)
            have hlen:(l.take (m*k)).length=m*k:=by simp;omega
            have hlv:(vs.take (m*k)).length=m*k:=by rw[← hrl.1,hlen]
            have hco:cellsOf c.h k m (.slice (some ⟨b,o',none⟩) m cp)=some (vs.take (m*k)):=by
              unfold cellsOf
              split
              · rename_i h0;simp [h0]
              · rename_i h0
                have hcp:0<cp:=by
                  apply Nat.pos_of_ne_zero;intro hc0
                  have:m=0:=by omega
                  exact h0 (by simp [this])
                obtain⟨rfl,_⟩:=h3 hcp
                simp only
                have:=zD5 e3 (o:=0) (n:=m*k) (by have:=e5.1;omega)
                simpa using this
            exact⟨_,_,_,rfl,hco,hrl,hlen,hrl.one hc.2,key rfl hco hlv⟩
        · cases h
    · cases h
  · rename_i j ver k o mm
    cases hr with
    | sl j ver k o n b s o' cp h1 h2 h3 =>
      split at h
      · rename_i hk
        subst hk
        cases hb:Lft.blkAt c.H j ver with
        | none=>rw[hb]at h;cases h
        | some l =>
          rw[hb]at h
          simp only[Option.bind_some]at h
          split at h
          · rename_i hc
            cases h
            obtain⟨b',s',vs,z,t,e1,e2,e3,e4,e5⟩:=hs.blkAt hb h1
            rw[h1]at e1;cases e1
            have hrl:=(e5.drop o).take (m*k)
            have hlen:((l.drop o).take (m*k)).length=m*k:=by simp;omega
            have hlv:((vs.drop o).take (m*k)).length=m*k:=by rw[← hrl.1,hlen]
            have hco:cellsOf c.h k m (.slice (some ⟨b,o',none⟩) m cp)=some ((vs.drop o).take (m*k)):=by
              unfold cellsOf
              split
              · rename_i h0;simp [h0]
              · rename_i h0
                have hcp:0<cp:=by
                  apply Nat.pos_of_ne_zero;intro hc0
                  have:m=0:=by omega
                  exact h0 (by simp [this])
                obtain⟨rfl,_⟩:=h3 hcp
                simp only
                exact zD5 e3 (by have:=e5.1;omega)
            exact⟨_,_,_,rfl,hco,hrl,hlen,hrl.one hc.2,key rfl hco hlv⟩
          · cases h
      · cases h
  · cases h
theorem y5V{α:Type}(m n:Nat)(z:List α):repA (m+n) z=repA m z++repA n z:=by
 unfold repA;rw[← List.replicate_append_replicate,List.flatten_append]
theorem yO7{α:Type}(n:Nat)(a:α):repA n [a]=List.replicate n a:=by
 unfold repA;induction n with
 | zero=>rfl
 | succ n ih=>rw[List.replicate_succ,List.flatten_cons,ih];rfl
theorem yk7{g:Bool→Heap}{σ:Nam}(n:Nat)(z:List Value):RL g σ (repA n (z.map .v)) (repA n z):=by
 unfold repA;induction n with
 | zero=>exact RL.nil
 | succ n ih =>
  rw[List.replicate_succ,List.flatten_cons,List.replicate_succ,List.flatten_cons]
  exact RL.app ⟨by simp,fun i a x h1 h2=>by rw[List.getElem?_map,h2]at h1;cases h1;exact .v x⟩ ih
def mkA(la ca:A)(bytes:Nat)(K:Int→Int→Prop):Prop :=
 ∃(kl kc:IntKind) (li ci:Int),la=.v (.int kl li)∧ca=.v (.int kc ci)∧0≤li∧li≤ci∧(bytes:Int)*ci≤281474976710656∧ci≤9223372036854775807∧K li ci
def appA(kp:Bool)(H:List Blk)(size bytes:Nat)(m:Nat)(news:List A)(R:A→List Blk→Prop):A→Prop
  | .v (.slice none 0 0)=>m*bytes≤140737488355328∧m≤9223372036854775807∧(m=0→R (.v (.slice none 0 0)) H)∧(0<m→R (.sl H.length 0 size 0 m) (H++[⟨0,news⟩]))
  | .sl i ver k 0 n => kp = false ∧ k = size ∧ (n + m) * bytes ≤ 140737488355328 ∧ n + m ≤ 9223372036854775807 ∧
      bw (blkAt H i ver) fun cs=>n*size≤cs.length∧R (.sl i (ver+1) size 0 (n+m)) (H.set i ⟨ver+1,cs.take (n*size)++news⟩)
  | .vs i ver k n => kp = false ∧ k = size ∧ (n + m) * bytes ≤ 140737488355328 ∧ n + m ≤ 9223372036854775807 ∧
      bw (blkAt H i ver) fun cs=>n*size≤cs.length∧R (.vs i (ver+1) size (n+m)) (H.set i ⟨ver+1,cs.take (n*size)++news⟩)
  | _=>False
def cpyA(H:List Blk)(size m:Nat)(news:List A)(R:A→List Blk→Prop):A→Prop
 | .sl i ver k o n=>k=size∧bw (blkAt H i ver) fun l=>o+n*size≤l.length∧R (.v (.int .i64 (min m n:Nat))) (H.set i ⟨ver,splA l o (news.take (min m n*size))⟩)
 | _=>False
def clrA(H:List Blk)(z:List Value)(R:A→List Blk→Prop):A→Prop
 | .sl i ver k o n=>k=z.length∧bw (blkAt H i ver) fun l=>o+n*z.length≤l.length∧R (.v undef) (H.set i ⟨ver,splA l o (repA n (z.map .v))⟩)
 | _=>False
def stA(H:List Blk)(cs:List A)(R:A→List Blk→Prop):A→Prop
 | .lp i ver o=>bw (blkAt H i ver) fun l=>o+cs.length≤l.length∧R (.v undef) (H.set i ⟨ver,splA l o cs⟩)
 | _=>False
def E.aw(kp:Bool)(e:List A)(H:List Blk)(R:A→List Blk→Prop):E→Prop
 | .alloc t z=>R (.lp H.length 0 0) (H++[⟨0,z.map .v⟩])
 | .box t x=>bw (x.av e H) fun a=>bw a.cells fun cs=>R (.lp H.length 0 0) (H++[⟨0,cs⟩])
 | .mk t size bytes z l c=>bw (l.av e H) fun la=>bw (c.av e H) fun ca=>mkA la ca bytes fun li ci=>z.length=size∧R (.sl H.length 0 size 0 li.toNat) (H++[⟨0,repA li.toNat (z.map .v)⟩])
 | .lit t size len z ps=>bw (ps.avp e H) fun qs=>bw (z5h (repA len (z.map .v)) qs) fun cs=>z.length=size∧R (.sl H.length 0 size 0 len) (H++[⟨0,cs⟩])
 | .app t size bytes z s x=>bw (s.av e H) fun sa=>bw (x.av e H) fun xa=>bw (zz6 H size xa) fun p=>appA kp H size bytes p.1 p.2 R sa
 | .cpy size d s=>kp=false∧bw (d.av e H) fun da=>bw (s.av e H) fun xa=>bw (zz6 H size xa) fun p=>cpyA H size p.1 p.2 R da
 | .clr z s=>kp=false∧z.all one=true∧bw (s.av e H) fun sa=>clrA H z R sa
 | .st n p v=>kp=false∧bw (p.av e H) fun pa=>bw (v.av e H) fun va=>bw va.cells fun cs=>cs.length=n∧stA H cs R pa
def Out(n0:Nat)(c:Cfg)(e:List A)(ev:List Value)(R:A→List Blk→Prop)(v:Value)(h':Heap):Prop :=
 ∃(r:A) (d:Cfg),d.h=h'∧R r d.H∧Lat n0 c d∧St d∧Rel d.g d.σ r v∧RL d.g d.σ e ev
theorem yO8{h:Heap}{b o t:Nat}{vs z news:List Value}{i:Nat}(hb:h b=some (.cells (vs++z).toArray t (0,0)))(hi:o+i+news.length≤(vs++z).length)(h1:news.all one=true)(hne:news≠[]):
    wr0 h (some ⟨b,o,none⟩) i news=some (upd h b (.cells ((vs++z).take (o+i)++news++(vs++z).drop (o+i+news.length)).toArray t)):=by
  cases news with
  | nil=>exact absurd rfl hne
  | cons v r=>exact y64 hb hi h1
theorem E.aw_sound{c:Cfg}(n0:Nat)(hs:St c){kp:Bool}{e:List A}{ev:List Value}(he:RL c.g c.σ e ev){R:A→List Blk→Prop}:∀{f:E},f.aw kp e c.H R →
    f.ok ev c.h (fun v h'=>(kp=true→Ext c.h h')∧Out n0 c e ev R v h'):=by
  intro f h
  have fresh : ∀ {b t : Nat} (hb : c.h b = none) {cells : List A} {vs z : List Value} (hr : RL c.g c.σ cells vs) {r : A} {v : Value},
      R r (c.H++[⟨0,cells⟩])→Rel c.g (nmd c.σ c.H.length 0 (some (b,(vs++z).length))) r v→(kp=true→Ext c.h (upd c.h b (.cells (vs++z).toArray t)))∧Out n0 c e ev R v (upd c.h b (.cells (vs++z).toArray t)):=by
    intro b t hb cells vs z hr r v hR hrv
    obtain⟨g1,g2,g3⟩:=hs.alloc n0 (t:=t) hb (z:=z) hr
    exact⟨fun _=>y89 hb _,r,_,rfl,hR,g2,g1,hrv,he.mono (fun _=>Ext.refl _) g3⟩
  cases f with
  | alloc t z =>
    intro b hb
    have hz:RL c.g c.σ (z.map .v) z:=⟨by simp,fun i a x h1 h2=>by rw[List.getElem?_map,h2]at h1;cases h1;exact .v x⟩
    have:=fresh (t:=t) hb (z:=[]) hz (r:=.lp c.H.length 0 0) (v:=.pointer (some ⟨b,0,none⟩)) h (.lp _ _ _ _ _ (Z2 _ _ _ _))
    simpa using this
  | box t x =>
    obtain⟨a,h1,cs,h2,h3⟩:=h
    obtain⟨v,h4,h5⟩:=za8 hs he h1
    obtain⟨h6,h7⟩:=h5.cells h2
    refine⟨v,h4,fun b hb=>?_⟩
    have:=fresh (t:=t) hb (z:=[]) h6 (r:=.lp c.H.length 0 0) (v:=.pointer (some ⟨b,0,none⟩)) h3 (.lp _ _ _ _ _ (Z2 _ _ _ _))
    simpa using this
  | mk t size bytes z l cc =>
    obtain⟨la,h1,ca,h2,kl,kc,li,ci,rfl,rfl,h3,h4,h5,h6,h7,h8⟩:=h
    obtain⟨v1,g1,g2⟩:=za8 hs he h1
    obtain⟨v2,g3,g4⟩:=za8 hs he h2
    cases g2;cases g4
    refine⟨kl,kc,li,ci,g1,g3,h3,h4,h5,h6,fun b hb=>?_⟩
    have hm:=yk4 z ci.toNat
    rw[h7,show ci.toNat=li.toNat+(ci.toNat-li.toNat) by omega,y5V]at hm
    have harr:madeCells z.toArray ((li.toNat+(ci.toNat-li.toNat))*size)=(repA li.toNat z++repA (ci.toNat-li.toNat) z).toArray:=by apply Array.ext';rw[hm]
    rw[show ci.toNat*size=(li.toNat+(ci.toNat-li.toNat))*size by congr 1;omega,harr]
    refine fresh hb (yk7 _ _) h8 (.sl _ _ _ _ _ _ _ _ _ (Z2 _ _ _ _) (by omega) fun _=>⟨rfl,?_⟩)
    rw[List.length_append,z26,z26,h7,← Nat.add_mul,Nat.zero_add]
    apply Nat.mul_le_mul_right;omega
  | lit t size len z ps =>
    obtain⟨qs,h1,cs,h2,h3,h4⟩:=h
    obtain⟨vs,h5,h6⟩:=y1X hs he h1
    obtain⟨ws,h7,h8⟩:=z5i qs vs _ _ cs h6 (yk7 len z) h2
    have hm:madeCells z.toArray (len*size)=(repA len z).toArray:=by apply Array.ext';rw[← h3,yk4]
    refine⟨vs,_,h5,by rw[hm];exact h7,fun b hb=>?_⟩
    have hwl:ws.length=len*size:=by
      have e1:=h8.1
      have e2:∀(qs:List (Nat×A)) (c c':List A),z5h c qs=some c'→c'.length=c.length:=by
        intro qs
        induction qs with
        | nil=>intro c c' h;cases h;rfl
        | cons q r ih =>
          intro c c' h
          obtain⟨off,a⟩:=q
          simp only[z5h,Option.bind_eq_some_iff]at h
          obtain⟨cs,_,h⟩:=h
          split at h
          · rw[ih _ _ h];simp [splA];omega
          · cases h
      rw[← e1,e2 qs _ _ h2,z26];simp [h3]
    have:=fresh (t:=t) hb (z:=[]) h8 (r:=.sl c.H.length 0 size 0 len) (v:=.slice (some ⟨b,0,none⟩) len len) h4 (.sl _ _ _ _ _ _ _ _ _ (Z2 _ _ _ _) (Nat.le_refl _) fun _=>⟨rfl,by simp [hwl]⟩)
    simpa using this
  | app t size bytes z s x =>
    obtain⟨sa,h1,xa,h2,⟨m,news⟩,h3,h4⟩:=h
    obtain⟨v1,g1,g2⟩:=za8 hs he h1
    obtain⟨v2,g3,g4⟩:=za8 hs he h2
    obtain⟨y,cp,ns,rfl,k1,k2,k3,k4,k5⟩:=yg9 hs h3 g4
    simp only at h4
    unfold appA at h4
    split at h4
    · cases g2
      obtain⟨b1,b2,b3,b4⟩:=h4
      refine⟨none,0,0,y,m,cp,ns,g1,g3,k1,by simpa using b1,by simpa using b2,fun hle=>?_,fun hlt=>?_⟩
      · have hm:m=0:=by omega
        subst hm
        have hns:ns=[]:=by have:=k2.1;rw[k3]at this;simp at this;exact List.length_eq_zero_iff.1 this.symm
        subst hns
        exact⟨c.h,rfl,fun _=>Ext.refl _,_,c,rfl,b3 rfl,Lat.refl _ _,hs,.v _,he⟩
      · refine⟨[],by simp [cellsOf],fun cap b hb hc1 hc2=>?_⟩
        have harr:(([]:List Value)++ns).toArray++madeCells z.toArray ((cap-(0+m))*size)=(ns++(madeCells z.toArray ((cap-(0+m))*size)).toList).toArray:=by apply Array.ext';simp
        rw[harr]
        rw[show 0+m=m by omega]at hc1 ⊢
        refine fresh hb k2 (b4 (by omega)) (.sl _ _ _ _ _ _ _ _ _ (Z2 _ _ _ _) hc1 fun _=>⟨rfl,?_⟩)
        have hl:ns.length=m*size:=by rw[← k2.1,k3]
        simp only[List.length_append,hl]
        have:(madeCells z.toArray ((cap-m)*size)).toList.length=(cap-m)*size:=by simp [madeCells]
        rw[this,← Nat.add_mul,Nat.zero_add];apply Nat.mul_le_mul_right;omega
    · rename_i i ver k n
      obtain⟨rfl,rfl,b1,b2,cs,b3,b4,b5⟩:=h4
      cases g2 with
      | sl i ver k o n b s o' cpp e1 e2 e3 =>
        obtain⟨B,q1,q2,q3⟩:=w8.1 b3
        subst q2;subst q3
        obtain⟨b',s',vs,zz,tt,f1,f2,f3,f4,f5⟩:=(hs.blk i B q1).resolve_left (fun hx=>by rw[e1]at hx;cases hx.1)
        rw[e1]at f1;cases f1
        have hnl:ns.length=m*k:=by rw[← k2.1,k3]
        have hvl:=f5.1
        refine⟨some ⟨b,o',none⟩,n,cpp,y,m,cp,ns,g1,g3,k1,b1,b2,fun hle=>?_,fun hlt=>?_⟩
        ·
          have hmul:n*k+m*k≤cpp*k:=by rw[← Nat.add_mul];exact Nat.mul_le_mul_right k hle
          have hww:∃zz',(vs.take (n*k)++ns++zz').length=s∧wr0 c.h (some ⟨b,o',none⟩) (n*k) ns=some (upd c.h b (.cells (vs.take (n*k)++ns++zz').toArray tt)):=by
            by_cases hns:ns=[]
            · subst hns
              refine⟨vs.drop (n*k)++zz,?_,?_⟩
              · rw[← f4];simp;omega
              · simp only[wr0]
                congr 1
                rw[show vs.take (n*k)++[]++(vs.drop (n*k)++zz)=vs++zz by rw[List.append_nil,← List.append_assoc,List.take_append_drop]]
                exact(z1a f3).symm
            · have hm0:m*k≠0:=by intro h0;rw[h0]at hnl;exact hns (List.length_eq_zero_iff.1 hnl)
              have hcp:0<cpp:=by
                apply Nat.pos_of_ne_zero;intro h0;rw[h0]at hmul;omega
              obtain⟨rfl,e4⟩:=e3 hcp
              have hbd:0+n*k+ns.length≤(vs++zz).length:=by rw[f4,hnl];omega
              refine⟨(vs++zz).drop (n*k+ns.length),?_,?_⟩
              · rw[← f4];simp;simp at hbd;omega
              · rw[yO8 f3 hbd k4 hns,Nat.zero_add]
                rw[List.take_append_of_le_length (by omega)]
          obtain⟨zz',w1,w2⟩:=hww
          refine⟨_,w2,?_⟩
          refine⟨fun hk=>(by cases hk),?_⟩
          obtain⟨d1,d2,d3⟩:=hs.turn n0 q1 (v':=B.ver+1) (b':=b) (s':=s) (t:=tt) (cells:=B.cells.take (n*k)++news) (vs:=vs.take (n*k)++ns) (z:=zz') (.inl ⟨e1,by omega⟩) w1 ((f5.take _).app k2)
          refine⟨_,_,rfl,b5,d2,d1,.sl _ _ _ _ _ b s o' cpp (Z2 _ _ _ _) hle e3,he.mono (fun _=>Ext.refl _) d3⟩
        · refine⟨vs.take (n*k),?_,fun cap bb hb hc1 hc2=>⟨fun hk=>(by cases hk),?_⟩⟩
          · unfold cellsOf
            split
            · rename_i h0;simp [h0]
            · rename_i h0
              have hcp:0<cpp:=by
                apply Nat.pos_of_ne_zero;intro hc0
                have:n=0:=by omega
                exact h0 (by simp [this])
              obtain⟨rfl,_⟩:=e3 hcp
              simp only
              have:=zD5 f3 (o:=0) (n:=n*k) (by omega)
              simpa using this
          · have harr:(vs.take (n*k)++ns).toArray++madeCells z.toArray ((cap-(n+m))*k)=((vs.take (n*k)++ns)++(madeCells z.toArray ((cap-(n+m))*k)).toList).toArray:=by apply Array.ext';simp
            rw[harr]
            have hsz:((vs.take (n*k)++ns)++(madeCells z.toArray ((cap-(n+m))*k)).toList).length=cap*k:=by
              have h1:(madeCells z.toArray ((cap-(n+m))*k)).toList.length=(cap-(n+m))*k:=by simp [madeCells]
              rw[List.length_append,h1,List.length_append,hnl,List.length_take,Nat.min_eq_left (by omega),← Nat.add_mul,← Nat.add_mul]
              congr 1;omega
            obtain⟨d1,d2,d3⟩:=hs.turn n0 q1 (v':=B.ver+1) (b':=bb) (s':=cap*k) (t:=t) (cells:=B.cells.take (n*k)++news) (vs:=vs.take (n*k)++ns) (z:=(madeCells z.toArray ((cap-(n+m))*k)).toList) (.inr ⟨hb,by omega⟩) hsz ((f5.take _).app k2)
            refine⟨_,_,rfl,b5,d2,d1,.sl _ _ _ _ _ bb (cap*k) 0 cap (Z2 _ _ _ _) hc1 fun _=>⟨rfl,by omega⟩,he.mono (fun _=>Ext.refl _) d3⟩
    · rename_i i ver k n
      obtain⟨rfl,rfl,b1,b2,cs,b3,b4,b5⟩:=h4
      cases g2 with
      | vs0 i ver k e1 =>
        obtain⟨B,q1,q2,q3⟩:=w8.1 b3
        subst q2;subst q3
        have hcs:B.cells=[]:=by
          rcases hs.blk i B q1 with⟨_,h0⟩|⟨_,_,_,_,_,h0,_⟩
          · exact h0
          · rw[e1]at h0;cases h0
        rw[hcs]at b5
        simp only[List.take_nil,List.nil_append]at b5
        refine⟨none,0,0,y,m,cp,ns,g1,g3,k1,b1,b2,fun hle=>?_,fun hlt=>?_⟩
        · have hm:m=0:=by omega
          subst hm
          have hns:ns=[]:=by have:=k2.1;rw[k3]at this;simp at this;exact List.length_eq_zero_iff.1 this.symm
          subst hns
          have hnw:news=[]:=by rw[← List.length_eq_zero_iff,k3];simp
          subst hnw
          obtain⟨d1,d2,d3⟩:=hs.bump n0 q1 e1
          exact⟨c.h,rfl,fun _=>Ext.refl _,.vs i (B.ver+1) k 0,⟨c.g,nmd c.σ i (B.ver+1) none,c.H.set i ⟨B.ver+1,[]⟩,c.h⟩,rfl,by simpa using b5,d2,d1,.vs0 _ _ _ (Z2 _ _ _ _),he.mono (fun _=>Ext.refl _) d3⟩
        · refine⟨[],by simp [cellsOf],fun cap bb hb hc1 hc2=>⟨fun hk=>(by cases hk),?_⟩⟩
          have harr:(([]:List Value)++ns).toArray++madeCells z.toArray ((cap-(0+m))*k)=(ns++(madeCells z.toArray ((cap-(0+m))*k)).toList).toArray:=by apply Array.ext';simp
          rw[harr]
          have hnl:ns.length=m*k:=by rw[← k2.1,k3]
          have hsz:(ns++(madeCells z.toArray ((cap-(0+m))*k)).toList).length=cap*k:=by
            have h1:(madeCells z.toArray ((cap-(0+m))*k)).toList.length=(cap-(0+m))*k:=by simp [madeCells]
            rw[List.length_append,h1,hnl,← Nat.add_mul];congr 1;omega
          obtain⟨d1,d2,d3⟩:=hs.turn n0 q1 (v':=B.ver+1) (b':=bb) (s':=cap*k) (t:=t) (cells:=news) (vs:=ns) (z:=(madeCells z.toArray ((cap-(0+m))*k)).toList) (.inr ⟨hb,by omega⟩) hsz k2
          exact⟨_,_,rfl,b5,d2,d1,.vs _ _ _ _ bb (cap*k) 0 cap (Z2 _ _ _ _) hc1 fun _=>⟨rfl,Nat.le_refl _⟩,he.mono (fun _=>Ext.refl _) d3⟩
      | vs i ver k n b s o' cpp e1 e2 e3 =>
        obtain⟨B,q1,q2,q3⟩:=w8.1 b3
        subst q2;subst q3
        obtain⟨b',s',vs,zz,tt,f1,f2,f3,f4,f5⟩:=(hs.blk i B q1).resolve_left (fun hx=>by rw[e1]at hx;cases hx.1)
        rw[e1]at f1;cases f1
        have hnl:ns.length=m*k:=by rw[← k2.1,k3]
        have hvl:=f5.1
        refine⟨some ⟨b,o',none⟩,n,cpp,y,m,cp,ns,g1,g3,k1,b1,b2,fun hle=>?_,fun hlt=>?_⟩
        ·
          have hmul:n*k+m*k≤cpp*k:=by rw[← Nat.add_mul];exact Nat.mul_le_mul_right k hle
          have hww:∃zz',(vs.take (n*k)++ns++zz').length=s∧wr0 c.h (some ⟨b,o',none⟩) (n*k) ns=some (upd c.h b (.cells (vs.take (n*k)++ns++zz').toArray tt)):=by
            by_cases hns:ns=[]
            · subst hns
              refine⟨vs.drop (n*k)++zz,?_,?_⟩
              · rw[← f4];simp;omega
              · simp only[wr0]
                congr 1
                rw[show vs.take (n*k)++[]++(vs.drop (n*k)++zz)=vs++zz by rw[List.append_nil,← List.append_assoc,List.take_append_drop]]
                exact(z1a f3).symm
            · have hm0:m*k≠0:=by intro h0;rw[h0]at hnl;exact hns (List.length_eq_zero_iff.1 hnl)
              have hcp:0<cpp:=by
                apply Nat.pos_of_ne_zero;intro h0;rw[h0]at hmul;omega
              obtain⟨rfl,e4⟩:=e3 hcp
              have hbd:0+n*k+ns.length≤(vs++zz).length:=by rw[f4,hnl];omega
              refine⟨(vs++zz).drop (n*k+ns.length),?_,?_⟩
              · rw[← f4];simp;simp at hbd;omega
              · rw[yO8 f3 hbd k4 hns,Nat.zero_add]
                rw[List.take_append_of_le_length (by omega)]
          obtain⟨zz',w1,w2⟩:=hww
          refine⟨_,w2,?_⟩
          refine⟨fun hk=>(by cases hk),?_⟩
          obtain⟨d1,d2,d3⟩:=hs.turn n0 q1 (v':=B.ver+1) (b':=b) (s':=s) (t:=tt) (cells:=B.cells.take (n*k)++news) (vs:=vs.take (n*k)++ns) (z:=zz') (.inl ⟨e1,by omega⟩) w1 ((f5.take _).app k2)
          refine⟨_,_,rfl,b5,d2,d1,.vs _ _ _ _ b s o' cpp (Z2 _ _ _ _) hle e3,he.mono (fun _=>Ext.refl _) d3⟩
        · refine⟨vs.take (n*k),?_,fun cap bb hb hc1 hc2=>⟨fun hk=>(by cases hk),?_⟩⟩
          · unfold cellsOf
            split
            · rename_i h0;simp [h0]
            · rename_i h0
              have hcp:0<cpp:=by
                apply Nat.pos_of_ne_zero;intro hc0
                have:n=0:=by omega
                exact h0 (by simp [this])
              obtain⟨rfl,_⟩:=e3 hcp
              simp only
              have:=zD5 f3 (o:=0) (n:=n*k) (by omega)
              simpa using this
          · have harr:(vs.take (n*k)++ns).toArray++madeCells z.toArray ((cap-(n+m))*k)=((vs.take (n*k)++ns)++(madeCells z.toArray ((cap-(n+m))*k)).toList).toArray:=by apply Array.ext';simp
            rw[harr]
            have hsz:((vs.take (n*k)++ns)++(madeCells z.toArray ((cap-(n+m))*k)).toList).length=cap*k:=by
              have h1:(madeCells z.toArray ((cap-(n+m))*k)).toList.length=(cap-(n+m))*k:=by simp [madeCells]
              rw[List.length_append,h1,List.length_append,hnl,List.length_take,Nat.min_eq_left (by omega),← Nat.add_mul,← Nat.add_mul]
              congr 1;omega
            obtain⟨d1,d2,d3⟩:=hs.turn n0 q1 (v':=B.ver+1) (b':=bb) (s':=cap*k) (t:=t) (cells:=B.cells.take (n*k)++news) (vs:=vs.take (n*k)++ns) (z:=(madeCells z.toArray ((cap-(n+m))*k)).toList) (.inr ⟨hb,by omega⟩) hsz ((f5.take _).app k2)
            refine⟨_,_,rfl,b5,d2,d1,.vs _ _ _ _ bb (cap*k) 0 cap (Z2 _ _ _ _) hc1 fun _=>⟨rfl,by omega⟩,he.mono (fun _=>Ext.refl _) d3⟩
    · exact h4.elim
  | cpy size dd s =>
    obtain⟨rfl,da,h1,xa,h2,⟨m,news⟩,h3,h4⟩:=h
    obtain⟨v1,g1,g2⟩:=za8 hs he h1
    obtain⟨v2,g3,g4⟩:=za8 hs he h2
    obtain⟨y,cp,ns,rfl,k1,k2,k3,k4,k5⟩:=yg9 hs h3 g4
    simp only at h4
    unfold cpyA at h4
    split at h4
    · rename_i i ver k o n
      obtain⟨rfl,l,b3,b4,b5⟩:=h4
      cases g2 with
      | sl i ver k o n b s o' cpp e1 e2 e3 =>
        obtain⟨B,q1,q2,q3⟩:=w8.1 b3
        subst q2;subst q3
        obtain⟨b',s',vs,zz,tt,f1,f2,f3,f4,f5⟩:=(hs.blk i B q1).resolve_left (fun hx=>by rw[e1]at hx;cases hx.1)
        rw[e1]at f1;cases f1
        have hnl:ns.length=m*k:=by rw[← k2.1,k3]
        have hvl:=f5.1
        have hq:(ns.take (min m n*k)).length=min m n*k:=by
          rw[List.length_take,hnl,Nat.min_eq_left];exact Nat.mul_le_mul_right k (Nat.min_le_left _ _)
        have hqn:min m n*k≤n*k:=Nat.mul_le_mul_right k (Nat.min_le_right _ _)
        have hone:(ns.take (min m n*k)).all one=true:=by
          rw[List.all_eq_true]at k4 ⊢
          exact fun x hx=>k4 x (List.mem_of_mem_take hx)
        have hww:wr0 c.h (some ⟨b,o',none⟩) 0 (ns.take (min m n*k))=some (upd c.h b (.cells ((vs.take o++ns.take (min m n*k)++vs.drop (o+(ns.take (min m n*k)).length))++zz).toArray tt)):=by
          by_cases hns:ns.take (min m n*k)=[]
          · rw[hns]
            simp only[wr0,List.append_nil,List.length_nil,Nat.add_zero,List.take_append_drop]
            rw[z1a f3]
          · have h0:min m n*k≠0:=by intro h0;exact hns (by rw[h0];rfl)
            have hcp:0<cpp:=by
              apply Nat.pos_of_ne_zero;intro hc0
              have:n=0:=by omega
              exact h0 (by simp [this])
            obtain⟨rfl,e4⟩:=e3 hcp
            rw[yO8 f3 (by rw[hq];simp;omega) hone hns]
            congr 4
            rw[Nat.add_zero,List.take_append_of_le_length (by omega),List.drop_append_of_le_length (by rw[hq];omega),List.append_assoc,List.append_assoc,List.append_assoc]
        refine⟨some ⟨b,o',none⟩,n,cpp,y,m,cp,_,g1,g3,k5 _ (Nat.min_le_left _ _),_,hww,?_⟩
        refine⟨fun hk=>(by cases hk),?_⟩
        obtain⟨d1,d2,d3⟩:=hs.turn n0 q1 (v':=B.ver) (b':=b) (s':=s) (t:=tt) (cells:=splA B.cells o (news.take (min m n*k))) (vs:=vs.take o++ns.take (min m n*k)++vs.drop (o+(ns.take (min m n*k)).length)) (z:=zz) (.inl ⟨e1,Nat.le_refl _⟩) (by rw[← f4];simp [hq];omega)
          (((f5.take o).app (k2.take _)).app (by rw[← (k2.take (min m n*k)).1];exact f5.drop _))
        exact⟨_,_,rfl,b5,d2,d1,.v _,he.mono (fun _=>Ext.refl _) d3⟩
    · exact h4.elim
  | clr z s =>
    obtain⟨rfl,hz,sa,h1,h4⟩:=h
    obtain⟨v1,g1,g2⟩:=za8 hs he h1
    unfold clrA at h4
    split at h4
    · rename_i i ver k o n
      obtain⟨rfl,l,b3,b4,b5⟩:=h4
      cases g2 with
      | sl i ver k o n b s o' cpp e1 e2 e3 =>
        obtain⟨B,q1,q2,q3⟩:=w8.1 b3
        subst q2;subst q3
        obtain⟨b',s',vs,zz,tt,f1,f2,f3,f4,f5⟩:=(hs.blk i B q1).resolve_left (fun hx=>by rw[e1]at hx;cases hx.1)
        rw[e1]at f1;cases f1
        have hvl:=f5.1
        have hq:(List.replicate n z).flatten.length=n*z.length:=z26 n z
        have hone:(List.replicate n z).flatten.all one=true:=by
          rw[List.all_eq_true]at hz ⊢
          intro x hx
          obtain⟨y,hy,hxy⟩:=List.mem_flatten.1 hx
          rw[(List.mem_replicate.1 hy).2]at hxy
          exact hz x hxy
        have hww:wr0 c.h (some ⟨b,o',none⟩) 0 (List.replicate n z).flatten=some (upd c.h b (.cells ((vs.take o++(List.replicate n z).flatten++vs.drop (o+(List.replicate n z).flatten.length))++zz).toArray tt)):=by
          by_cases hns:(List.replicate n z).flatten=[]
          · rw[hns]
            simp only[wr0,List.append_nil,List.length_nil,Nat.add_zero,List.take_append_drop]
            rw[z1a f3]
          · have h0:n*z.length≠0:=by intro h0;rw[h0]at hq;exact hns (List.length_eq_zero_iff.1 hq)
            have hcp:0<cpp:=by
              apply Nat.pos_of_ne_zero;intro hc0
              have:n=0:=by omega
              exact h0 (by simp [this])
            obtain⟨rfl,e4⟩:=e3 hcp
            rw[yO8 f3 (by rw[hq];simp;omega) hone hns]
            congr 4
            rw[Nat.add_zero,List.take_append_of_le_length (by omega),List.drop_append_of_le_length (by rw[hq];omega),List.append_assoc,List.append_assoc,List.append_assoc]
        refine⟨some ⟨b,o',none⟩,n,cpp,_,g1,hww,?_⟩
        refine⟨fun hk=>(by cases hk),?_⟩
        have hrl:=yk7 (g:=c.g) (σ:=c.σ) n z
        obtain⟨d1,d2,d3⟩:=hs.turn n0 q1 (v':=B.ver) (b':=b) (s':=s) (t:=tt) (cells:=splA B.cells o (repA n (z.map .v))) (vs:=vs.take o++(List.replicate n z).flatten++vs.drop (o+(List.replicate n z).flatten.length)) (z:=zz) (.inl ⟨e1,Nat.le_refl _⟩) (by rw[← f4];simp only[List.length_append,List.length_take,List.length_drop,hq];omega)
          (((f5.take o).app hrl).app (by rw[← show(repA n (z.map A.v)).length=(List.replicate n z).flatten.length from hrl.1];exact f5.drop _))
        exact⟨_,_,rfl,b5,d2,d1,.v _,he.mono (fun _=>Ext.refl _) d3⟩
    · exact h4.elim
  | st n p v =>
    obtain⟨rfl,pa,h1,va,h2,cs,h3,h4,h5⟩:=h
    obtain⟨v1,g1,g2⟩:=za8 hs he h1
    obtain⟨v2,g3,g4⟩:=za8 hs he h2
    obtain⟨g5,g6⟩:=g4.cells h3
    unfold stA at h5
    split at h5
    · rename_i i ver o
      obtain⟨l,b3,b4,b5⟩:=h5
      cases g2 with
      | lp i ver o b s e1 =>
        obtain⟨B,q1,q2,q3⟩:=w8.1 b3
        subst q2;subst q3
        obtain⟨b',s',vs,zz,tt,f1,f2,f3,f4,f5⟩:=(hs.blk i B q1).resolve_left (fun hx=>by rw[e1]at hx;cases hx.1)
        rw[e1]at f1;cases f1
        have hvl:=f5.1
        have hcl:v2.cells.toList.length=cs.length:=g5.1.symm
        have hww:wr c.h b o v2.cells.toList=some (upd c.h b (.cells ((vs.take o++v2.cells.toList++vs.drop (o+v2.cells.toList.length))++zz).toArray tt)):=by
          rw[y64 f3 (by rw[hcl];simp;omega) (g5.one g6)]
          congr 4
          rw[List.take_append_of_le_length (by omega),List.drop_append_of_le_length (by omega),List.append_assoc,List.append_assoc,List.append_assoc]
        refine⟨b,o,v2,_,g1,g3,by rw[← h4,← hcl];simp,hww,?_⟩
        refine⟨fun hk=>(by cases hk),?_⟩
        obtain⟨d1,d2,d3⟩:=hs.turn n0 q1 (v':=B.ver) (b':=b) (s':=s) (t:=tt) (cells:=splA B.cells o cs) (vs:=vs.take o++v2.cells.toList++vs.drop (o+v2.cells.toList.length)) (z:=zz) (.inl ⟨e1,Nat.le_refl _⟩) (by rw[← f4];simp;simp at hcl;omega)
          (((f5.take o).app g5).app (by rw[hcl];exact f5.drop _))
        exact⟨_,_,rfl,b5,d2,d1,.v _,he.mono (fun _=>Ext.refl _) d3⟩
    · exact h5.elim
end Go.Lft
