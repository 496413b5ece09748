/- Lemmas and walks that the proof of SetpointBests uses. No statement is claimed here. -/
import Derived.Test.YtcppaddgclkekaaGreatSetpointBestsZak
import Derived.ChangeArms
import Derived.Deep.Slices
import Derived.OpenShut
namespace Go.Lft
open Go
set_option linter.unusedSimpArgs false
set_option linter.unusedVariables false
inductive Ty where
 | int (k:IntKind)
 | bool
 | str
 | sl (e:Ty)
 | st (l:List Ty)
 | ar (k:Nat) (e:Ty)
mutual
def Ty.n:Ty→Nat
 | .st l=>Ty.nL l
 | .ar k e=>k*e.n
 | .int _=>1
 | .bool=>1
 | .str=>1
 | .sl _=>1
def Ty.nL:List Ty→Nat
 | []=>0
 | t :: r=>t.n+Ty.nL r
end
mutual
def Ty.Is(P:Program):Ty→TypeId→Prop
 | .int k,t=>P.underlying t=some (.int k)
 | .bool,t=>P.underlying t=some .bool
 | .str,t=>P.underlying t=some .string
 | .sl e,t=>∃u,P.underlying t=some (.slice u)∧P.cellsOf u=e.n∧0<e.n∧e.Is P u
 | .ar k e,t=>∃u,P.underlying t=some (.array k u)∧P.cellsOf t=k*e.n∧P.cellsOf u=e.n∧e.Is P u
 | .st l,t=>∃fs:Array Field,P.underlying t=some (.struct fs)∧P.cellsOf t=Ty.nL l∧Ty.IsL P l 0 fs.toList
def Ty.IsL(P:Program):List Ty→Nat→List Field→Prop
 | [],_,[]=>True
 | ty :: r,o,f :: fs=>f.offset=o∧P.cellsOf f.type=ty.n∧ty.Is P f.type∧Ty.IsL P r (o+ty.n) fs
 | [],_,_ :: _=>False
 | _ :: _,_,[]=>False
end
def Ty.pk:Ty→List A→A
 | .st _,ce=>.agg ce
 | .ar _ _,ce=>.agg ce
 | _,ce=>ce.headD .any
mutual
def Ty.Sh(w:Bool):Ty→List A→Prop
 | .int k,es=>∃n,es=[.v (.int k n)]∧(Lit.int k n).wf=true
 | .bool,es=>∃b,es=[.v (.bool b)]
 | .str,es=>∃s:ByteArray,es=[.v (.string s)]∧s.size≤maxLen
 | .sl e,es=>∃L:List (List A),es=[.fs w (L.map e.pk)]∧L.length≤maxLen∧∀ce∈L,e.Sh w ce
 | .ar k e,es=>∃L:List (List A),L.length=k∧es=L.flatten∧∀ce∈L,e.Sh w ce
 | .st l,es=>Ty.ShL w l es
def Ty.ShL(w:Bool):List Ty→List A→Prop
 | [],es=>es=[]
 | t :: r,es=>∃a b,es=a++b∧t.Sh w a∧Ty.ShL w r b
end
mutual
theorem Ty.Sh.one{w:Bool}:∀(t:Ty) {es:List A},t.Sh w es→es.all A.one=true
 | .int k,es,h=>by
  simp only[Ty.Sh]at h
  obtain⟨n,rfl,_⟩:=h;rfl
 | .bool,es,h=>by
  simp only[Ty.Sh]at h
  obtain⟨n,rfl⟩:=h;rfl
 | .str,es,h=>by
  simp only[Ty.Sh]at h
  obtain⟨n,rfl,_⟩:=h;rfl
 | .sl e,es,h=>by
  simp only[Ty.Sh]at h
  obtain⟨L,rfl,_⟩:=h;rfl
 | .ar k e,es,h=>by
  simp only[Ty.Sh]at h
  obtain⟨L,_,rfl,h⟩:=h
  rw[List.all_eq_true]
  intro a ha
  obtain⟨ce,h1,h2⟩:=List.mem_flatten.1 ha
  exact List.all_eq_true.1 (Ty.Sh.one e (h ce h1)) a h2
 | .st l,es,h=>by
  simp only[Ty.Sh]at h
  exact Ty.ShL.one l h
theorem Ty.ShL.one{w:Bool}:∀(l:List Ty) {es:List A},Ty.ShL w l es→es.all A.one=true
 | [],es,h=>by
  simp only[Ty.ShL]at h
  subst h;rfl
 | t :: r,es,h=>by
  simp only[Ty.ShL]at h
  obtain⟨a,b,rfl,h1,h2⟩:=h
  rw[List.all_append,Ty.Sh.one t h1,Ty.ShL.one r h2];rfl
end
theorem Ty.pk_cells{w:Bool}(t:Ty){es:List A}(h:t.Sh w es):(t.pk es).cells=some es:=by
 have h1:=Ty.Sh.one t h
 cases t with
 | st l=>simp [Ty.pk,A.cells,h1]
 | ar k e=>simp [Ty.pk,A.cells,h1]
 | int k=>simp only[Ty.Sh]at h;obtain⟨n,rfl,_⟩:=h;rfl
 | bool=>simp only[Ty.Sh]at h;obtain⟨n,rfl⟩:=h;rfl
 | str=>simp only[Ty.Sh]at h;obtain⟨n,rfl,_⟩:=h;rfl
 | sl e=>simp only[Ty.Sh]at h;obtain⟨n,rfl,_⟩:=h;rfl
theorem yW5{w:World}{base:Nat}{a:Addr}{n:Nat}{cs:List Value}(h:w.cells? base a n=some cs)(hn:0<n):∃b o,a=⟨b,o,none⟩∧rd (hp w) b o n=some cs:=by
 obtain⟨_,hlen,hc⟩:=World.cells?_some h
 obtain⟨b,o,s⟩:=a
 have hs:s=none:=by
  have:=hc 0 hn
  rw[List.getElem?_eq_getElem (by omega)]at this
  cases s with
  | none=>rfl
  | some s=>simp [World.cell?,Addr.add]at this;split at this<;>simp at this
 subst hs
 have hblk:∃c t f,w.heap[b]?=some (.cells c t f):=by
  have:=hc 0 hn
  rw[List.getElem?_eq_getElem (by omega)]at this
  simp only[Addr.add,if_true,World.cell?]at this
  split at this
  ·rename_i c t f hh;exact⟨c,t,f,hh⟩
  ·cases this
 obtain⟨c,t,f,hb⟩:=hblk
 refine⟨b,o,rfl,?_⟩
 have hcell:∀i,i<n→c[o+i]?=cs[i]?:=fun i hi=>by
  have h1:=hc i hi
  rw[zh2,cell_of_row w b (o+i) c t f hb]at h1
  exact h1
 have hsz:o+n≤c.size:=by
  have h1:=hcell (n-1) (by omega)
  rw[List.getElem?_eq_getElem (by omega)]at h1
  have:=(Array.getElem?_eq_some_iff.1 h1).1
  omega
 unfold rd hp
 simp only[hb,hsz,if_true,Option.some.injEq]
 apply List.ext_getElem?
 intro i
 by_cases hi:i<n
 ·rw[List.getElem?_take_of_lt hi,List.getElem?_drop,Array.getElem?_toList,hcell i hi]
 ·rw[List.getElem?_eq_none (by simp;omega),List.getElem?_eq_none (by omega)]
theorem RL.parts{g:Bool→Heap}{σ:Nam}{n:Nat}(F:Nat→List A×List Value):∀(k:Nat) (cs:List Value),cs.length=k*n→(∀i,i<k→RL g σ (F i).1 (F i).2∧(F i).2=(cs.drop (i*n)).take n) →
    RL g σ (((List.range k).map fun i=>(F i).1).flatten) cs
  | 0,cs,hl,_=>by
    have:cs=[]:=List.eq_nil_of_length_eq_zero (by simpa using hl)
    subst this;exact RL.nil
  | k+1,cs,hl,h=>by
    have hl':cs.length=k*n+n:=by rw[hl,Nat.add_mul];omega
    have ih:=RL.parts (n:=n) F k (cs.take (k*n)) (by rw[List.length_take];omega) fun i hi=>by
      obtain⟨h1,h2⟩:=h i (by omega)
      refine⟨h1,h2.trans ?_⟩
      have hin:i*n+n≤k*n:=by have:=Nat.mul_le_mul_right n (show i+1≤k by omega);rwa [Nat.add_mul,Nat.one_mul]at this
      rw[List.drop_take,List.take_take,Nat.min_eq_left (by omega)]
    obtain⟨h1,h2⟩:=h k (by omega)
    rw[List.range_succ,List.map_append,List.flatten_append]
    simp only[List.map_cons,List.map_nil,List.flatten_cons,List.flatten_nil,List.append_nil]
    have:=RL.app ih h1
    rwa [h2,List.take_of_length_le (l:=cs.drop (k*n)) (by simp;omega),List.take_append_drop]at this
section
variable {Hh:Type} {enc:TypeId×Value→Hh} {P:Program} {w:World} {base:Nat} {spare:Nat→Bool} {held:Bool}
abbrev Rl(w:World):List A→List Value→Prop:=RL (fun _=>hp w) (fun _ _=>none)
mutual
theorem Ty.open(u:Bool):∀(ty:Ty) {t:TypeId} {fuel:Nat} {cs:List Value} {x:DataW Hh×List MemPlace},ty.Is P t→DataW.trod enc P w base spare held fuel t cs=some x →
    ∃es,Rl w es cs∧ty.Sh u es
  | .int k,t,fuel,cs,x,hi,h=>by
    simp only[Ty.Is]at hi
    obtain⟨n,rfl,_,hw⟩:=DataW.trod_int hi h
    exact⟨[.v (.int k n)],RL.cons (.v _) RL.nil,by simp only[Ty.Sh];exact⟨n,rfl,hw⟩⟩
  | .bool,t,fuel,cs,x,hi,h=>by
    simp only[Ty.Is]at hi
    obtain⟨n,rfl,_⟩:=DataW.trod_bool hi h
    exact⟨[.v (.bool n)],RL.cons (.v _) RL.nil,by simp only[Ty.Sh];exact⟨n,rfl⟩⟩
  | .str,t,fuel,cs,x,hi,h=>by
    simp only[Ty.Is]at hi
    obtain⟨n,rfl,_,hw⟩:=DataW.trod_string hi h
    exact⟨[.v (.string n)],RL.cons (.v _) RL.nil,by simp only[Ty.Sh];exact⟨n,rfl,hw⟩⟩
  | .sl e,t,fuel,cs,x,hi,h=>by
    simp only[Ty.Is]at hi
    obtain⟨v,hu,hn,h0,he⟩:=hi
    rcases DataW.trod_slice hu h with⟨rfl,_⟩|⟨a,len,cap,elems,rest,n,_,rfl,_,_,hl,hm,hel,hx,_⟩
    · exact⟨[.fs u []],RL.cons (.fs0 u none 0) RL.nil,by simp only[Ty.Sh];exact⟨[],rfl,by simp,by simp⟩⟩
    · have key : ∀ i, i < len → ∃ p : List A × List Value, Rl w p.1 p.2 ∧ e.Sh u p.1 ∧ w.cells? base (a.add (i * e.n)) e.n = some p.2 := fun i hi => by
        have h1:=hx i hi
        rw[List.getElem?_eq_getElem (by omega),hn]at h1
        obtain⟨ci,h2,h3⟩:=Option.bind_eq_some_iff.1 h1
        obtain⟨es,h4,h5⟩:=Ty.open u e he h3
        exact⟨(es,ci),h4,h5,h2⟩
      obtain⟨F,hF⟩:=Deep.choose_lt key
      refine⟨[.fs u (((List.range len).map fun i=>(F i).1).map e.pk)],RL.cons ?_ RL.nil,?_⟩
      · have hlen:(((List.range len).map fun i=>(F i).1).map e.pk).length=len:=by simp
        by_cases hz:len=0
        · subst hz;exact .fs0 u (some a) cap
        · obtain⟨b,o,hab,_⟩:=yW5 (hF 0 (by omega)).2.2 h0
          have hab':a=⟨b,o,none⟩:=by
            rw[← hab];simp [Addr.add]
          subst hab'
          have hget:∀i q,(((List.range len).map fun i=>(F i).1).map e.pk)[i]?=some q→i<len∧q=e.pk (F i).1:=fun i q hq=>by
            obtain⟨h1,h2⟩:=List.getElem?_eq_some_iff.1 hq
            simp at h1 h2
            exact⟨h1,h2.symm⟩
          have R:=Rel.fs (g:=fun _=>hp w) (σ:=fun _ _=>none) u (((List.range len).map fun i=>(F i).1).map e.pk) b o cap e.n (fun i=>(F i).2) (by rw[hlen];exact hl) (fun i q hq=>by
            obtain⟨h1,rfl⟩:=hget i q hq
            obtain⟨g1,g2,g3⟩:=hF i h1
            obtain⟨b',o',hab2,hrd⟩:=yW5 g3 h0
            rw[zh2]at hab2
            cases hab2
            exact⟨_,Ty.pk_cells e g2,by rw[g1.1];exact(World.cells?_some g3).2.1,hrd⟩) (fun i q cs' j q' y hq hcs hj hy=>by
            obtain⟨h1,rfl⟩:=hget i q hq
            obtain⟨g1,g2,g3⟩:=hF i h1
            rw[Ty.pk_cells e g2]at hcs
            cases hcs
            exact g1.2 j q' y hj hy)
          rw[hlen]at R
          exact R
      · simp only[Ty.Sh]
        refine⟨_,rfl,by simp;omega,fun ce hce=>?_⟩
        simp at hce
        obtain⟨i,hi,rfl⟩:=hce
        exact(hF i hi).2.1
  | .ar k e,t,fuel,cs,x,hi,h=>by
    simp only[Ty.Is]at hi
    obtain⟨v,hu,hn,hv,he⟩:=hi
    obtain⟨xs,m,_,_,hlen,hxl,hx⟩:=DataW.trod_array hu h
    have key:∀i,i<k→∃p:List A×List Value,Rl w p.1 p.2∧e.Sh u p.1∧p.2=(cs.drop (i*e.n)).take e.n:=fun i hi=>by
      have h1:=hx i hi
      rw[List.getElem?_eq_getElem (by omega),hv]at h1
      obtain⟨es,h4,h5⟩:=Ty.open u e he h1
      exact⟨(es,_),h4,h5,rfl⟩
    obtain⟨F,hF⟩:=Deep.choose_lt key
    refine⟨((List.range k).map fun i=>(F i).1).flatten,RL.parts (n:=e.n) F k cs (by omega) fun i hi=>⟨(hF i hi).1,(hF i hi).2.2⟩,?_⟩
    simp only[Ty.Sh]
    refine⟨_,by simp,rfl,fun ce hce=>?_⟩
    simp at hce
    obtain⟨i,hi,rfl⟩:=hce
    exact(hF i hi).2.1
  | .st l,t,fuel,cs,x,hi,h=>by
    simp only[Ty.Is]at hi
    obtain⟨fs,hu,hn,hl⟩:=hi
    obtain⟨xs,n,_,_,hlen,hxl,hx⟩:=DataW.trod_struct hu h
    have hf:∀f∈fs.toList,∃y,DataW.trod enc P w base spare held n f.type ((cs.drop f.offset).take (P.cellsOf f.type))=some y:=fun f hf=>by
      obtain⟨i,hi,rfl⟩:=List.mem_iff_getElem.1 hf
      have hi':i<fs.size:=by simpa using hi
      have:=hx i fs[i] (by simp [hi'])
      refine⟨xs[i]'(by omega),?_⟩
      rw[List.getElem?_eq_getElem (by omega)]at this
      simpa using this
    obtain⟨es,h1,h2⟩:=Ty.openL u l hl hf (by omega)
    refine⟨es,?_,by simp only[Ty.Sh];exact h2⟩
    rw[List.drop_zero,List.take_of_length_le (by omega)]at h1
    exact h1
theorem Ty.openL(u:Bool):∀(l:List Ty) {o n:Nat} {fs:List Field} {cs:List Value},Ty.IsL P l o fs →
    (∀f∈fs,∃y,DataW.trod enc P w base spare held n f.type ((cs.drop f.offset).take (P.cellsOf f.type))=some y)→o+Ty.nL l≤cs.length →
    ∃es,Rl w es ((cs.drop o).take (Ty.nL l))∧Ty.ShL u l es
  | [],o,n,fs,cs,hi,h,hl=>⟨[],by simp only[Ty.nL,List.take_zero];exact RL.nil,by simp only[Ty.ShL]⟩
  | ty :: r,o,n,[],cs,hi,h,hl=>by simp only[Ty.IsL]at hi
  | ty :: r,o,n,f :: fs,cs,hi,h,hl=>by
    simp only[Ty.IsL]at hi
    obtain⟨h1,h2,h3,h4⟩:=hi
    simp only[Ty.nL]at hl
    obtain⟨y,hy⟩:=h f (by simp)
    rw[h1,h2]at hy
    obtain⟨es,g1,g2⟩:=Ty.open u ty h3 hy
    obtain⟨bs,g3,g4⟩:=Ty.openL u r h4 (fun f' hf'=>h f' (by simp [hf'])) (by omega)
    refine⟨es++bs,?_,by simp only[Ty.ShL];exact⟨es,bs,rfl,g2,g4⟩⟩
    have e:(cs.drop o).take (Ty.nL (ty :: r))=(cs.drop o).take ty.n++(cs.drop (o+ty.n)).take (Ty.nL r):=by
      simp only[Ty.nL]
      rw[List.take_add,List.drop_drop]
    rw[e]
    exact RL.app g1 g3
end
end
end Go.Lft
