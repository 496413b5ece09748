/- Lemmas and walks that the proof of TopControlPlant uses. No statement is claimed here. -/
import Derived.Test.YtdkoindoljngmaaGreatTopControlPlantZaj
namespace Go.Proofs.YtdkoindoljngmaaGreat
open Go Go.Lft
set_option linter.unusedSimpArgs false
set_option linter.unusedVariables false
def firstE {α : Type} (f : α→Int) : List α→Int
  | []=>0
  | x :: r=>if f x≠0 then f x else firstE f r
theorem firstE_hit {α : Type} {f : α→Int} (d : α) : ∀ {l : List α} {k : Nat},k < l.length→(∀ i,i < k→f (l.getD i d)=0)→f (l.getD k d)≠0→firstE f l=f (l.getD k d)
  | [],k,hk,_,_=>by simp at hk
  | x :: r,0,_,_,hn=>by simp only [List.getD_cons_zero] at hn ⊢; simp [firstE,hn]
  | x :: r,k+1,hk,h,hn=>by
    have h0:=h 0 (by omega)
    simp only [List.getD_cons_zero] at h0
    simp only [List.getD_cons_succ] at hn ⊢
    rw [← firstE_hit d (by simpa using hk) (fun i hi=>by have:=h (i+1) (by omega); simpa using this) hn]
    simp [firstE,h0]
theorem firstE_none {α : Type} {f : α→Int} (d : α) : ∀ {l : List α},(∀ i,i < l.length→f (l.getD i d)=0)→firstE f l=0
  | [],_=>rfl
  | x :: r,h=>by
    have h0:=h 0 (by simp)
    simp only [List.getD_cons_zero] at h0
    simp only [firstE,h0]
    exact firstE_none d (l:=r) fun i hi=>by have:=h (i+1) (by simpa using hi); simpa using this
theorem firstE_all {α : Type} {f : α→Int} : ∀ {l : List α},firstE f l=0→∀ x∈l,f x=0
  | [],_,x,hx=>by simp at hx
  | y :: r,h,x,hx=>by
    unfold firstE at h
    split at h
    · contradiction
    · rename_i h0
      rcases List.mem_cons.1 hx with rfl | hx
      · exact Classical.not_not.1 h0
      · exact firstE_all h x hx
def idxE {α : Type} (p : α→Prop) [DecidablePred p] : List α→Int
  | []=>-1
  | x :: r=>if p x then 0 else if idxE p r < 0 then -1 else idxE p r+1
theorem idxE_ge {α : Type} (p : α→Prop) [DecidablePred p] : ∀ (l : List α),-1≤idxE p l∧idxE p l < l.length
  | []=>by simp [idxE]
  | x :: r=>by
    have:=idxE_ge p r
    simp only [idxE,List.length_cons]
    split
    · omega
    · split<;>omega
theorem idxE_hit {α : Type} {p : α→Prop} [DecidablePred p] (d : α) : ∀ {l : List α} {k : Nat},k < l.length→(∀ i,i < k→¬ p (l.getD i d))→p (l.getD k d)→idxE p l=k
  | [],k,hk,_,_=>by simp at hk
  | x :: r,0,_,_,hn=>by simp only [List.getD_cons_zero] at hn; simp [idxE,hn]
  | x :: r,k+1,hk,h,hn=>by
    have h0:=h 0 (by omega)
    simp only [List.getD_cons_zero] at h0
    simp only [List.getD_cons_succ] at hn
    have:=idxE_hit d (p:=p) (l:=r) (by simpa using hk) (fun i hi=>by have:=h (i+1) (by omega); simpa using this) hn
    simp only [idxE,this,h0,if_false]
    rw [if_neg (by omega)]; omega
theorem idxE_none {α : Type} {p : α→Prop} [DecidablePred p] (d : α) : ∀ {l : List α},(∀ i,i < l.length→¬ p (l.getD i d))→idxE p l=-1
  | [],_=>rfl
  | x :: r,h=>by
    have h0:=h 0 (by simp)
    simp only [List.getD_cons_zero] at h0
    have:=idxE_none d (p:=p) (l:=r) fun i hi=>by have:=h (i+1) (by simpa using hi); simpa using this
    simp [idxE,h0,this]
theorem idxE_at {α : Type} {p : α→Prop} [DecidablePred p] (d : α) : ∀ {l : List α},0≤idxE p l→p (l.getD (idxE p l).toNat d)
  | [],h=>by simp [idxE] at h
  | x :: r,h=>by
    unfold idxE at h ⊢
    by_cases hx : p x
    · simp [hx]
    · simp only [hx,if_false] at h ⊢
      by_cases h2 : idxE p r < 0
      · rw [if_pos h2] at h; omega
      · rw [if_neg h2] at h ⊢
        have:=idxE_at d (p:=p) (l:=r) (by omega)
        rw [show (idxE p r+1).toNat=(idxE p r).toNat+1 by omega]
        simpa using this
theorem idxE_neg {α : Type} {p : α→Prop} [DecidablePred p] {l : List α} (h : idxE p l < 0) : ∀ x∈l,¬ p x:=by
  induction l with
  | nil=>intro x hx; simp at hx
  | cons y r ih =>
    intro x hx
    unfold idxE at h
    by_cases hy : p y
    · simp [hy] at h
    · simp only [hy,if_false] at h
      by_cases h2 : idxE p r < 0
      · rcases List.mem_cons.1 hx with rfl | hx
        · exact hy
        · exact ih h2 x hx
      · rw [if_neg h2] at h; omega
theorem mem_get {α : Type} (d : α) {l : List α} {k : Nat} (h : k < l.length) : l.getD k d∈l:=by
  simp [List.getD_eq_getElem?_getD,h]
theorem get_mem {α : Type} (d : α) {l : List α} {x : α} (h : x∈l) : ∃ k,k < l.length∧l.getD k d=x:=by
  obtain ⟨k,hk,rfl⟩:=List.mem_iff_getElem.1 h
  exact ⟨k,hk,by simp [List.getD_eq_getElem?_getD,hk]⟩
theorem take_succ_get' {α : Type} (l : List α) (k : Nat) (d : α) (h : k < l.length) : l.take (k+1)=l.take k++[l.getD k d]:=by
  rw [List.take_succ_eq_append_getElem h]; simp [List.getD_eq_getElem?_getD,h]
def sumT (l : List Int) (k : Nat) : Int:=(l.take k).sum
theorem sumT_zero (l : List Int) : sumT l 0=0:=by simp [sumT]
theorem sumT_succ (l : List Int) (k : Nat) (h : k < l.length) : sumT l (k+1)=sumT l k+l.getD k 0:=by
  unfold sumT; rw [take_succ_get' l k 0 h]; simp
theorem sumT_all (l : List Int) : sumT l l.length=l.sum:=by simp [sumT]
theorem sumT_bd (l : List Int) (a b : Int) : ∀ (k : Nat),k≤l.length→(∀ i,i < k→a≤l.getD i 0∧l.getD i 0≤b)→a*k≤sumT l k∧sumT l k≤b*k
  | 0,_,_=>by simp [sumT_zero]
  | k+1,hk,h=>by
    have h1:=sumT_bd l a b k (by omega) fun i hi=>h i (by omega)
    have h2:=h k (by omega)
    rw [sumT_succ l k (by omega),show ((k+1 : Nat) : Int)=(k : Int)+1 by omega,Int.mul_add,Int.mul_add]
    omega
structure Bt where
  fr : Int
  ot : Int
  to : Int
  ln : Int
def b0 : Bt:=⟨0,0,0,0⟩
def btC (b : Bt) : List A:=[.v (.int .i64 b.fr),.v (.int .i64 b.ot),.v (.int .i64 b.to),.v (.int .i64 b.ln)]
def btA (b : Bt) : A:=.agg (btC b)
def bts (l : List Bt) : List A:=l.map btA
abbrev Mc:=List (List Int)
def mcC (w : Bool) (m : Mc) : List A:=[.fs w (rows w m)]
def mcA (w : Bool) (m : Mc) : A:=.agg (mcC w m)
def mcs (w : Bool) (l : List Mc) : List A:=l.map (mcA w)
structure Pl where
  mat : Int
  ms : List Mc
  bs : List Bt
  fd : Int
def plC (w v : Bool) (p : Pl) : List A:=[.v (.int .i64 p.mat),.fs w (mcs w p.ms),.fs v (bts p.bs),.v (.int .i64 p.fd)]
def plA (w v : Bool) (p : Pl) : A:=.agg (plC w v p)
theorem bt_len (l : List Bt) : (bts l).length=l.length:=by simp [bts]
theorem bt_idx (w : Bool) (l : List Bt) (kk : IntKind) (j : Int) (h1 : 0≤j) (h2 : j < l.length) : idxA 4 (.fs w (bts l)) (.v (.int kk j))=some (.fp w [.v (.int .i64 (l.getD j.toNat b0).fr),.v (.int .i64 (l.getD j.toNat b0).ot),.v (.int .i64 (l.getD j.toNat b0).to),.v (.int .i64 (l.getD j.toNat b0).ln)]) :=
  map_idx 4 w l b0 kk j btC (fun _=>rfl) (fun _=>rfl) h1 h2
theorem bt_bd (n : Nat) (l : List Bt) : A.bdL n (bts l)=true:=map_bd n l fun _=>rfl
theorem bt_cl (l : List Bt) : A.clL (bts l)=true:=map_cl l fun _=>rfl
theorem mc_len (w : Bool) (l : List Mc) : (mcs w l).length=l.length:=by simp [mcs]
theorem mc_idx (w v : Bool) (l : List Mc) (kk : IntKind) (j : Int) (h1 : 0≤j) (h2 : j < l.length) : idxA 1 (.fs w (mcs v l)) (.v (.int kk j))=some (.fp w [.fs v (rows v (l.getD j.toNat []))]) :=
  map_idx 1 w l [] kk j (mcC v) (fun _=>rfl) (fun _=>rfl) h1 h2
theorem mcA_bd (n : Nat) (w : Bool) (m : Mc) : A.bd n (mcA w m)=true:=by simp [mcA,mcC,A.bd,A.bdL,r_bd]
theorem mc_bd (n : Nat) (w : Bool) (l : List Mc) : A.bdL n (mcs w l)=true:=map_bd n l fun m=>mcA_bd n w m
theorem mc_cl (l : List Mc) : A.clL (mcs true l)=true:=map_cl l fun m=>by simp [mcA,mcC,A.cl,A.clL,r_cl]
theorem plC_bd (n : Nat) (w v : Bool) (p : Pl) : A.bdL n (plC w v p)=true:=by simp [plC,A.bdL,A.bd,mc_bd,bt_bd]
theorem plA_bd (n : Nat) (w v : Bool) (p : Pl) : A.bd n (plA w v p)=true:=plC_bd n w v p
theorem aM : type_of% (And.intro @bt_len <| And.intro @bt_idx <| And.intro @bt_bd <| And.intro @bt_cl <| And.intro @mc_len <| And.intro @mc_idx <| And.intro @mcA_bd <| And.intro @mc_bd <| And.intro @mc_cl <| And.intro @plC_bd <| @plA_bd):=And.intro @bt_len <| And.intro @bt_idx <| And.intro @bt_bd <| And.intro @bt_cl <| And.intro @mc_len <| And.intro @mc_idx <| And.intro @mcA_bd <| And.intro @mc_bd <| And.intro @mc_cl <| And.intro @plC_bd <| @plA_bd
def rangeE (r : Int) : Int:=if r < 0∨1000 < r then 1 else 0
def rowE (outs : Nat) (r : List Int) : Int :=
  if 4 < r.length then 8 else if r.length≠outs then 3 else if firstE rangeE r≠0 then firstE rangeE r else if 0 < r.length∧r.sum≠1000 then 17 else 0
def outsN (m : Mc) : Nat:=(m.getD 0 []).length
def mcheck (m : Mc) (mat : Int) : Int :=
  if mat < 1∨16 < mat then 1 else if (m.length : Int)≠mat then 18 else firstE (rowE (outsN m)) m
def mainN (m : Mc) (mat : Int) : Int:=if mat < 0∨(m.length : Int)≤mat then -1 else idxE (fun r : Int=>0 < r) (m.getD mat.toNat [])
theorem rangeE_zero {r : Int} (h : rangeE r=0) : 0≤r∧r≤1000:=by unfold rangeE at h; split at h<;>omega
theorem rangeE_bad {r : Int} (h : r < 0∨1000 < r) : rangeE r=1:=by unfold rangeE; rw [if_pos h]
theorem rangeE_ok {r : Int} (h : ¬ (r < 0∨1000 < r)) : rangeE r=0:=by unfold rangeE; rw [if_neg h]
theorem outsN_le {m : Mc} : outsN m=0∨0 < m.length:=by
  cases m with
  | nil=>exact .inl rfl
  | cons a r=>exact .inr (by simp)
structure MOk (m : Mc) (mat : Int) : Prop where
  m1 : 1≤mat
  m2 : mat≤16
  len : (m.length : Int)=mat
  row : ∀ r∈m,r.length=outsN m∧r.length≤4∧(∀ x∈r,0≤x∧x≤1000)∧(0 < r.length→r.sum=1000)
theorem mcheck_ok {m : Mc} {mat : Int} (h : mcheck m mat=0) : MOk m mat:=by
  unfold mcheck at h
  split at h
  · cases h
  rename_i h1
  split at h
  · cases h
  rename_i h2
  refine ⟨by omega,by omega,by omega,fun r hr=>?_⟩
  have hr':=firstE_all h r hr
  unfold rowE at hr'
  split at hr'
  · cases hr'
  rename_i h3
  split at hr'
  · cases hr'
  rename_i h4
  split at hr'
  · contradiction
  rename_i h5
  split at hr'
  · cases hr'
  rename_i h6
  refine ⟨by omega,by omega,fun x hx=>rangeE_zero (firstE_all (Classical.not_not.1 h5) x hx),fun h7=>?_⟩
  apply Classical.byContradiction; intro h8; exact h6 ⟨h7,h8⟩
theorem sum_pos {l : List Int} (h : ∀ x∈l,¬ (0 < x)) : l.sum≤0:=by
  induction l with
  | nil=>simp
  | cons a r ih =>
    have h1:=h a (by simp)
    have h2:=ih fun x hx=>h x (by simp [hx])
    simp only [List.sum_cons]; omega
theorem mainN_ok {m : Mc} {mat : Int} (h : MOk m mat) (ho : outsN m≠0) {k : Int} (h0 : 0≤k) (h1 : k < mat) : 0≤mainN m k∧mainN m k < outsN m∧0 < (m.getD k.toNat []).getD (mainN m k).toNat 0:=by
  have hk : k.toNat < m.length:=by have:=h.len; omega
  obtain ⟨r1,r2,r3,r4⟩:=h.row _ (mem_get [] hk)
  unfold mainN
  rw [if_neg (by have:=h.len; omega)]
  have h3 : 0≤idxE (fun r : Int=>0 < r) (m.getD k.toNat []):=by
    apply Classical.byContradiction; intro hc
    have:=sum_pos (idxE_neg (p:=fun r : Int=>0 < r) (l:=m.getD k.toNat []) (by omega))
    have:=r4 (by omega)
    omega
  have h4:=idxE_ge (fun r : Int=>0 < r) (m.getD k.toNat [])
  exact ⟨h3,by rw [r1] at h4; exact h4.2,idxE_at (p:=fun r : Int=>0 < r) 0 h3⟩
end Go.Proofs.YtdkoindoljngmaaGreat
