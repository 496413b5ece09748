/- Lemmas and walks that the proof of TopControlPlant uses. No statement is claimed here. -/
import Derived.Test.YtdkoindoljngmaaGreatTopControlPlantZao
namespace Go.Proofs.YtdkoindoljngmaaGreat
open Go Go.Lft
set_option linter.unusedSimpArgs false
set_option linter.unusedVariables false
attribute [local congr] ob_congr bw_congr ib_congr ck_congr iwA_congr itA_congr aw_congr awp_congr sqA_congr bkA_congr vr_congr gd_congr
theorem FzL.app {m : Nat} {H : List Blk} : ∀ {l r l' r' : List A},FzL m H l l'→FzL m H r r'→FzL m H (l++r) (l'++r')
  | [],r,[],r',_,h=>h
  | a :: l,r,b :: l',r',h,k=>⟨h.1,FzL.app h.2 k⟩
  | [],_,_ :: _,_,h,_=>h.elim
  | _ :: _,_,[],_,h,_=>h.elim
def tab (N : Nat) (D : Nat→Bool) : List Bool:=(List.range N).map D
theorem tab_len (N : Nat) (D : Nat→Bool) : (tab N D).length=N:=by simp [tab]
theorem tab_get (N : Nat) (D : Nat→Bool) (k : Nat) (h : k < N) : (tab N D).getD k false=D k:=by simp [tab,List.getD_eq_getElem?_getD,h]
theorem tab_ext {N : Nat} {D E : Nat→Bool} (h : ∀ k,k < N→D k=E k) : tab N D=tab N E:=by
  unfold tab; exact List.map_congr_left fun k hk=>h k (List.mem_range.1 hk)
theorem tab_set (N : Nat) (D : Nat→Bool) (k : Nat) (h : k < N) : (tab N D).set k true=tab N (fun j=>D j || j == k):=by
  apply List.ext_getElem (by simp [tab])
  intro i h1 h2
  simp only [tab,List.length_set,List.length_map,List.length_range] at h1
  rw [List.getElem_set]
  by_cases hk : k=i
  · subst hk; simp [tab]
  · have : (i == k)=false:=by simpa using Ne.symm hk
    simp [tab,hk,this]
theorem tab_rep (N : Nat) : List.replicate N false=tab N fun _=>false:=by
  apply List.ext_getElem (by simp [tab])
  intro i h1 h2
  simp [tab]
def both (n : Int) (l : Arcs) (v k : Nat) : Bool:=(reachL n l v).getD k false && (reachL n (backL l) v).getD k false
def memb (n : Int) (l : Arcs) (v a b : Nat) : List Int:=((List.range b).filter fun j=>decide (a≤j) && both n l v j).map Int.ofNat
theorem memb_succ (n : Int) (l : Arcs) (v a b : Nat) : memb n l v a (b+1)=if a≤b∧both n l v b=true then memb n l v a b++[(b : Int)] else memb n l v a b:=by
  unfold memb
  rw [List.range_succ,List.filter_append]
  by_cases h : a≤b∧both n l v b=true
  · simp [h]
  · rw [if_neg h]
    by_cases h1 : a≤b
    · have h2 : both n l v b=false:=by simpa [h1] using h
      simp [h2]
    · simp [h1]
def gst (n : Int) (l : Arcs) : Nat→(Nat→Bool)×List (List Int)
  | 0=>(fun _=>false,[])
  | v+1=>if (gst n l v).1 v then gst n l v else (fun j=>(gst n l v).1 j || both n l v j,(gst n l v).2++[memb n l v 0 n.toNat])
def groupsR (n : Int) (l : Arcs) : List (List Int)×Int:=if gcheck n l≠0 then ([],gcheck n l) else ((gst n l n.toNat).2,0)
theorem memb_len (n : Int) (l : Arcs) (v a b : Nat) : (memb n l v a b).length≤b:=by
  unfold memb
  have:=List.length_filter_le (fun j=>decide (a≤j) && both n l v j) (List.range b)
  simpa using this
theorem gst_len (n : Int) (l : Arcs) (v : Nat) : (gst n l v).2.length≤v:=by
  induction v with
  | zero=>simp [gst]
  | succ v ih => simp only [gst]; split
                 · omega
                 · simp; omega
theorem path_swap {l : Arcs} {u v : Int} (h : Path l u v) : Path (backL l) v u:=by
  induction h with
  | refl u=>exact .refl u
  | step h p ih=>exact ih.snoc (List.mem_map.2 ⟨_,h,rfl⟩)
theorem backL_back (l : Arcs) : backL (backL l)=l:=by simp [backL]
theorem path_back {l : Arcs} {u v : Int} : Path (backL l) u v↔Path l v u :=
  ⟨fun h=>by have:=path_swap h; rwa [backL_back] at this,path_swap⟩
theorem both_iff {n : Int} {l : Arcs} (hr : inR n l) {v k : Nat} (hv : v < n.toNat) (hk : k < n.toNat) : both n l v k=true↔Path l v k∧Path l k v:=by
  unfold both
  rw [Bool.and_eq_true]
  have h1:=reachL_iff hr (v:=v) (by omega) (by omega) (w:=k) (by omega)
  have h2:=reachL_iff (inR_swap hr) (v:=v) (by omega) (by omega) (w:=k) (by omega)
  unfold vis at h1 h2
  rw [Int.toNat_natCast] at h1 h2
  rw [h1,show (reachL n (backL l) v).getD k false=true↔Path (backL l) v k from h2,path_back]
theorem gst_done {n : Int} {l : Arcs} (hr : inR n l) : ∀ (v : Nat),v≤n.toNat→∀ k,k < n.toNat→((gst n l v).1 k=true↔∃ u,u < v∧both n l u k=true)
  | 0,_,k,_=>by simp [gst]
  | v+1,hv,k,hk=>by
    have ih:=gst_done hr v (by omega)
    simp only [gst]
    split
    · rename_i hd
      rw [ih k hk]
      constructor
      · rintro ⟨u,h1,h2⟩; exact ⟨u,by omega,h2⟩
      · rintro ⟨u,h1,h2⟩
        by_cases huv : u=v
        · subst huv
          obtain ⟨x,h3,h4⟩:=(ih u (by omega)).1 hd
          refine ⟨x,h3,?_⟩
          rw [both_iff hr (by omega) (by omega)] at h2 h4 ⊢
          exact ⟨h4.1.trans h2.1,h2.2.trans h4.2⟩
        · exact ⟨u,by omega,h2⟩
    · simp only [Bool.or_eq_true,ih k hk]
      constructor
      · rintro (⟨u,h1,h2⟩ | h2)
        · exact ⟨u,by omega,h2⟩
        · exact ⟨v,by omega,h2⟩
      · rintro ⟨u,h1,h2⟩
        by_cases huv : u=v
        · subst huv; exact .inr h2
        · exact .inl ⟨u,by omega,h2⟩
theorem groups_vr {w : Bool} (n : Int) (l : Arcs) : VR P false n_graph_Groups [graphA w n l] [] (isR (.tup [.fs true (rows true (groupsR n l).1),.v (.int .i64 (groupsR n l).2)])):=by
  refine vr_graph_Groups (by simp) (.inr rfl) fun _ _=>?_
  unfold graphA
  simp (disch:=((try simp only [lZ]); omega)) only [aZ,s_graph_Groups,v_graph_Groups]
  refine (check_vr (w:=w) n l).same (by unfold graphA; simp (disch:=first | omega | simp (disch:=omega) only [aG]) only [fZ]) rfl (aret_of ?_)
  simp (disch:=((try simp only [lZ]); omega)) only [aZ]
  refine ib_intro (fun h1=>?_) (fun h1=>?_)
  · simp (disch:=((try simp only [lZ]); omega)) only [aZ,r_graph_Groups]
    refine post_err ⟨?_,rfl⟩
    unfold groupsR; rw [if_pos h1]; rfl
  have h1 : gcheck n l=0:=Classical.not_not.1 h1
  obtain ⟨c1,c2,c3,c4⟩:=gcheck_ok h1
  simp (disch:=((try simp only [lZ]); omega)) only [aZ]
  refine AWP.cut (Cut.virt 5 1 rfl) ?_
  refine AWP.loopP (α:=Nat×Nat) g_graph_Groups_0 (fun p=>p.1≤n.toNat) (fun p=>[(5,.vs 2 p.2 1 (gst n l p.1).2.length),(7,.v (.int .i64 p.1))]) (fun p=>[(1,⟨0,bools (tab n.toNat (gst n l p.1).1)⟩),(2,⟨p.2,rows true (gst n l p.1).2⟩)]) (fun p=>n.toNat - p.1) (0,0) (by simp) ?_ ?_
  · simp (disch:=((try simp only [lZ]); omega)) only [aZ,tab_rep,gst]
    exact Cut.of' 3 rfl (by omega) (by simp (disch:=first | omega | simp (disch:=omega) only [aG]) only [fZ,r_nil]) (by simp (disch:=first | omega | simp (disch:=omega) only [aG]) only [fZ])
  rintro ⟨v,ver⟩ hv
  simp only at hv
  have hol:=gst_len n l v
  have htl:=tab_len n.toNat (gst n l v).1
  by_cases hlt : v < n.toNat
  · have hg:=tab_get n.toNat (gst n l v).1 v hlt
    cases hd : (gst n l v).1 v with
    | true =>
      simp (disch:=((try simp only [lZ]); omega)) only [aZ,hg,hd]
      refine ⟨(v+1,ver),by simp only; omega,by simp only; omega,?_⟩
      simp only [gst,hd,if_true]
      exact Cut.of' 3 rfl (by omega) (by simp (disch:=first | omega | simp (disch:=omega) only [aG]) only [fZ]) (by simp (disch:=first | omega | simp (disch:=omega) only [aG]) only [fZ])
    | false =>
      have vr : ∀ es,visitR n l es v=(reachL n es v,0):=fun es=>by unfold visitR; rw [if_neg (by simp [h1]),if_neg (by omega)]
      have hv1:=reach_vr (w:=w) n l v
      have hv2:=back_vr (w:=w) n l v
      rw [vr] at hv1 hv2
      have rl1:=reachL_len n l v
      have rl2:=reachL_len n (backL l) v
      simp (disch:=((try simp only [lZ]); omega)) only [aZ,hg,hd]
      refine hv1.same (by unfold graphA; simp (disch:=first | omega | simp (disch:=omega) only [aG]) only [fZ]) (by simp (disch:=first | omega | simp (disch:=omega) only [aG]) only [fZ]) (aret_of ?_)
      simp (disch:=((try simp only [lZ]); omega)) only [aZ]
      refine hv2.same (by unfold graphA; simp (disch:=first | omega | simp (disch:=omega) only [aG]) only [fZ]) (by simp (disch:=first | omega | simp (disch:=omega) only [aG]) only [fZ]) (aret_of ?_)
      simp (disch:=((try simp only [lZ]); omega)) only [aZ]
      refine AWP.cut (Cut.virt 15 1 rfl) ?_
      refine AWP.loopP (α:=Nat×Nat) g_graph_Groups_1 (fun p=>p.1≤n.toNat) (fun p=>[(15,.vs 3 p.2 1 (memb n l v 0 p.1).length),(16,.v (.int .i64 p.1))]) (fun p=>[(1,⟨0,bools (tab n.toNat (fun j=>(gst n l v).1 j || (decide (j < p.1) && both n l v j)))⟩),(3,⟨p.2,ints (memb n l v 0 p.1)⟩)]) (fun p=>n.toNat - p.1) (0,0) (by simp) ?_ ?_
      · have e0 : (fun j=>(gst n l v).1 j || (decide (j < 0) && both n l v j))=(gst n l v).1:=by funext j; simp
        have e1 : memb n l v 0 0=[]:=rfl
        simp (disch:=((try simp only [lZ]); omega)) only [aZ]
        exact Cut.of' 4 rfl (by omega) (by simp (disch:=first | omega | simp (disch:=omega) only [aG]) only [fZ,e0,e1,ii_nil]) (by simp (disch:=first | omega | simp (disch:=omega) only [aG]) only [fZ,e1])
      rintro ⟨k,vk⟩ hk
      simp only at hk
      have hml:=memb_len n l v 0 k
      have htk:=tab_len n.toNat (fun j=>(gst n l v).1 j || (decide (j < k) && both n l v j))
      by_cases hkt : k < n.toNat
      · simp (disch:=((try simp only [lZ]); omega)) only [aZ]
        refine ib_split (fun h3=>?_) (fun h3=>?_)
        · have h3' : both n l v k=true:=h3
          simp (disch:=((try simp only [lZ]); omega)) only [aZ]
          refine ⟨(k+1,vk+1),by simp only; omega,by simp only; omega,?_⟩
          have e1 : memb n l v 0 (k+1)=memb n l v 0 k++[(k : Int)]:=by rw [memb_succ,if_pos ⟨by omega,h3'⟩]
          have e2 : tab n.toNat (fun j=>(gst n l v).1 j || (decide (j < k+1) && both n l v j))=(tab n.toNat (fun j=>(gst n l v).1 j || (decide (j < k) && both n l v j))).set k true:=by
            rw [tab_set _ _ _ hkt]
            refine tab_ext fun j _=>?_
            by_cases hjk : j=k
            · subst hjk; simp [h3']
            · simp only [show (decide (j < k+1))=decide (j < k) by simp; omega,show (j == k)=false by simpa using hjk,Bool.or_false]
          simp only [e1,e2]
          try simp (disch:=((try simp only [lZ]); omega)) only [aZ]
          exact Cut.of' 4 rfl (by omega) (by simp (disch:=first | omega | simp (disch:=omega) only [aG]) only [fZ]) (by simp (disch:=first | omega | simp (disch:=omega) only [aG]) only [fZ])
        · have h3' : both n l v k=false:=h3
          simp (disch:=((try simp only [lZ]); omega)) only [aZ]
          refine ⟨(k+1,vk),by simp only; omega,by simp only; omega,?_⟩
          have e1 : memb n l v 0 (k+1)=memb n l v 0 k:=by rw [memb_succ,if_neg (by simp [h3'])]
          have e2 : tab n.toNat (fun j=>(gst n l v).1 j || (decide (j < k+1) && both n l v j))=tab n.toNat (fun j=>(gst n l v).1 j || (decide (j < k) && both n l v j)):=by
            refine tab_ext fun j _=>?_
            by_cases hjk : j=k
            · subst hjk; simp [h3']
            · simp only [show (decide (j < k+1))=decide (j < k) by simp; omega]
          simp only [e1,e2]
          try simp (disch:=((try simp only [lZ]); omega)) only [aZ]
          exact Cut.of' 4 rfl (by omega) (by simp (disch:=first | omega | simp (disch:=omega) only [aG]) only [fZ]) (by simp (disch:=first | omega | simp (disch:=omega) only [aG]) only [fZ])
      · have hkn : k=n.toNat:=by omega
        subst hkn
        simp (disch:=((try simp only [lZ]); omega)) only [aZ]
        refine ⟨(v+1,ver+1),by simp only; omega,by simp only; omega,?_⟩
        have e1 : gst n l (v+1)=(fun j=>(gst n l v).1 j || both n l v j,(gst n l v).2++[memb n l v 0 n.toNat]):=by simp [gst,hd]
        have e2 : tab n.toNat (fun j=>(gst n l v).1 j || both n l v j)=tab n.toNat (fun j=>(gst n l v).1 j || (decide (j < n.toNat) && both n l v j)):=tab_ext fun j hj=>by simp [hj]
        simp only [e1,e2]
        try simp (disch:=((try simp only [lZ]); omega)) only [aZ]
        have z : ∀ H : List Blk,blkAt H 3 vk=some (ints (memb n l v 0 n.toNat))→FzL 3 H (rows true (gst n l v).2++[.vs 3 vk 1 (memb n l v 0 n.toNat).length]) (rows true ((gst n l v).2++[memb n l v 0 n.toNat])):=fun H hH=>by
          rw [← r_app1]; exact FzL.app (FzL.refl (r_bd _ _ _)) ⟨fz_vsI _ _ _ _ _ _ (by omega) rfl hH,trivial⟩
        refine Cut.of' 3 rfl (by omega) ⟨rfl,by simp (disch:=first | omega | simp (disch:=omega) only [aG]) only [fZ],rfl,by simp (disch:=first | omega | simp (disch:=omega) only [aG]) only [fZ],rfl,z _ (by simp (disch:=((try simp only [lZ]); omega)) only [aZ]),trivial⟩ (by simp (disch:=first | omega | simp (disch:=omega) only [aG]) only [fZ])
  · have hvn : v=n.toNat:=by omega
    subst hvn
    simp (disch:=((try simp only [lZ]); omega)) only [aZ,r_graph_Groups]
    refine post0 (r:=.tup [.fs true (rows true (gst n l n.toNat).2),.v (.int .i64 0)]) (Fz.tup ⟨fz_vsR _ _ _ _ _ _ (by omega) rfl (by simp (disch:=((try simp only [lZ]); omega)) only [aZ]),Fz.refl rfl,trivial⟩) ⟨?_,rfl⟩
    unfold groupsR; rw [if_neg (by simp [h1])]
def reps (n : Int) (l : Arcs) : Nat→List Nat
  | 0=>[]
  | v+1=>if (gst n l v).1 v then reps n l v else reps n l v++[v]
theorem gst_reps (n : Int) (l : Arcs) : ∀ v,(gst n l v).2=(reps n l v).map fun r=>memb n l r 0 n.toNat
  | 0=>rfl
  | v+1=>by
    simp only [gst,reps]
    split
    · exact gst_reps n l v
    · simp only [gst_reps n l v,List.map_append,List.map_cons,List.map_nil]
theorem reps_lt (n : Int) (l : Arcs) : ∀ v,∀ r∈reps n l v,r < v
  | 0,r,h=>by simp [reps] at h
  | v+1,r,h=>by
    simp only [reps] at h
    split at h
    · have:=reps_lt n l v r h; omega
    · simp only [List.mem_append,List.mem_singleton] at h
      rcases h with h | rfl
      · have:=reps_lt n l v r h; omega
      · omega
theorem b_refl {n : Int} {l : Arcs} (hr : inR n l) {u : Nat} (hu : u < n.toNat) : both n l u u=true:=(both_iff hr hu hu).2 ⟨.refl _,.refl _⟩
theorem b_symm {n : Int} {l : Arcs} (hr : inR n l) {u v : Nat} (hu : u < n.toNat) (hv : v < n.toNat) (h : both n l u v=true) : both n l v u=true:=by
  have:=(both_iff hr hu hv).1 h
  exact (both_iff hr hv hu).2 ⟨this.2,this.1⟩
theorem b_trans {n : Int} {l : Arcs} (hr : inR n l) {u v w : Nat} (hu : u < n.toNat) (hv : v < n.toNat) (hw : w < n.toNat) (h : both n l u v=true) (k : both n l v w=true) : both n l u w=true:=by
  have h1:=(both_iff hr hu hv).1 h
  have h2:=(both_iff hr hv hw).1 k
  exact (both_iff hr hu hw).2 ⟨h1.1.trans h2.1,h2.2.trans h1.2⟩
theorem reps_apart {n : Int} {l : Arcs} (hr : inR n l) : ∀ v,v≤n.toNat→(reps n l v).Pairwise fun a b=>both n l a b=false
  | 0,_=>by simp [reps]
  | v+1,hv=>by
    simp only [reps]
    split
    · exact reps_apart hr v (by omega)
    · rename_i hd
      rw [List.pairwise_append]
      refine ⟨reps_apart hr v (by omega),by simp,fun a ha b hb=>?_⟩
      simp only [List.mem_singleton] at hb
      subst hb
      rw [← Bool.not_eq_true]; intro hc
      exact hd ((gst_done hr b (by omega) b (by omega)).2 ⟨a,reps_lt n l b a ha,hc⟩)
theorem reps_cover {n : Int} {l : Arcs} (hr : inR n l) : ∀ v,v≤n.toNat→∀ u,u < v→∃ r∈reps n l v,both n l r u=true
  | 0,_,u,hu=>by omega
  | v+1,hv,u,hu=>by
    have ih:=reps_cover hr v (by omega)
    simp only [reps]
    by_cases huv : u < v
    · obtain ⟨r,h1,h2⟩:=ih u huv
      refine ⟨r,?_,h2⟩
      split
      · exact h1
      · exact List.mem_append.2 (.inl h1)
    · have : u=v:=by omega
      subst this
      split
      · rename_i hd
        obtain ⟨x,h1,h2⟩:=(gst_done hr u (by omega) u (by omega)).1 hd
        obtain ⟨r,h3,h4⟩:=ih x h1
        have:=reps_lt n l u r h3
        exact ⟨r,h3,b_trans hr (by omega) (by omega) (by omega) h4 h2⟩
      · exact ⟨u,by simp,b_refl hr (by omega)⟩
theorem memb_mem {n : Int} {l : Arcs} {r b : Nat} {x : Int} : x∈memb n l r 0 b↔0≤x∧x < b∧both n l r x.toNat=true:=by
  unfold memb
  simp only [List.mem_map,List.mem_filter,List.mem_range,Bool.and_eq_true,decide_eq_true_eq]
  constructor
  · rintro ⟨a,⟨h1,_,h2⟩,rfl⟩
    refine ⟨Int.natCast_nonneg a,?_,h2⟩
    show (a : Int) < b
    omega
  · rintro ⟨h1,h2,h3⟩
    exact ⟨x.toNat,⟨by omega,by omega,h3⟩,Int.toNat_of_nonneg h1⟩
theorem memb_lt (n : Int) (l : Arcs) (r a b : Nat) : (memb n l r a b).Pairwise (· < ·):=by
  unfold memb
  refine List.Pairwise.map (R:=(· < ·)) _ (fun a b h=>?_) (List.pairwise_lt_range.filter _)
  show (a : Int) < b
  omega
def arcsR (p : Pl) : Arcs:=p.bs.map fun b=>(b.fr,b.to)
theorem arcsR_len (p : Pl) : (arcsR p).length=p.bs.length:=by simp [arcsR]
theorem arcsR_get (p : Pl) (k : Nat) (h : k < p.bs.length) : (arcsR p).getD k (0,0)=((p.bs.getD k b0).fr,(p.bs.getD k b0).to):=by
  simp [arcsR,List.getD_eq_getElem?_getD,h]
def pgraph (p : Pl) : (Int×Arcs)×Int:=if pcheck p≠0 then ((0,[]),pcheck p) else ((p.ms.length,arcsR p),0)
theorem pgraph_err {p : Pl} (h : pcheck p≠0) : pgraph p=((0,[]),pcheck p):=by unfold pgraph; rw [if_pos h]
theorem pgraph_ok {p : Pl} (h : pcheck p=0) : pgraph p=(((p.ms.length : Int),arcsR p),0):=by unfold pgraph; rw [if_neg (by omega)]
def graphT (g : (Int×Arcs)×Int) : A:=.tup [graphA true g.1.1 g.1.2,.v (.int .i64 g.2)]
theorem layoutGraph_vr {w v : Bool} (p : Pl) : VR P false n_layout_Graph [plA w v p] [] (isR (graphT (pgraph p))):=by
  refine vr_layout_Graph (by simp) (.inr rfl) fun _ _=>?_
  unfold plA plC
  simp (disch:=((try simp only [lZ]); omega)) only [aZ,aM,s_layout_Graph,v_layout_Graph]
  refine (layoutCheck_vr (w:=w) (v:=v) p).same (by unfold plA plC; simp (disch:=first | omega | simp (disch:=omega) only [aG,aM]) only [fZ,aM]) rfl (aret_of ?_)
  simp (disch:=((try simp only [lZ]); omega)) only [aZ,aM]
  refine ib_intro (fun h1=>?_) (fun h1=>?_)
  · rw [pgraph_err h1]
    simp (disch:=((try simp only [lZ]); omega)) only [aZ,aM,r_layout_Graph]
    exact post0 (r:=graphT ((0,[]),pcheck p)) (Fz.tup ⟨Fz.agg ⟨Fz.refl rfl,fz_nil _ _,trivial⟩,Fz.refl rfl,trivial⟩) ⟨rfl,rfl⟩
  have h1:=Classical.not_not.1 h1
  have ok:=pcheck_ok h1
  have hb2:=ok.b2
  rw [pgraph_ok h1]
  simp (disch:=((try simp only [lZ]); omega)) only [aZ,aM]
  refine AWP.cut (Cut.virtB 2 0 1 2 rfl rfl) ?_
  refine AWP.loopP (α:=Nat×Nat) g_layout_Graph_0 (fun q=>q.1≤p.bs.length) (fun q=>[(5,.v (.int .i64 q.1))]) (fun q=>[(2,⟨0,[.v (.int .i64 p.ms.length),.vs 3 q.2 2 q.1]⟩),(3,⟨q.2,pcells ((arcsR p).take q.1)⟩)]) (fun q=>p.bs.length - q.1) (0,0) (by simp) ?_ ?_
  · simp (disch:=((try simp only [lZ]); omega)) only [aZ,aM]
    exact Cut.of' 4 rfl (by omega) (by simp (disch:=first | omega | simp (disch:=omega) only [aG,aM]) only [fZ,aM,pc_nil,List.take_zero]) (by simp (disch:=first | omega | simp (disch:=omega) only [aG,aM]) only [fZ,aM])
  rintro ⟨k,ver⟩ hk
  simp only at hk
  have hal:=arcsR_len p
  have hbk : ((arcsR p).take k).length=k:=by simp; omega
  by_cases hlt : k < p.bs.length
  · have hg:=arcsR_get p k hlt
    simp (disch:=((try simp only [lZ]); omega)) only [aZ,aM]
    refine ⟨(k+1,ver+1),by simp only; omega,by simp only; omega,?_⟩
    rw [take_succ_get (arcsR p) k (0,0) (by omega),hg]
    simp (disch:=((try simp only [lZ]); omega)) only [aZ,aM]
    have e1 : List.take k (List.take k (arcsR p))=List.take k (arcsR p):=by rw [List.take_take,Nat.min_self]
    exact Cut.of' 4 rfl (by omega) (by simp (disch:=first | omega | simp (disch:=omega) only [aG,aM]) only [fZ,aM,e1]) (by simp (disch:=first | omega | simp (disch:=omega) only [aG,aM]) only [fZ,aM])
  · have hkl : k=p.bs.length:=by omega
    subst hkl
    have e1 : (arcsR p).take p.bs.length=arcsR p:=List.take_of_length_le (by omega)
    simp (disch:=((try simp only [lZ]); omega)) only [aZ,aM,r_layout_Graph]
    refine post0 (r:=graphT (((p.ms.length : Int),arcsR p),0)) (Fz.tup ⟨Fz.agg ⟨Fz.refl rfl,?_,trivial⟩,Fz.refl rfl,trivial⟩) ⟨rfl,rfl⟩
    exact fz_vsP 0 _ 3 ver p.bs.length (arcsR p) (by omega) hal.symm (by simp [blkAt,e1])
def nextR (p : Pl) (m o : Int) : Int×Int:=if pcheck p≠0 then (0,pcheck p) else if findB p.bs m o < 0 then (0,7) else (findB p.bs m o,0)
theorem layoutNext_vr {w v : Bool} (p : Pl) (m o : Int) : VR P false n_layout_Next [plA w v p,.v (.int .i64 m),.v (.int .i64 o)] [] (isR (.tup [.v (.int .i64 (nextR p m o).1),.v (.int .i64 (nextR p m o).2)])):=by
  refine vr_layout_Next (by simp) (.inr rfl) fun _ _=>?_
  unfold plA plC nextR
  simp (disch:=((try simp only [lZ]); omega)) only [aZ,aM,s_layout_Next,v_layout_Next]
  refine (layoutCheck_vr (w:=w) (v:=v) p).same (by unfold plA plC; simp (disch:=first | omega | simp (disch:=omega) only [aG,aM]) only [fZ,aM]) rfl (aret_of ?_)
  simp (disch:=((try simp only [lZ]); omega)) only [aZ,aM]
  refine ib_intro (fun h1=>?_) (fun h1=>?_)
  · rw [if_pos h1]
    simp (disch:=((try simp only [lZ]); omega)) only [aZ,aM,r_layout_Next]
    exact post0 (Fz.refl (by simp (disch:=first | omega | simp (disch:=omega) only [aG,aM]) only [fZ,aM])) ⟨rfl,rfl⟩
  rw [if_neg h1]
  have ok:=pcheck_ok (Classical.not_not.1 h1)
  have hb2:=ok.b2
  simp (disch:=((try simp only [lZ]); omega)) only [aZ,aM]
  refine (find_vr (w:=w) (v:=v) p (by omega) m o).same (by unfold plA plC; simp (disch:=first | omega | simp (disch:=omega) only [aG,aM]) only [fZ,aM]) rfl (aret_of ?_)
  simp (disch:=((try simp only [lZ]); omega)) only [aZ,aM]
  refine ib_intro (fun h2=>?_) (fun h2=>?_)
  · rw [if_pos h2]
    simp (disch:=((try simp only [lZ]); omega)) only [aZ,aM,r_layout_Next]
    exact post0 (Fz.refl (by simp (disch:=first | omega | simp (disch:=omega) only [aG,aM]) only [fZ,aM])) ⟨rfl,rfl⟩
  · rw [if_neg h2]
    simp (disch:=((try simp only [lZ]); omega)) only [aZ,aM,r_layout_Next]
    exact post0 (Fz.refl (by simp (disch:=first | omega | simp (disch:=omega) only [aG,aM]) only [fZ,aM])) ⟨rfl,rfl⟩
def wayV (p : Pl) (mt : Int) (m : Nat) : Int×Bool:=wayR p mt p.ms.length m 0
def wayT (x : Int×Bool) : A:=.tup [.v (.int .i64 x.1),.v (.bool x.2)]
theorem rows4 {p : Pl} (h : POk p) {i : Nat} (hi : i < p.ms.length) (mt : Int) : ((p.ms.getD i []).getD mt.toNat []).length < 1000000000:=by
  have hm:=h.mc _ (mem_get [] hi)
  by_cases hk : mt.toNat < (p.ms.getD i []).length
  · have:=(hm.row _ (mem_get [] hk)).2.1; omega
  · rw [List.getD_eq_getElem?_getD,List.getElem?_eq_none (by omega)]; simp
theorem refWay_vr {w v : Bool} (p : Pl) (h : POk p) (m : Nat) (hm : m < p.ms.length) (mt : Int) (h0 : 0≤mt) (h1 : mt < p.mat) : VR P false n_ref34_way [plA w v p,.v (.int .i64 m),.v (.int .i64 mt)] [] (isR (wayT (wayV p mt m))):=by
  refine vr_ref34_way (by simp) (.inr rfl) fun _ _=>?_
  have hn2:=h.n2
  have hb2:=h.b2
  unfold plA plC
  simp (disch:=((try simp only [lZ]); omega)) only [aZ,aM,s_ref34_way,v_ref34_way]
  refine AWP.loopP g_ref34_way_0 (fun k : Nat=>k≤p.ms.length+1∧∀ i,i < k→¬ binN p (posR p mt m i)) (fun k=>[(1,.v (.int .i64 (posR p mt m k))),(3,.v (.int .i64 0)),(4,.v (.bool false)),(5,.v (.int .i64 (farR p mt m k))),(6,.v (.int .i64 k))]) (fun _=>[]) (fun k=>p.ms.length+1 - k) 0 ⟨by omega,fun i hi=>by omega⟩ ?_ ?_
  · simp only [posR,farR]
    try simp (disch:=((try simp only [lZ]); omega)) only [aZ,aM]
    exact Cut.of' 1 rfl (by omega) (by simp (disch:=first | omega | simp (disch:=omega) only [aG,aM]) only [fZ,aM]) (by simp (disch:=first | omega | simp (disch:=omega) only [aG,aM]) only [fZ,aM])
  rintro k ⟨hk,hb⟩
  by_cases hlt : k < p.ms.length+1
  · have hp:=posR_lt h h0 h1 hm k hb
    have hf:=farR_bd h h0 h1 hm k hb
    simp (disch:=((try simp only [lZ]); omega)) only [aZ,aM]
    refine (refOuts_vr (w:=w) (p.ms.getD (posR p mt m k) [])).same (by unfold mcA mcC; simp (disch:=first | omega | simp (disch:=omega) only [aG,aM]) only [fZ,aM]) rfl (aret_of ?_)
    by_cases hbin : binN p (posR p mt m k)
    · have hz : outsN (p.ms.getD (posR p mt m k) [])=0:=hbin
      have hw : wayV p mt m=(farR p mt m k,true):=wayR_of (by omega) hb hbin
      rw [hz,hw]
      simp (disch:=((try simp only [lZ]); omega)) only [aZ,aM,r_ref34_way]
      exact post0 (Fz.refl (by simp (disch:=first | omega | simp (disch:=omega) only [aG,aM]) only [fZ,aM])) ⟨rfl,rfl⟩
    · have hz : ¬ outsN (p.ms.getD (posR p mt m k) [])=0:=hbin
      obtain ⟨o1,o2,o3,o4,o5,o6,o7⟩:=out_ok h h0 h1 hp hbin
      have o1' : (findB p.bs (posR p mt m k) (mainN (p.ms.getD (posR p mt m k) []) mt)).toNat=outB p mt (posR p mt m k):=rfl
      have o8:=findB_ge p.bs (posR p mt m k) (mainN (p.ms.getD (posR p mt m k) []) mt)
      have hr4:=rows4 h hp mt
      have o9 : (p.bs.getD (outB p mt (posR p mt m k)) b0).ln=lx p mt (posR p mt m k):=rfl
      simp (disch:=((try simp only [lZ]); omega)) only [aZ,aM]
      refine ⟨?_,?_,?_⟩
      all_goals
        refine (refMain_vr (w:=w) (p.ms.getD (posR p mt m k) []) mt hr4).same (by unfold mcA mcC; simp (disch:=first | omega | simp (disch:=omega) only [aG,aM]) only [fZ,aM]) rfl (aret_of ?_)
        simp (disch:=((try simp only [lZ]); omega)) only [aZ,aM]
        refine (place_vr (w:=w) (v:=v) p (by omega) (posR p mt m k) (mainN (p.ms.getD (posR p mt m k) []) mt)).same (by unfold plA plC; simp (disch:=first | omega | simp (disch:=omega) only [aG,aM]) only [fZ,aM]) rfl (aret_of ?_)
        simp (disch:=((try simp only [lZ]); omega)) only [aZ,aM,o1',o5,o9]
        refine ⟨k+1,⟨by omega,fun i hi=>?_⟩,by omega,?_⟩
        · rcases Nat.lt_succ_iff_lt_or_eq.1 hi with h | rfl
          · exact hb i h
          · exact hbin
        · simp only [posR,farR]
          try simp (disch:=((try simp only [lZ]); omega)) only [aZ,aM]
          exact Cut.of' 1 rfl (by omega) (by simp (disch:=first | omega | simp (disch:=omega) only [aG,aM]) only [fZ,aM]) (by simp (disch:=first | omega | simp (disch:=omega) only [aG,aM]) only [fZ,aM])
  · have hw : wayV p mt m = (0, false) := by
      rcases wayR_cases h h0 h1 hm with ⟨k',g1,g2,g3,g4⟩ | ⟨g1,g2⟩
      · exact absurd g3 (hb k' (by omega))
      · exact g2
    rw [hw]
    simp (disch:=((try simp only [lZ]); omega)) only [aZ,aM,r_ref34_way]
    exact post0 (Fz.refl (by simp (disch:=first | omega | simp (disch:=omega) only [aG,aM]) only [fZ,aM])) ⟨rfl,rfl⟩
theorem binN_vr {w v : Bool} (p : Pl) (m : Nat) (h1 : m < p.ms.length) : VR P false n_layout_bin [plA w v p,.v (.int .i64 m)] [] (isR (.v (.bool (decide (binN p m))))):=by
  have:=bin_vr (w:=w) (v:=v) p m (by omega) (by omega)
  rw [Int.toNat_natCast] at this; exact this
def visN (p : Pl) (mt : Int) (m j : Nat) (i : Nat) : Bool:=(List.range j).any fun l=>posR p mt m l == i
theorem visN_succ (p : Pl) (mt : Int) (m j i : Nat) : visN p mt m (j+1) i=(visN p mt m j i || i == posR p mt m j):=by
  unfold visN
  rw [List.range_succ,List.any_append]
  simp only [List.any_cons,List.any_nil,Bool.or_false]
  congr 1
  by_cases h : posR p mt m j=i
  · subst h; simp
  · rw [beq_eq_false_iff_ne.2 h,beq_eq_false_iff_ne.2 (Ne.symm h)]
theorem visN_iff {p : Pl} {mt : Int} {m j i : Nat} : visN p mt m j i=true↔∃ l,l < j∧posR p mt m l=i:=by
  unfold visN; simp
theorem layoutWay_vr {w v : Bool} (p : Pl) (h : POk p) (m : Nat) (hm : m < p.ms.length) (mt : Int) (h0 : 0≤mt) (h1 : mt < p.mat) : VR P false n_layout_way [plA w v p,.v (.int .i64 m),.v (.int .i64 mt)] [] (isR (wayT (wayV p mt m))):=by
  refine vr_layout_way (by simp) (.inr rfl) fun _ _=>?_
  have hn2:=h.n2
  have hb2:=h.b2
  unfold plA plC
  simp (disch:=((try simp only [lZ]); omega)) only [aZ,aM,s_layout_way,v_layout_way]
  refine AWP.loopP g_layout_way_0 (fun k : Nat=>k≤p.ms.length∧(∀ i,i < k→¬ binN p (posR p mt m i))∧∀ i l,i < l→l < k→posR p mt m i≠posR p mt m l) (fun k=>[(5,.v (.int .i64 (posR p mt m k))),(6,.v (.int .i64 (farR p mt m k)))]) (fun k=>[(1,⟨0,bools (tab 24 (visN p mt m k))⟩)]) (fun k=>p.ms.length - k) 0 ⟨by omega,fun i hi=>by omega,fun i l hi hl=>by omega⟩ ?_ ?_
  · have e0 : tab 24 (visN p mt m 0)=List.replicate 24 false:=by rw [tab_rep]; exact tab_ext fun k _=>rfl
    simp only [posR,farR,e0]
    try simp (disch:=((try simp only [lZ]); omega)) only [aZ,aM]
    exact Cut.of' 2 rfl (by omega) (by simp (disch:=first | omega | simp (disch:=omega) only [aG,aM]) only [fZ,aM]) (by simp (disch:=first | omega | simp (disch:=omega) only [aG,aM]) only [fZ,aM])
  rintro k ⟨hk,hb,hd⟩
  have hp:=posR_lt h h0 h1 hm k hb
  have hf:=farR_bd h h0 h1 hm k hb
  have htl:=tab_len 24 (visN p mt m k)
  simp (disch:=((try simp only [lZ]); omega)) only [aZ,aM]
  refine (binN_vr (w:=w) (v:=v) p _ hp).same (by unfold plA plC; simp (disch:=first | omega | simp (disch:=omega) only [aG,aM]) only [fZ,aM]) rfl (aret_of ?_)
  by_cases hbin : binN p (posR p mt m k)
  · have hw : wayV p mt m=(farR p mt m k,true):=wayR_of (by omega) hb hbin
    simp (disch:=((try simp only [lZ]); omega)) only [aZ,aM,decide_eq_true hbin]
    refine (binN_vr (w:=w) (v:=v) p _ hp).same (by unfold plA plC; simp (disch:=first | omega | simp (disch:=omega) only [aG,aM]) only [fZ,aM]) rfl (aret_of ?_)
    rw [hw]
    simp (disch:=((try simp only [lZ]); omega)) only [aZ,aM,decide_eq_true hbin,r_layout_way]
    exact post0 (Fz.refl (by simp (disch:=first | omega | simp (disch:=omega) only [aG,aM]) only [fZ,aM])) ⟨rfl,rfl⟩
  have hg:=tab_get 24 (visN p mt m k) (posR p mt m k) (by omega)
  cases hv : visN p mt m k (posR p mt m k) with
  | true =>
    obtain ⟨l,l1,l2⟩:=visN_iff.1 hv
    have hnone:=again_none l1 l2 hb
    have hw : wayV p mt m=(0,false):=wayR_none hnone _
    simp (disch:=((try simp only [lZ]); omega)) only [aZ,aM,decide_eq_false hbin,hg,hv]
    refine (binN_vr (w:=w) (v:=v) p _ hp).same (by unfold plA plC; simp (disch:=first | omega | simp (disch:=omega) only [aG,aM]) only [fZ,aM]) rfl (aret_of ?_)
    rw [hw]
    simp (disch:=((try simp only [lZ]); omega)) only [aZ,aM,decide_eq_false hbin,r_layout_way]
    exact post0 (Fz.refl (by simp (disch:=first | omega | simp (disch:=omega) only [aG,aM]) only [fZ,aM])) ⟨rfl,rfl⟩
  | false =>
    have hd' : ∀ i l,i < l→l < k+1→posR p mt m i≠posR p mt m l:=fun i l hi hl he=>by
      rcases Nat.lt_succ_iff_lt_or_eq.1 hl with h | rfl
      · exact hd i l hi h he
      · rw [visN_iff.2 ⟨i,hi,he⟩] at hv; cases hv
    have hb' : ∀ i,i < k+1→¬ binN p (posR p mt m i):=fun i hi=>by
      rcases Nat.lt_succ_iff_lt_or_eq.1 hi with h | rfl
      · exact hb i h
      · exact hbin
    have hk' : k+1≤p.ms.length:=by
      apply Nat.le_of_not_lt; intro hc
      obtain ⟨i,l,a1,a2,a3⟩:=pigeon p.ms.length (posR p mt m) fun i hi=>posR_lt h h0 h1 hm i fun l hl=>hb l (by omega)
      exact hd' i l a1 (by omega) a3
    have e2 : (tab 24 (visN p mt m k)).set (posR p mt m k) true=tab 24 (visN p mt m (k+1)):=by
      rw [tab_set _ _ _ (by omega)]
      exact tab_ext fun j _=>(visN_succ p mt m k j).symm
    obtain ⟨o1,o2,o3,o4,o5,o6,o7⟩:=out_ok h h0 h1 hp hbin
    have o1' : (findB p.bs (posR p mt m k) (mainN (p.ms.getD (posR p mt m k) []) mt)).toNat=outB p mt (posR p mt m k):=rfl
    have o8:=findB_ge p.bs (posR p mt m k) (mainN (p.ms.getD (posR p mt m k) []) mt)
    have hr4:=rows4 h hp mt
    have o9 : (p.bs.getD (outB p mt (posR p mt m k)) b0).ln=lx p mt (posR p mt m k):=rfl
    simp (disch:=((try simp only [lZ]); omega)) only [aZ,aM,decide_eq_false hbin,hg,hv,e2]
    refine ⟨?_,?_,?_⟩
    all_goals
      refine (machineMain_vr (w:=w) (p.ms.getD (posR p mt m k) []) mt hr4).same (by unfold mcA mcC; simp (disch:=first | omega | simp (disch:=omega) only [aG,aM]) only [fZ,aM]) rfl (aret_of ?_)
      simp (disch:=((try simp only [lZ]); omega)) only [aZ,aM]
      refine (find_vr (w:=w) (v:=v) p (by omega) (posR p mt m k) (mainN (p.ms.getD (posR p mt m k) []) mt)).same (by unfold plA plC; simp (disch:=first | omega | simp (disch:=omega) only [aG,aM]) only [fZ,aM]) rfl (aret_of ?_)
      simp (disch:=((try simp only [lZ]); omega)) only [aZ,aM,o1',o5,o9]
      refine ⟨k+1,⟨hk',hb',hd'⟩,by omega,?_⟩
      simp only [posR,farR]
      try simp (disch:=((try simp only [lZ]); omega)) only [aZ,aM]
      exact Cut.of' 2 rfl (by omega) (by simp (disch:=first | omega | simp (disch:=omega) only [aG,aM]) only [fZ,aM]) (by simp (disch:=first | omega | simp (disch:=omega) only [aG,aM]) only [fZ,aM])
def drB (p : Pl) : Bool:=(List.range p.ms.length).all fun m=>(List.range p.mat.toNat).all fun mt=>(wayV p mt m).2
theorem drB_iff {p : Pl} (h : POk p) : drB p=true↔∀ m,m < p.ms.length→∀ mt : Nat,(mt : Int) < p.mat→(wayV p mt m).2=true:=by
  unfold drB
  have:=h.m1
  simp only [List.all_eq_true,List.mem_range]
  exact ⟨fun g m hm mt hmt=>g m hm mt (by omega),fun g m hm mt hmt=>g m hm mt (by omega)⟩
def drainR (p : Pl) : Bool×Int:=if pcheck p≠0 then (false,pcheck p) else (drB p,0)
theorem refDrains_vr {w v : Bool} (p : Pl) : VR P false n_ref34_Drains [plA w v p] [] (isR (.tup [.v (.bool (drainR p).1),.v (.int .i64 (drainR p).2)])):=by
  refine vr_ref34_Drains (by simp) (.inr rfl) fun _ _=>?_
  unfold plA plC drainR
  simp (disch:=((try simp only [lZ]); omega)) only [aZ,aM,s_ref34_Drains,v_ref34_Drains]
  refine (ref34Check_vr (w:=w) (v:=v) p).same (by unfold plA plC; simp (disch:=first | omega | simp (disch:=omega) only [aG,aM]) only [fZ,aM]) rfl (aret_of ?_)
  simp (disch:=((try simp only [lZ]); omega)) only [aZ,aM]
  refine ib_intro (fun h1=>?_) (fun h1=>?_)
  · rw [if_pos h1]
    simp (disch:=((try simp only [lZ]); omega)) only [aZ,aM,r_ref34_Drains]
    exact post0 (Fz.refl (by simp (disch:=first | omega | simp (disch:=omega) only [aG,aM]) only [fZ,aM])) ⟨rfl,rfl⟩
  rw [if_neg h1]
  have h:=pcheck_ok (Classical.not_not.1 h1)
  have hn2:=h.n2
  have hm1:=h.m1
  have hm2:=h.m2
  simp (disch:=((try simp only [lZ]); omega)) only [aZ,aM]
  refine AWP.loopP g_ref34_Drains_0 (fun k : Nat=>k≤p.ms.length∧∀ m,m < k→∀ mt : Nat,(mt : Int) < p.mat→(wayV p mt m).2=true) (fun k=>[(1,.v (.bool false)),(2,.v (.int .i64 0)),(5,.v (.int .i64 k))]) (fun _=>[]) (fun k=>p.ms.length - k) 0 ⟨by omega,fun i hi=>by omega⟩ (by refine Cut.of' (1) ?_ (by omega) ?_ ?_<;>simp (disch:=first | omega | simp (disch:=omega) only [aG,aM]) only [fZ,aM]) ?_
  rintro k ⟨hk,hb⟩
  by_cases hlt : k < p.ms.length
  · simp (disch:=((try simp only [lZ]); omega)) only [aZ,aM]
    refine AWP.loopP g_ref34_Drains_1 (fun j : Nat=>(j : Int)≤p.mat∧∀ mt : Nat,mt < j→(wayV p mt k).2=true) (fun j=>[(1,.v (.bool false)),(2,.v (.int .i64 0)),(6,.v (.int .i64 j))]) (fun _=>[]) (fun j=>p.mat.toNat - j) 0 ⟨by omega,fun i hi=>by omega⟩ (by refine Cut.of' (1) ?_ (by omega) ?_ ?_<;>simp (disch:=first | omega | simp (disch:=omega) only [aG,aM]) only [fZ,aM]) ?_
    rintro j ⟨hj,hc⟩
    by_cases hjl : (j : Int) < p.mat
    · simp (disch:=((try simp only [lZ]); omega)) only [aZ,aM]
      refine (refWay_vr (w:=w) (v:=v) p h k hlt j (by omega) hjl).same (by unfold plA plC; simp (disch:=first | omega | simp (disch:=omega) only [aG,aM]) only [fZ,aM]) rfl (aret_of ?_)
      unfold wayT
      simp (disch:=((try simp only [lZ]); omega)) only [aZ,aM]
      refine ib_split (fun h2=>?_) (fun h2=>?_)
      · have hd : drB p = false := by
          apply Bool.eq_false_iff.2
          intro hc
          have:=(drB_iff h).1 hc k hlt j hjl
          simp_all
        rw [hd]
        simp (disch:=((try simp only [lZ]); omega)) only [aZ,aM,r_ref34_Drains]
        exact post0 (Fz.refl (by simp (disch:=first | omega | simp (disch:=omega) only [aG,aM]) only [fZ,aM])) ⟨rfl,rfl⟩
      · simp (disch:=((try simp only [lZ]); omega)) only [aZ,aM]
        refine ⟨j+1,⟨by omega,fun i hi=>?_⟩,by omega,(by refine Cut.of' (1) ?_ (by omega) ?_ ?_<;>simp (disch:=first | omega | simp (disch:=omega) only [aG,aM]) only [fZ,aM])⟩
        rcases Nat.lt_succ_iff_lt_or_eq.1 hi with h | rfl
        · exact hc i h
        · simpa using h2
    · simp (disch:=((try simp only [lZ]); omega)) only [aZ,aM]
      refine ⟨k+1,⟨by omega,fun i hi=>?_⟩,by omega,(by refine Cut.of' (1) ?_ (by omega) ?_ ?_<;>simp (disch:=first | omega | simp (disch:=omega) only [aG,aM]) only [fZ,aM])⟩
      rcases Nat.lt_succ_iff_lt_or_eq.1 hi with h | rfl
      · exact hb i h
      · exact fun mt hmt=>hc mt (by omega)
  · have hd : drB p=true:=(drB_iff h).2 fun m hm=>hb m (by omega)
    rw [hd]
    simp (disch:=((try simp only [lZ]); omega)) only [aZ,aM,r_ref34_Drains]
    exact post0 (Fz.refl (by simp (disch:=first | omega | simp (disch:=omega) only [aG,aM]) only [fZ,aM])) ⟨rfl,rfl⟩
theorem layoutDrains_vr {w v : Bool} (p : Pl) : VR P false n_layout_Drains [plA w v p] [] (isR (.tup [.v (.bool (drainR p).1),.v (.int .i64 (drainR p).2)])):=by
  refine vr_layout_Drains (by simp) (.inr rfl) fun _ _=>?_
  unfold plA plC drainR
  simp (disch:=((try simp only [lZ]); omega)) only [aZ,aM,s_layout_Drains,v_layout_Drains]
  refine (layoutCheck_vr (w:=w) (v:=v) p).same (by unfold plA plC; simp (disch:=first | omega | simp (disch:=omega) only [aG,aM]) only [fZ,aM]) rfl (aret_of ?_)
  simp (disch:=((try simp only [lZ]); omega)) only [aZ,aM]
  refine ib_intro (fun h1=>?_) (fun h1=>?_)
  · rw [if_pos h1]
    simp (disch:=((try simp only [lZ]); omega)) only [aZ,aM,r_layout_Drains]
    exact post0 (Fz.refl (by simp (disch:=first | omega | simp (disch:=omega) only [aG,aM]) only [fZ,aM])) ⟨rfl,rfl⟩
  rw [if_neg h1]
  have h:=pcheck_ok (Classical.not_not.1 h1)
  have hn2:=h.n2
  have hm1:=h.m1
  have hm2:=h.m2
  simp (disch:=((try simp only [lZ]); omega)) only [aZ,aM]
  refine AWP.loopP g_layout_Drains_0 (fun k : Nat=>k≤p.ms.length∧∀ m,m < k→∀ mt : Nat,(mt : Int) < p.mat→(wayV p mt m).2=true) (fun k=>[(1,.v (.bool false)),(2,.v (.int .i64 0)),(5,.v (.int .i64 k))]) (fun _=>[]) (fun k=>p.ms.length - k) 0 ⟨by omega,fun i hi=>by omega⟩ (by refine Cut.of' (1) ?_ (by omega) ?_ ?_<;>simp (disch:=first | omega | simp (disch:=omega) only [aG,aM]) only [fZ,aM]) ?_
  rintro k ⟨hk,hb⟩
  by_cases hlt : k < p.ms.length
  · simp (disch:=((try simp only [lZ]); omega)) only [aZ,aM]
    refine AWP.loopP g_layout_Drains_1 (fun j : Nat=>(j : Int)≤p.mat∧∀ mt : Nat,mt < j→(wayV p mt k).2=true) (fun j=>[(1,.v (.bool false)),(2,.v (.int .i64 0)),(9,.v (.int .i64 j))]) (fun _=>[]) (fun j=>p.mat.toNat - j) 0 ⟨by omega,fun i hi=>by omega⟩ (by refine Cut.of' (1) ?_ (by omega) ?_ ?_<;>simp (disch:=first | omega | simp (disch:=omega) only [aG,aM]) only [fZ,aM]) ?_
    rintro j ⟨hj,hc⟩
    by_cases hjl : (j : Int) < p.mat
    · simp (disch:=((try simp only [lZ]); omega)) only [aZ,aM]
      refine (layoutWay_vr (w:=w) (v:=v) p h k hlt j (by omega) hjl).same (by unfold plA plC; simp (disch:=first | omega | simp (disch:=omega) only [aG,aM]) only [fZ,aM]) rfl (aret_of ?_)
      unfold wayT
      simp (disch:=((try simp only [lZ]); omega)) only [aZ,aM]
      refine ib_split (fun h2=>?_) (fun h2=>?_)
      · have hd : drB p = false := by
          apply Bool.eq_false_iff.2
          intro hc
          have:=(drB_iff h).1 hc k hlt j hjl
          simp_all
        rw [hd]
        simp (disch:=((try simp only [lZ]); omega)) only [aZ,aM,r_layout_Drains]
        exact post0 (Fz.refl (by simp (disch:=first | omega | simp (disch:=omega) only [aG,aM]) only [fZ,aM])) ⟨rfl,rfl⟩
      · simp (disch:=((try simp only [lZ]); omega)) only [aZ,aM]
        refine ⟨j+1,⟨by omega,fun i hi=>?_⟩,by omega,(by refine Cut.of' (1) ?_ (by omega) ?_ ?_<;>simp (disch:=first | omega | simp (disch:=omega) only [aG,aM]) only [fZ,aM])⟩
        rcases Nat.lt_succ_iff_lt_or_eq.1 hi with h | rfl
        · exact hc i h
        · simpa using h2
    · simp (disch:=((try simp only [lZ]); omega)) only [aZ,aM]
      refine ⟨k+1,⟨by omega,fun i hi=>?_⟩,by omega,(by refine Cut.of' (1) ?_ (by omega) ?_ ?_<;>simp (disch:=first | omega | simp (disch:=omega) only [aG,aM]) only [fZ,aM])⟩
      rcases Nat.lt_succ_iff_lt_or_eq.1 hi with h | rfl
      · exact hb i h
      · exact fun mt hmt=>hc mt (by omega)
  · have hd : drB p=true:=(drB_iff h).2 fun m hm=>hb m (by omega)
    rw [hd]
    simp (disch:=((try simp only [lZ]); omega)) only [aZ,aM,r_layout_Drains]
    exact post0 (Fz.refl (by simp (disch:=first | omega | simp (disch:=omega) only [aG,aM]) only [fZ,aM])) ⟨rfl,rfl⟩
def heightR (p : Pl) (m mt : Int) : Int×Int :=
  if pcheck p≠0 then (0,pcheck p) else if m < 0∨(p.ms.length : Int)≤m then (0,7) else if mt < 0∨p.mat≤mt then (0,18)
  else if (wayV p mt m.toNat).2=false then (0,23) else ((wayV p mt m.toNat).1,0)
theorem layoutHeight_vr {w v : Bool} (p : Pl) (m mt : Int) : VR P false n_layout_Height [plA w v p,.v (.int .i64 m),.v (.int .i64 mt)] [] (isR (.tup [.v (.int .i64 (heightR p m mt).1),.v (.int .i64 (heightR p m mt).2)])):=by
  refine vr_layout_Height (by simp) (.inr rfl) fun _ _=>?_
  unfold plA plC heightR
  simp (disch:=((try simp only [lZ]); omega)) only [aZ,aM,s_layout_Height,v_layout_Height]
  refine (layoutCheck_vr (w:=w) (v:=v) p).same (by unfold plA plC; simp (disch:=first | omega | simp (disch:=omega) only [aG,aM]) only [fZ,aM]) rfl (aret_of ?_)
  simp (disch:=((try simp only [lZ]); omega)) only [aZ,aM]
  refine ib_intro (fun h1=>?_) (fun h1=>?_)
  · rw [if_pos h1]
    simp (disch:=((try simp only [lZ]); omega)) only [aZ,aM,r_layout_Height]
    exact post0 (Fz.refl (by simp (disch:=first | omega | simp (disch:=omega) only [aG,aM]) only [fZ,aM])) ⟨rfl,rfl⟩
  rw [if_neg h1]
  have h:=pcheck_ok (Classical.not_not.1 h1)
  simp (disch:=((try simp only [lZ]); omega)) only [aZ,aM]
  refine (has_vr (w:=w) (v:=v) p m).same (by unfold plA plC; simp (disch:=first | omega | simp (disch:=omega) only [aG,aM]) only [fZ,aM]) rfl (aret_of ?_)
  by_cases h2 : 0≤m∧m < p.ms.length
  · rw [if_neg (by omega)]
    simp (disch:=((try simp only [lZ]); omega)) only [aZ,aM,decide_eq_true h2]
    refine ib_intro (fun h3=>?_) (fun h3=>?_)
    · rw [if_pos h3]
      simp (disch:=((try simp only [lZ]); omega)) only [aZ,aM,r_layout_Height]
      exact post0 (Fz.refl (by simp (disch:=first | omega | simp (disch:=omega) only [aG,aM]) only [fZ,aM])) ⟨rfl,rfl⟩
    rw [if_neg h3]
    have hw:=layoutWay_vr (w:=w) (v:=v) p h m.toNat (by omega) mt (by omega) (by omega)
    rw [Int.toNat_of_nonneg (by omega)] at hw
    simp (disch:=((try simp only [lZ]); omega)) only [aZ,aM]
    refine hw.same (by unfold plA plC; simp (disch:=first | omega | simp (disch:=omega) only [aG,aM]) only [fZ,aM]) rfl (aret_of ?_)
    unfold wayT
    simp (disch:=((try simp only [lZ]); omega)) only [aZ,aM]
    refine ib_split (fun h2=>?_) (fun h2=>?_)
    · rw [if_pos (by simpa using h2)]
      simp (disch:=((try simp only [lZ]); omega)) only [aZ,aM,r_layout_Height]
      exact post0 (Fz.refl (by simp (disch:=first | omega | simp (disch:=omega) only [aG,aM]) only [fZ,aM])) ⟨rfl,rfl⟩
    · rw [if_neg (by simpa using h2)]
      simp (disch:=((try simp only [lZ]); omega)) only [aZ,aM,r_layout_Height]
      exact post0 (Fz.refl (by simp (disch:=first | omega | simp (disch:=omega) only [aG,aM]) only [fZ,aM])) ⟨rfl,rfl⟩
  · rw [if_pos (by omega)]
    simp (disch:=((try simp only [lZ]); omega)) only [aZ,aM,decide_eq_false h2,r_layout_Height]
    exact post0 (Fz.refl (by simp (disch:=first | omega | simp (disch:=omega) only [aG,aM]) only [fZ,aM])) ⟨rfl,rfl⟩
theorem pcheck_mc {p : Pl} (h : pcheck p=0) : ∀ m∈p.ms,mcheck m p.mat=0:=by
  unfold pcheck at h
  split at h
  · cases h
  split at h
  · cases h
  split at h
  · cases h
  split at h
  · contradiction
  rename_i h4
  exact firstE_all (Classical.not_not.1 h4)
theorem msE_good {p : Pl} (h : pcheck p=0) {m : Nat} (hm : m < p.ms.length) (hb : ¬ binN p m) {xs : List Int} (hx : MixOk p.mt xs) : msE (p.ms.getD m []) xs=0:=by
  obtain ⟨m1,m2,m3⟩:=(pcheck_ok h).mt1
  have h1:=pcheck_mc h _ (mem_get [] hm)
  unfold msE
  rw [hx.1,← m3,if_neg (fun hc=>hc h1)]
  have h2 : firstE badE xs=0:=firstE_none 0 fun k hk=>by
    have:=hx.2 k
    exact badE_ok (by omega)
  rw [if_neg (fun hc=>hc h2),if_neg (show ¬ outsN (p.ms.getD m [])=0 from hb)]
def prt (p : Pl) (s : Sy) (m o : Nat) : List Int:=(msM (p.ms.getD m []) (s.bef m)).getD o []
theorem prt_ok {p : Pl} (h : pcheck p=0) {s : Sy} {m : Nat} (hm : m < p.ms.length) (hb : ¬ binN p m) (hx : MixOk p.mt (s.bef m)) {o : Nat} (ho : o < outsN (p.ms.getD m [])) : MixOk p.mt (prt p s m o):=by
  obtain ⟨z1,z2,z3⟩:=msE_zero (msE_good h hm hb hx)
  have hl:=msM_rl (p.ms.getD m []) (s.bef m) ho
  refine ⟨hl.trans hx.1,fun i=>?_⟩
  unfold prt
  by_cases hi : i < (s.bef m).length
  · rw [msM_at _ _ ho hi]
    have hk : i < (p.ms.getD m []).length:=by have:=z1.len; omega
    have:=divM_le z1 z2 hk (z3 i hi) o ho
    have:=z3 i hi
    omega
  · rw [List.getD_eq_getElem?_getD,List.getElem?_eq_none (by omega)]; simp
def disK (p : Pl) (s : Sy) (m k : Nat) : Sy:={s with fst:=fun i=>if (p.bs.getD i b0).fr=m∧(p.bs.getD i b0).ot < k then prt p s m (p.bs.getD i b0).ot.toNat else s.fst i}
def disS (p : Pl) (s : Sy) (m : Nat) : Sy:={disK p s m (outsN (p.ms.getD m [])) with bef:=updF s.bef m (zeros p.mt)}
theorem plus_zero (n : Nat) (l : List Int) (h : l.length=n) : plusM (zeros n) l=l:=by
  refine eq_of_getB 0 (by rw [plusM_len]; simp [zeros,h]) fun i hi=>?_
  rw [plusM_len] at hi
  rw [plusM_get _ _ _ hi]
  have : (zeros n).getD i 0=0:=by simp [zeros,List.getD_eq_getElem?_getD,List.getElem?_replicate]; split<;>rfl
  omega
theorem PM.anewB {H : List Blk} {p : Pl} {ad : Ad} {s : Sy} (h : PM H p ad s) {m : Nat} (hm : m < p.ms.length) (v : Nat) (l : List Int) (H' : List Blk)
    (hH' : H'=(H++[(⟨v,ints l⟩ : Blk)]).set (ad .bef).1 ⟨(ad .bef).2,befC p (upd ad (.bm m) (H.length,v))⟩) :
    PM H' p (upd ad (.bm m) (H.length,v)) {s with bef:=updF s.bef m l}∧Tr p H ad H' (upd ad (.bm m) (H.length,v))∧Gr (one (ad .bef).1) H H':=by
  subst hH'
  have hb : (ad .bef).1 < H.length:=h.lt (c:=.bef) rfl
  have hg : Gr (one (ad .bef).1) H ((H++[(⟨v,ints l⟩ : Blk)]).set (ad .bef).1 ⟨(ad .bef).2,befC p (upd ad (.bm m) (H.length,v))⟩) :=
    (Gr.app (F:=one (ad .bef).1) H _).trans (Gr.set (F:=one (ad .bef).1) _ _ _ rfl) fun i _ hf=>hf
  refine ⟨h.anew (.bm m) .bef (H.length,v) (by simpa [usd] using hm) rfl (by simp) ⟨by simp,by simp⟩ hg (Nat.le_refl _) ?_ ?_ ?_,Tr.anew rfl hg (Nat.le_refl _) (by simp),hg⟩
  · rw [blkAt_set_ne _ _ _ _ _ (by simp; omega),blkAt_new0]
    simp [ctn,updF_same,blkAt]
  · rw [blkAt_set_same _ _ _ _ (by simp; omega)]; rfl
  · intro e h1 h2 he
    cases e with
    | bm j =>
      have : j≠m:=fun hc=>h1 (by rw [hc])
      simp [ctn,updF_ne _ _ this]
    | bef=>exact absurd rfl h2
    | root=>simp [ctn,rootC,upd]
    | bel =>
      simp only [ctn,belsC]
      congr 1<;>first | rfl | (funext j; first | rfl | simp [cvC,upd])
    | re j=>simp [ctn,upd]
    | _=>rfl
theorem disK_next {p : Pl} (ok : POk p) (s : Sy) {m o b : Nat} (f1 : b < p.bs.length) (f2 : (p.bs.getD b b0).fr = m) (f3 : (p.bs.getD b b0).ot = o) (hb : findB p.bs m o = b) :
    (disK p s m (o+1)).fst b=prt p s m o∧∀ j,j≠b→j < p.bs.length→(disK p s m (o+1)).fst j=(disK p s m o).fst j:=by
  refine ⟨?_,fun j hj hl=>?_⟩
  · simp only [disK]; rw [if_pos ⟨f2,by omega⟩,f3]; rfl
  · simp only [disK]
    by_cases h1 : (p.bs.getD j b0).fr=m
    · have h2 : (p.bs.getD j b0).ot ≠ o := fun hc => by
        have:=ok.un j hl
        rw [h1,hc,hb] at this; omega
      by_cases h3 : (p.bs.getD j b0).ot < o
      · rw [if_pos ⟨h1,by omega⟩,if_pos ⟨h1,h3⟩]
      · rw [if_neg (by omega),if_neg (by omega)]
    · rw [if_neg (fun hc=>h1 hc.1),if_neg (fun hc=>h1 hc.1)]
theorem zeros_sm {n : Nat} {l : List Int} (h : MixOk n l) : Sm (zeros n) l:=fun i _=>by
  have:=(zeros_ok n).2 i
  have:=h.2 i
  omega
theorem dist_pm {H : List Blk} {p : Pl} {ad : Ad} {s : Sy} (hp : pcheck p = 0) (h : PM H p ad s) (hs : SyOk p s) {m : Nat} (hm : m < p.ms.length) (hb : ¬ binN p m) (hz : ∀ i, i < p.bs.length → (p.bs.getD i b0).fr = m → s.fst i = zeros p.mt) :
    VR P false n_plant_state_distribute [.lp (ad .root).1 0 0,.v (.int .i64 m)] H (fun r H'=>r=.v (.int .i64 0)∧∃ ad' : Ad,PM H' p ad' (disS p s m)∧Tr p H ad H' ad'):=by
  refine vr_plant_state_distribute (by simp) (.inl rfl) fun _ _=>?_
  have ok:=pcheck_ok hp
  have hr:=h.rt
  unfold rootC slA at hr
  obtain ⟨m1,m2,m3⟩:=ok.mt1
  have hbe:=h.get .bef rfl
  simp only [ctn] at hbe
  have n0:=befC_nth p ad m hm
  have bl:=befC_len p ad
  unfold slA at n0
  have hu : usd p (.bm m)=true:=by simpa [usd] using hm
  have hbm:=h.get _ hu
  simp only [ctn] at hbm
  have hx:=hs.bef m hm
  have hE:=msE_good hp hm hb hx
  have hn2:=ok.n2
  have hb2:=ok.b2
  simp (disch:=((try simp only [lZ]); omega)) only [aZ,aM,s_plant_state_distribute,v_plant_state_distribute,hr,hbe,n0,bl]
  refine (machineSplit_vr (w:=true) (v:=false) (p.ms.getD m []) (s.bef m)).use ⟨by unfold mcA mcC; exact Ld.refl (by simp (disch:=first | omega | simp (disch:=omega) only [aG,aM]) only [fZ,aM]),ld_slI H _ _ _ _ hx.1.symm hbm,trivial⟩ (by rw [splitA_ok hE]; simp (disch:=first | omega | simp (disch:=omega) only [aG,aM]) only [fZ,aM]) (aret_of ?_)
  rw [splitA_ok hE]
  have ml : (msM (p.ms.getD m []) (s.bef m)).length=outsN (p.ms.getD m []):=by unfold msM; exact mtx_len _ _ _
  have ho4 : outsN (p.ms.getD m [])≤4:=by
    have hmo:=ok.mc _ (mem_get [] hm)
    rcases outsN_le (m:=p.ms.getD m []) with h0 | h0
    · omega
    · have:=hmo.row _ (mem_get [] h0); omega
  simp (disch:=((try simp only [lZ]); omega)) only [aZ,aM,ml]
  refine AWP.loopM g_plant_state_distribute_0 (fun x : Nat×List Blk=>x.1≤outsN (p.ms.getD m [])∧PM x.2 p ad (disK p s m x.1)∧Tr p H ad x.2 ad) (fun x=>[(2,.v (.int .i64 0)),(5,.v (.int .i64 x.1))]) (fun x=>x.2) (fun x=>outsN (p.ms.getD m []) - x.1) (0,H) ?_ ?_ ?_
  · refine ⟨by omega,?_,Tr.refl _ _⟩
    have : disK p s m 0=s:=by
      unfold disK
      have : (fun i=>if (p.bs.getD i b0).fr=m∧(p.bs.getD i b0).ot < (0 : Nat) then prt p s m (p.bs.getD i b0).ot.toNat else s.fst i)=s.fst:=by
        funext i
        by_cases hi : i < p.bs.length
        · have:=ok.bt _ (mem_get b0 hi)
          rw [if_neg (by omega)]
        · rw [if_neg]
          rintro ⟨h1,h2⟩
          rw [List.getD_eq_getElem?_getD,List.getElem?_eq_none (by omega)] at h2
          simp [b0] at h2
      rw [this]
    rw [this]; exact h
  · exact Cut.fg (by simp (disch:=first | omega | simp (disch:=omega) only [aG,aM]) only [fZ,aM,fgl_nil,fgl_cons,or_true,true_or])
  rintro ⟨o,K⟩ ⟨ho,hK,hT⟩
  simp only at ho hK hT
  have kr:=hK.rt
  unfold rootC slA at kr
  by_cases hlt : o < outsN (p.ms.getD m [])
  · have hfo:=ok.op m hm o hlt
    obtain ⟨f1,f2,f3⟩:=findB_ok hfo
    have hnx : nextR p m o=(findB p.bs m o,0):=by unfold nextR; rw [if_neg (fun hc=>hc hp),if_neg (by omega)]
    have hv:=layoutNext_vr (w:=true) (v:=true) p m o
    rw [hnx] at hv
    unfold plA plC at hv
    have hpl:=msM_rl (p.ms.getD m []) (s.bef m) hlt
    simp (disch:=((try simp only [lZ]); omega)) only [aZ,aM,kr,ml]
    refine hv.same (by simp (disch:=first | omega | simp (disch:=omega) only [aG,aM]) only [fZ,aM]) rfl (aret_of ?_)
    have kbl:=hK.get .bel rfl
    simp only [ctn] at kbl
    have kn0:=belsC_nth0 p ad (findB p.bs m o).toNat f1
    have kl:=belsC_len p ad
    unfold slA at kn0
    generalize hbo : (findB p.bs m o).toNat=b at *
    have hbo' : findB p.bs m o=b:=by omega
    try rw [hbo'] at hnx
    rw [hbo']
    simp (disch:=((try simp only [lZ]); omega)) only [aZ,aM,kr,kbl,kn0,kl]
    have hub : usd p (.fi b)=true:=by simpa [usd] using f1
    have kfb:=hK.get _ hub
    have e1 : (disK p s m o).fst b=zeros p.mt:=by
      simp only [disK]; rw [if_neg (by omega)]; exact hz b f1 f2
    simp only [ctn,e1] at kfb
    have hpo:=prt_ok hp hm hb hx hlt
    have hadd:=add_fs (w:=true) (b:=prt p s m o) kfb (hpo.1.trans (zeros_ok _).1.symm) (zeros_sm hpo) (by rw [(zeros_ok _).1]; omega)
    rw [(zeros_ok _).1,plus_zero _ _ hpo.1] at hadd
    refine hadd.mono ?_
    rintro r H' hH
    obtain ⟨d1,d2⟩:=disK_next ok s f1 f2 f3 hbo'
    have P2 : PM H' p ad (disK p s m (o+1)):=by
      have:=hK.put (s':=disK p s m (o+1)) (.fi b) hub fun d hd hdu=>by
        cases d with
        | fi j=>simp only [ctn]; rw [d2 j (fun hc=>hd (by rw [hc])) (by simpa [usd] using hdu)]
        | _=>rfl
      simp only [ctn,d1] at this
      rw [hH]; exact this
    have T2 : Tr p K ad H' ad:=by rw [hH]; exact Tr.one hub (Gr.set (F:=one (ad (.fi b)).1) _ _ _ rfl)
    clear hH
    refine aret_of ?_
    simp (disch:=((try simp only [lZ]); omega)) only [aZ,aM]
    refine ⟨(o+1,H'),⟨by simp only; omega,P2,hT.trans T2⟩,by simp only; omega,?_⟩
    try simp (disch:=((try simp only [lZ]); omega)) only [aZ,aM]
    exact Cut.fg (by simp (disch:=first | omega | simp (disch:=omega) only [aG,aM]) only [fZ,aM,fgl_nil,fgl_cons,or_true,true_or])
  · have hoe : o=outsN (p.ms.getD m []):=by omega
    have kbf:=hK.get .bef rfl
    simp only [ctn] at kbf
    have kl:=befC_len p ad
    have ltb:=hK.lt (c:=.bef) rfl
    have ltr:=hK.lt (c:=.root) rfl
    rw [m3] at kr
    simp (disch:=((try simp only [lZ]); omega)) only [aZ,aM,kr]
    refine (empty_ps m2 kr).mono ?_
    rintro r H' ⟨rfl,hH⟩
    rw [hH]
    refine aret_of ?_
    have sp:=befC_spl p ad m (K.length,0) hm
    unfold slA at sp
    obtain ⟨P2,T2,_⟩:=hK.anewB hm 0 (zeros p.mt) _ rfl
    rw [List.set_append_left _ _ ltb] at P2 T2
    simp (disch:=((try simp only [lZ]); omega)) only [aZ,aM,kr,kbf,kl,sp,r_plant_state_distribute]
    rw [hoe] at P2
    exact post2 (R:=fun r H'=>r=.v (.int .i64 0)∧∃ ad' : Ad,PM H' p ad' (disS p s m)∧Tr p H ad H' ad') ⟨rfl,_,P2,hT.trans T2⟩
end Go.Proofs.YtdkoindoljngmaaGreat
namespace Go.Proofs.YtdkoindoljngmaaGreat
open Go Go.Lft
set_option linter.unusedSimpArgs false
set_option linter.unusedVariables false
def sm : Nat→(Nat→Int)→Int
  | 0,_=>0
  | n+1,f=>sm n f+f n
theorem sm_congr {n : Nat} {f g : Nat→Int} (h : ∀ i,i < n→f i=g i) : sm n f=sm n g:=by
  induction n with
  | zero=>rfl
  | succ n ih=>simp only [sm]; rw [ih fun i hi=>h i (by omega),h n (by omega)]
theorem sm_nn {n : Nat} {f : Nat→Int} (h : ∀ i,i < n→0≤f i) : 0≤sm n f:=by
  induction n with
  | zero=>simp [sm]
  | succ n ih=>simp only [sm]; have:=ih fun i hi=>h i (by omega); have:=h n (by omega); omega
theorem sm_le {n : Nat} {f : Nat→Int} (h : ∀ i,i < n→0≤f i) {i : Nat} (hi : i < n) : f i≤sm n f:=by
  induction n with
  | zero=>omega
  | succ n ih =>
    simp only [sm]
    have h1:=sm_nn (n:=n) fun i hi=>h i (by omega)
    by_cases e : i=n
    · subst e; omega
    · have:=ih (fun i hi=>h i (by omega)) (by omega)
      have:=h n (by omega)
      omega
theorem sm_upd {n : Nat} (f : Nat→Int) (g : Nat→Int) {i : Nat} (hi : i < n) (h : ∀ j,j≠i→j < n→g j=f j) : sm n g=sm n f - f i+g i:=by
  induction n with
  | zero=>omega
  | succ n ih =>
    simp only [sm]
    by_cases e : i=n
    · subst e
      rw [sm_congr (f:=g) (g:=f) fun j hj=>h j (by omega) (by omega)]; omega
    · rw [ih (by omega) fun j hj hl=>h j hj (by omega),h n (Ne.symm e) (by omega)]; omega
theorem sm_add {n : Nat} (f g : Nat→Int) : sm n (fun i=>f i+g i)=sm n f+sm n g:=by
  induction n with
  | zero=>rfl
  | succ n ih=>simp only [sm]; rw [ih]; omega
def befT (p : Pl) (s : Sy) (x : Nat) : Int:=sm p.ms.length fun m=>(s.bef m).getD x 0
def fstT (p : Pl) (s : Sy) (x : Nat) : Int:=sm p.bs.length fun i=>(s.fst i).getD x 0
def rngT (p : Pl) (s : Sy) (x : Nat) : Int:=sm p.bs.length fun i=>sm (p.rl i) fun q=>(s.rng i q).getD x 0
def tot (p : Pl) (s : Sy) (x : Nat) : Int:=befT p s x+fstT p s x+rngT p s x
structure Gd (p : Pl) (s : Sy) : Prop where
  bl : ∀ m,m < p.ms.length→(s.bef m).length=p.mt∧∀ x,0≤(s.bef m).getD x 0
  fl : ∀ i,i < p.bs.length→(s.fst i).length=p.mt∧∀ x,0≤(s.fst i).getD x 0
  rl : ∀ i,i < p.bs.length→∀ q,q < p.rl i→(s.rng i q).length=p.mt∧∀ x,0≤(s.rng i q).getD x 0
  ps : ∀ i,i < p.bs.length→0 < p.rl i→s.pos i < p.rl i
  hl : s.hal.length=p.ms.length
  fd : MixOk p.mt s.fed
  tt : ∀ x,tot p s x≤1073741824
theorem Gd.parts {p : Pl} {s : Sy} (h : Gd p s) (x : Nat) : 0≤befT p s x∧0≤fstT p s x∧0≤rngT p s x :=
  ⟨sm_nn fun m hm=>(h.bl m hm).2 x,sm_nn fun i hi=>(h.fl i hi).2 x,sm_nn fun i hi=>sm_nn fun q hq=>(h.rl i hi q hq).2 x⟩
theorem Gd.ok {p : Pl} {s : Sy} (h : Gd p s) : SyOk p s:=by
  refine ⟨fun m hm=>⟨(h.bl m hm).1,fun x=>⟨(h.bl m hm).2 x,?_⟩⟩,fun i hi=>⟨(h.fl i hi).1,fun x=>⟨(h.fl i hi).2 x,?_⟩⟩,fun i hi q hq=>⟨(h.rl i hi q hq).1,fun x=>⟨(h.rl i hi q hq).2 x,?_⟩⟩,h.ps,h.hl,h.fd⟩
  · have h1:=sm_le (f:=fun m=>(s.bef m).getD x 0) (fun m hm=>(h.bl m hm).2 x) hm
    have h2:=h.tt x
    have h3:=h.parts x
    unfold tot at h2; unfold befT at h2 h3; omega
  · have h1:=sm_le (f:=fun m=>(s.fst m).getD x 0) (fun m hm=>(h.fl m hm).2 x) hi
    have h2:=h.tt x
    have h3:=h.parts x
    unfold tot at h2; unfold fstT at h2 h3; omega
  · have h0:=sm_le (f:=fun q=>(s.rng i q).getD x 0) (fun q hq=>(h.rl i hi q hq).2 x) hq
    have h1:=sm_le (f:=fun i=>sm (p.rl i) fun q=>(s.rng i q).getD x 0) (fun j hj=>sm_nn fun q hq=>(h.rl j hj q hq).2 x) hi
    have h2:=h.tt x
    have h3:=h.parts x
    unfold tot at h2; unfold rngT at h2 h3; omega
def tpS (p : Pl) (i : Nat) : Nat:=(p.bs.getD i b0).to.toNat
def mvA (p : Pl) (s : Sy) (i : Nat) : Sy:={movS p s i with bef:=updF s.bef (tpS p i) (plusM (s.bef (tpS p i)) (outM p s i))}
theorem mov_bef (p : Pl) (s : Sy) (i : Nat) : (movS p s i).bef=s.bef:=by unfold movS; split<;>rfl
theorem mov_hal (p : Pl) (s : Sy) (i : Nat) : (movS p s i).hal=s.hal:=by unfold movS; split<;>rfl
theorem mov_fed (p : Pl) (s : Sy) (i : Nat) : (movS p s i).fed=s.fed:=by unfold movS; split<;>rfl
theorem mov_fst (p : Pl) (s : Sy) (i : Nat) : (movS p s i).fst=updF s.fst i (zeros p.mt):=by unfold movS; split<;>rfl
theorem zeros_get (n x : Nat) : (zeros n).getD x 0=0:=by simp [zeros,List.getD_eq_getElem?_getD,List.getElem?_replicate]; split<;>rfl
theorem tp_lt {p : Pl} (ok : POk p) {i : Nat} (hi : i < p.bs.length) : tpS p i < p.ms.length:=by
  have:=ok.bt _ (mem_get b0 hi)
  unfold tpS; omega
theorem get_out {n : Nat} {l : List Int} (hl : l.length=n) {x : Nat} (h : n≤x) : l.getD x 0=0:=by rw [List.getD_eq_getElem?_getD,List.getElem?_eq_none (by omega)]; rfl
theorem plus_get {n : Nat} {a b : List Int} (ha : a.length=n) (hb : b.length=n) (x : Nat) : (plusM a b).getD x 0=a.getD x 0+b.getD x 0:=by
  by_cases h : x < n
  · exact plusM_get _ _ _ (by omega)
  · rw [get_out (n:=n) (by rw [plusM_len,ha]) (by omega),get_out ha (by omega),get_out hb (by omega)]; rfl
theorem mvA_tot {p : Pl} (ok : POk p) {s : Sy} (h : Gd p s) {i : Nat} (hi : i < p.bs.length) (x : Nat) : tot p (mvA p s i) x=tot p s x:=by
  have ho:=(h.ok.out hi).1
  have ht:=tp_lt ok hi
  have hb : befT p (mvA p s i) x=befT p s x+(outM p s i).getD x 0:=by
    unfold befT
    rw [sm_upd (fun m=>(s.bef m).getD x 0) (fun m=>((mvA p s i).bef m).getD x 0) ht fun j hj _=>by simp only [mvA]; rw [updF_ne _ _ hj]]
    simp only [mvA,updF_same]
    rw [plus_get (h.bl _ ht).1 ho]; omega
  have hf : fstT p (mvA p s i) x=fstT p s x - (s.fst i).getD x 0:=by
    unfold fstT
    rw [sm_upd (fun j=>(s.fst j).getD x 0) (fun j=>((mvA p s i).fst j).getD x 0) hi fun j hj _=>by simp only [mvA,mov_fst]; rw [updF_ne _ _ hj]]
    simp only [mvA,mov_fst,updF_same,zeros_get]; omega
  have hr : rngT p (mvA p s i) x=rngT p s x+(s.fst i).getD x 0 - (outM p s i).getD x 0:=by
    unfold rngT
    rw [sm_upd (fun j=>sm (p.rl j) fun q=>(s.rng j q).getD x 0) (fun j=>sm (p.rl j) fun q=>((mvA p s i).rng j q).getD x 0) hi fun j hj _=>by
      simp only [mvA,movS]; split
      · simp only [rolS,empS]; rw [updF_ne _ _ hj]
      · rfl]
    by_cases hrl : 0 < p.rl i
    · have e1 : (mvA p s i).rng=(rolS p (empS p s i) i (s.fst i)).rng:=by simp only [mvA,movS]; rw [if_pos hrl]
      have e2 : outM p s i=s.rng i (p.nxt s i):=by unfold outM; rw [if_pos hrl]
      rw [e1,e2]
      rw [sm_upd (fun q=>(s.rng i q).getD x 0) (fun q=>((rolS p (empS p s i) i (s.fst i)).rng i q).getD x 0) (i:=p.nxt s i) (Nat.mod_lt _ hrl) fun q hq _=>by
        simp only [rolS,updF_same]
        show ((updF (s.rng i) (p.nxt s i) (s.fst i)) q).getD x 0=_
        rw [updF_ne _ _ hq]]
      have e3 : (rolS p (empS p s i) i (s.fst i)).rng i (p.nxt s i)=s.fst i:=by
        simp only [rolS,updF_same]
        exact updF_same (s.rng i) (p.nxt s i) _
      rw [e3]; omega
    · have e1 : (mvA p s i).rng=s.rng:=by simp only [mvA,movS]; rw [if_neg hrl]; rfl
      have e2 : outM p s i=s.fst i:=by unfold outM; rw [if_neg hrl]
      rw [e1,e2]; omega
  unfold tot
  omega
theorem Gd.mvA {p : Pl} (ok : POk p) {s : Sy} (h : Gd p s) {i : Nat} (hi : i < p.bs.length) : Gd p (mvA p s i):=by
  have hk:=h.ok
  have hm:=hk.mov hi
  have ho:=hk.out hi
  refine ⟨fun m hm2=>?_,fun j hj=>?_,fun j hj q hq=>?_,hm.pos,hm.hal,hm.fed,fun x=>by rw [mvA_tot ok h hi]; exact h.tt x⟩
  · simp only [Go.Proofs.YtdkoindoljngmaaGreat.mvA]
    by_cases e : m=tpS p i
    · rw [e,updF_same]
      have hb:=h.bl _ (tp_lt ok hi)
      refine ⟨by rw [plusM_len]; exact hb.1,fun x=>?_⟩
      rw [plus_get hb.1 ho.1]
      have:=hb.2 x
      have:=(ho.2 x).1
      omega
    · rw [updF_ne _ _ e]; exact h.bl m hm2
  · exact ⟨(hm.fst j hj).1,fun x=>((hm.fst j hj).2 x).1⟩
  · exact ⟨(hm.rng j hj q hq).1,fun x=>((hm.rng j hj q hq).2 x).1⟩
def mvK (p : Pl) (s : Sy) : Nat→Sy
  | 0=>s
  | k+1=>mvA p (mvK p s k) k
theorem Gd.mvK {p : Pl} (ok : POk p) {s : Sy} (h : Gd p s) : ∀ k,k≤p.bs.length→Gd p (mvK p s k)∧∀ x,tot p (mvK p s k) x=tot p s x
  | 0,_=>⟨h,fun _=>rfl⟩
  | k+1,hk=>by
    obtain ⟨h1,h2⟩:=Gd.mvK ok h k (by omega)
    exact ⟨h1.mvA ok (by omega),fun x=>by
      simp only [Go.Proofs.YtdkoindoljngmaaGreat.mvK]
      rw [mvA_tot ok h1 (by omega),h2]⟩
theorem mvK_hal (p : Pl) (s : Sy) : ∀ k,(mvK p s k).hal=s.hal∧(mvK p s k).fed=s.fed
  | 0=>⟨rfl,rfl⟩
  | k+1=>by
    obtain ⟨h1,h2⟩:=mvK_hal p s k
    exact ⟨by simp only [mvK,mvA,mov_hal]; exact h1,by simp only [mvK,mvA,mov_fed]; exact h2⟩
theorem mvK_fst (p : Pl) (s : Sy) : ∀ k i,(mvK p s k).fst i=if i < k then zeros p.mt else s.fst i
  | 0,i=>by simp [mvK]
  | k+1,i=>by
    simp only [mvK,mvA,mov_fst]
    by_cases e : i=k
    · rw [e,updF_same,if_pos (by omega)]
    · rw [updF_ne _ _ e,mvK_fst p s k i]
      by_cases h : i < k
      · rw [if_pos h,if_pos (by omega)]
      · rw [if_neg h,if_neg (by omega)]
theorem sm_list (l : List Int) : sm l.length (fun i=>l.getD i 0)=l.sum:=by
  have : ∀ n,n≤l.length→sm n (fun i=>l.getD i 0)=(l.take n).sum:=by
    intro n
    induction n with
    | zero=>intro _; simp [sm]
    | succ n ih =>
      intro hn
      simp only [sm]
      rw [ih (by omega),take_succ_get' l n 0 (by omega),List.sum_append]; simp
  rw [this _ (Nat.le_refl _),List.take_length]
theorem disK_tot {p : Pl} (hp : pcheck p = 0) {s : Sy} {m : Nat} (hm : m < p.ms.length) (hz : ∀ i, i < p.bs.length → (p.bs.getD i b0).fr = m → s.fst i = zeros p.mt) (x : Nat) :
    ∀ o,o≤outsN (p.ms.getD m [])→fstT p (disK p s m o) x=fstT p s x+sm o fun o=>(prt p s m o).getD x 0
  | 0,_=>by
    have ok:=pcheck_ok hp
    simp only [sm]
    unfold fstT
    rw [sm_congr (g:=fun i=>(s.fst i).getD x 0) fun i hi=>?_]
    · omega
    · have:=ok.bt _ (mem_get b0 hi)
      simp only [disK]; rw [if_neg (by omega)]
  | o+1,ho=>by
    have ok:=pcheck_ok hp
    have ih:=disK_tot hp hm hz x o (by omega)
    have hfo:=ok.op m hm o (by omega)
    obtain ⟨f1,f2,f3⟩:=findB_ok hfo
    generalize hbo : (findB p.bs m o).toNat=b at *
    obtain ⟨d1,d2⟩:=disK_next ok s f1 f2 f3 (by omega)
    simp only [sm]
    unfold fstT at ih ⊢
    rw [sm_upd (fun i=>((disK p s m o).fst i).getD x 0) (fun i=>((disK p s m (o+1)).fst i).getD x 0) f1 fun j hj hl=>by rw [d2 j hj hl],ih]
    rw [d1]
    have : (disK p s m o).fst b=zeros p.mt:=by simp only [disK]; rw [if_neg (by omega)]; exact hz b f1 f2
    rw [this,zeros_get]; omega
theorem prt_sum {p : Pl} (hp : pcheck p=0) {s : Sy} {m : Nat} (hm : m < p.ms.length) (hb : ¬ binN p m) (hx : MixOk p.mt (s.bef m)) (x : Nat) : (sm (outsN (p.ms.getD m [])) fun o=>(prt p s m o).getD x 0)=(s.bef m).getD x 0:=by
  obtain ⟨z1,z2,z3⟩:=msE_zero (msE_good hp hm hb hx)
  by_cases hxl : x < (s.bef m).length
  · have hk : x < (p.ms.getD m []).length:=by have:=z1.len; omega
    have d:=divM_ok z1 z2 hk (z3 x hxl)
    have hl:=(row_split z1 z2 hk (z3 x hxl)).2.2.1
    have h1:=sm_list (divM (p.ms.getD m []) x ((s.bef m).getD x 0))
    rw [d.len,hl,d.sum] at h1
    rw [← h1]
    exact sm_congr fun o ho=>msM_at _ _ ho hxl
  · have e : ∀ o,o < outsN (p.ms.getD m [])→(prt p s m o).getD x 0=0:=fun o ho=>get_out (msM_rl (p.ms.getD m []) (s.bef m) ho) (by omega)
    rw [sm_congr (g:=fun _=>0) e,get_out rfl (by omega)]
    generalize outsN (p.ms.getD m [])=n
    induction n with
    | zero=>rfl
    | succ n ih=>simp only [sm,ih]; rfl
theorem disS_tot {p : Pl} (hp : pcheck p=0) {s : Sy} {m : Nat} (hm : m < p.ms.length) (hb : ¬ binN p m) (hx : MixOk p.mt (s.bef m)) (hz : ∀ i,i < p.bs.length→(p.bs.getD i b0).fr=m→s.fst i=zeros p.mt) (x : Nat) : tot p (disS p s m) x=tot p s x:=by
  have h1:=disK_tot hp hm hz x _ (Nat.le_refl _)
  rw [prt_sum hp hm hb hx] at h1
  have h2 : fstT p (disS p s m) x=fstT p s x+(s.bef m).getD x 0:=h1
  have h3 : befT p (disS p s m) x=befT p s x - (s.bef m).getD x 0:=by
    unfold befT
    rw [sm_upd (fun j=>(s.bef j).getD x 0) (fun j=>((disS p s m).bef j).getD x 0) hm fun j hj _=>by simp only [disS]; rw [updF_ne _ _ hj]]
    simp only [disS,updF_same,zeros_get]; omega
  have h4 : rngT p (disS p s m) x=rngT p s x:=rfl
  unfold tot; omega
theorem Gd.disS {p : Pl} (hp : pcheck p=0) {s : Sy} (h : Gd p s) {m : Nat} (hm : m < p.ms.length) (hb : ¬ binN p m) (hz : ∀ i,i < p.bs.length→(p.bs.getD i b0).fr=m→s.fst i=zeros p.mt) : Gd p (disS p s m):=by
  have hx:=h.ok.bef m hm
  have ok:=pcheck_ok hp
  refine ⟨fun j hj=>?_,fun i hi=>?_,h.rl,h.ps,h.hl,h.fd,fun x=>by rw [disS_tot hp hm hb hx hz]; exact h.tt x⟩
  · simp only [Go.Proofs.YtdkoindoljngmaaGreat.disS]
    by_cases e : j=m
    · rw [e,updF_same]; exact ⟨(zeros_ok _).1,fun x=>by rw [zeros_get]; omega⟩
    · rw [updF_ne _ _ e]; exact h.bl j hj
  · simp only [Go.Proofs.YtdkoindoljngmaaGreat.disS,disK]
    split
    · rename_i hc
      have hbt:=ok.bt _ (mem_get b0 hi)
      have hpo:=prt_ok hp hm hb hx (o:=(p.bs.getD i b0).ot.toNat) (by omega)
      exact ⟨hpo.1,fun x=>(hpo.2 x).1⟩
    · exact h.fl i hi
def disA (p : Pl) (s : Sy) (m : Nat) : Sy:=if outsN (p.ms.getD m [])=0∨s.hal.getD m false=true then s else disS p s m
def dsK (p : Pl) (s : Sy) : Nat→Sy
  | 0=>s
  | k+1=>disA p (dsK p s k) k
theorem dsK_fst {p : Pl} (s : Sy) : ∀ (k i : Nat),(k : Int)≤(p.bs.getD i b0).fr→(dsK p s k).fst i=s.fst i
  | 0,i,_=>rfl
  | k+1,i,h=>by
    have ih:=dsK_fst (p:=p) s k i (by omega)
    simp only [dsK,disA]
    split
    · exact ih
    · simp only [disS,disK]; rw [if_neg (by omega)]; exact ih
theorem dsK_hal {p : Pl} (s : Sy) : ∀ k,(dsK p s k).hal=s.hal∧(dsK p s k).fed=s.fed
  | 0=>⟨rfl,rfl⟩
  | k+1=>by
    obtain ⟨h1,h2⟩:=dsK_hal (p:=p) s k
    simp only [dsK,disA]
    split
    · exact ⟨h1,h2⟩
    · exact ⟨h1,h2⟩
theorem Gd.dsK {p : Pl} (hp : pcheck p=0) {s : Sy} (h : Gd p s) (hz : ∀ i,i < p.bs.length→s.fst i=zeros p.mt) : ∀ k,k≤p.ms.length→Gd p (dsK p s k)∧∀ x,tot p (dsK p s k) x=tot p s x
  | 0,_=>⟨h,fun _=>rfl⟩
  | k+1,hk=>by
    obtain ⟨h1,h2⟩:=Gd.dsK hp h hz k (by omega)
    have hz2 : ∀ i,i < p.bs.length→(p.bs.getD i b0).fr=k→(Go.Proofs.YtdkoindoljngmaaGreat.dsK p s k).fst i=zeros p.mt:=fun i hi hf=>by rw [dsK_fst s k i (by omega)]; exact hz i hi
    simp only [Go.Proofs.YtdkoindoljngmaaGreat.dsK,disA]
    split
    · exact ⟨h1,h2⟩
    · rename_i hc
      have hb : ¬ binN p k:=fun hb=>hc (.inl hb)
      exact ⟨h1.disS hp (by omega) hb hz2,fun x=>by rw [disS_tot hp (by omega) hb (h1.ok.bef k (by omega)) hz2,h2]⟩
def stpS (p : Pl) (s : Sy) : Sy:=dsK p (mvK p s p.bs.length) p.ms.length
theorem Gd.stp {p : Pl} (hp : pcheck p=0) {s : Sy} (h : Gd p s) : Gd p (stpS p s)∧(∀ x,tot p (stpS p s) x=tot p s x)∧(stpS p s).hal=s.hal∧(stpS p s).fed=s.fed:=by
  obtain ⟨h1,h2⟩:=h.mvK (pcheck_ok hp) p.bs.length (Nat.le_refl _)
  obtain ⟨h3,h4⟩:=h1.dsK hp (fun i hi=>by rw [mvK_fst,if_pos hi]) p.ms.length (Nat.le_refl _)
  exact ⟨h3,fun x=>(h4 x).trans (h2 x),(dsK_hal _ _).1.trans (mvK_hal p s _).1,(dsK_hal _ _).2.trans (mvK_hal p s _).2⟩
end Go.Proofs.YtdkoindoljngmaaGreat
namespace Go.Proofs.YtdkoindoljngmaaGreat
open Go Go.Lft
set_option linter.unusedSimpArgs false
set_option linter.unusedVariables false
attribute [local congr] ob_congr bw_congr ib_congr ck_congr iwA_congr itA_congr aw_congr awp_congr sqA_congr bkA_congr vr_congr gd_congr
theorem cloneB_vr {H : List Blk} {p : Pl} {ad : Ad} {i v : Nat} (h0 : 0 < p.ms.length) (h1 : p.ms.length≤100) (hb : blkAt H i v=some (befC p ad)) : VR P false n_slices_Cloneapi_Mix_api_Mix [.sl i v 1 0 p.ms.length] H (fun r H'=>r=.sl H.length 1 1 0 p.ms.length∧H'=H++[⟨1,befC p ad⟩]):=by
  refine vr_slices_Cloneapi_Mix_api_Mix (by simp) (.inl rfl) fun _ _=>?_
  have lt:=blkAt_lt hb
  have bl:=befC_len p ad
  have bo : (befC p ad).all A.one=true:=by simp [befC,slA,A.one]
  have tk : (befC p ad).take p.ms.length=befC p ad:=List.take_of_length_le (by omega)
  simp (disch:=((try simp only [lZ]); omega)) only [aZ,aM,s_slices_Cloneapi_Mix_api_Mix,v_slices_Cloneapi_Mix_api_Mix,hb,bl,tk,bo,r_slices_Cloneapi_Mix_api_Mix]
  exact post2 (R:=fun r H'=>_) ⟨rfl,rfl⟩
theorem Tr.keep {p : Pl} {K K' : List Blk} {ad ad' : Ad} (T : Tr p K ad K' ad') {i v : Nat} {l : List A} (hb : blkAt K i v=some l) (hn : ¬ ftp p ad i) : blkAt K' i v=some l∧¬ ftp p ad' i :=
  ⟨T.1.at hb hn,fun hc=>by
    rcases T.2.1 i hc with h | h
    · have:=blkAt_lt hb; omega
    · exact hn h⟩
def Mid (H : List Blk) (p : Pl) (ad : Ad) (K : List Blk) (ad' : Ad) (st : Sy) : Prop :=
  PM K p ad' st∧Tr p H ad K ad'∧(blkAt K H.length 0=some [.lp (ad .root).1 0 0]∧¬ ftp p ad' H.length)∧blkAt K (H.length+1) 0=some [.v (.int .i64 0)]∧¬ ftp p ad' (H.length+1)
theorem Mid.next {H K K' : List Blk} {p : Pl} {ad ad' ad2 : Ad} {st st' : Sy} (h : Mid H p ad K ad' st) (hP : PM K' p ad2 st') (hT : Tr p K ad' K' ad2) : Mid H p ad K' ad2 st' :=
  ⟨hP,h.2.1.trans hT,hT.keep h.2.2.1.1 h.2.2.1.2,hT.keep h.2.2.2.1 h.2.2.2.2⟩
theorem upd_id (f : Nat→List Int) (m : Nat) : updF f m (f m)=f:=by
  funext j
  unfold updF
  split
  · rename_i h; rw [h]
  · rfl
theorem step_pm {H : List Blk} {p : Pl} {ad : Ad} {s : Sy} (hp : pcheck p=0) (h : PM H p ad s) (hg : Gd p s) : VR P false n_plant_state_step [.lp (ad .root).1 0 0] H (fun r H'=>r=.v (.int .i64 0)∧∃ ad' : Ad,PM H' p ad' (stpS p s)∧Tr p H ad H' ad'):=by
  refine vr_plant_state_step (by simp) (.inl rfl) fun _ _=>?_
  have ok:=pcheck_ok hp
  obtain ⟨m1,m2,m3⟩:=ok.mt1
  have n1:=ok.n1
  have n2:=ok.n2
  have b2:=ok.b2
  have hr:=h.rt
  unfold rootC slA at hr
  have ltr:=h.lt (c:=.root) rfl
  have ltb:=h.lt (c:=.bef) rfl
  have hbe:=h.get .bef rfl
  simp only [ctn] at hbe
  have hc:=cloneB_vr (H:=H++[⟨0,[.lp (ad .root).1 0 0]⟩,⟨0,[.v (.int .i64 0)]⟩]) (p:=p) (ad:=ad) (i:=(ad .bef).1) (v:=(ad .bef).2) n1 (by omega) (by rw [blkAt_app _ _ _ _ ltb]; exact hbe)
  simp (disch:=((try simp only [lZ]); omega)) only [aZ,aM,s_plant_state_step,v_plant_state_step,hr]
  refine hc.mono ?_
  rintro r H' ⟨rfl,hH⟩
  rw [hH]
  refine aret_of ?_
  have ltr2 : (ad .root).1 < (H++[(⟨0,[.lp (ad .root).1 0 0]⟩ : Blk),⟨0,[.v (.int .i64 0)]⟩]).length:=by simp; omega
  simp (disch:=((try simp only [lZ]); omega)) only [aZ,aM,hr]
  have M0 : Mid H p ad (H++[⟨0,[.lp (ad .root).1 0 0]⟩,⟨0,[.v (.int .i64 0)]⟩,⟨1,befC p ad⟩,⟨0,[.sl (H.length+(1+1)) 1 1 0 p.ms.length]⟩]) ad s:=by
    refine ⟨h.grow _,Tr.gr (Gr.app _ _),⟨by rw [blkAt_new0]; rfl,?_⟩,by rw [blkAt_new]; rfl,?_⟩
    · rintro ⟨c,hc1,hc2⟩; have:=h.lt hc1; omega
    · rintro ⟨c,hc1,hc2⟩; have:=h.lt hc1; omega
  refine AWP.loopM g_plant_state_step_0 (fun x : Nat×Ad×List Blk=>x.1≤p.ms.length∧Mid H p ad x.2.2 x.2.1 s) (fun x=>[(4,.v (.int .i64 x.1))]) (fun x=>x.2.2) (fun x=>p.ms.length - x.1) (0,ad,_) ⟨by omega,M0⟩ ?_ ?_
  · exact Cut.fg (by simp (disch:=first | omega | simp (disch:=omega) only [aG,aM]) only [fZ,aM,fgl_nil,fgl_cons,or_true,true_or])
  clear M0
  rintro ⟨k,a1,K⟩ ⟨hk,hM⟩
  simp only at hk hM
  have hM0:=hM
  obtain ⟨kP,kT,⟨kS,kS2⟩,kE,kE2⟩:=hM
  have kr:=kP.rt
  rw [kT.2.2] at kr
  unfold rootC slA at kr
  have kb:=kP.get .bef rfl
  simp only [ctn] at kb
  have kl:=befC_len p a1
  by_cases hlt : k < p.ms.length
  · have kn:=befC_nth p a1 k hlt
    unfold slA at kn
    have hu : usd p (.bm k)=true:=by simpa [usd] using hlt
    have km:=kP.get _ hu
    simp only [ctn] at km
    have hml:=(hg.bl k hlt).1
    have hcl:=clone_sl (kp:=true) (by omega) (by omega) km
    rw [hml] at hcl
    simp (disch:=((try simp only [lZ]); omega)) only [aZ,aM,kS,kr,kb,kl,kn]
    refine hcl.mono ?_
    rintro r H' ⟨rfl,hH⟩
    have sp:=befC_spl p a1 k (K.length,1) hlt
    unfold slA at sp
    have ltkb:=kP.lt (c:=.bef) rfl
    obtain ⟨P2,T2,_⟩:=kP.anewB hlt 1 (s.bef k) _ rfl
    rw [upd_id,List.set_append_left _ _ ltkb] at P2
    rw [List.set_append_left _ _ ltkb] at T2
    rw [hH]
    refine aret_of ?_
    simp (disch:=((try simp only [lZ]); omega)) only [aZ,aM,kb,kl,sp]
    refine ⟨(k+1,_,_),⟨by simp only; omega,hM0.next P2 T2⟩,by simp only; omega,?_⟩
    try simp (disch:=((try simp only [lZ]); omega)) only [aZ,aM]
    exact Cut.fg (by simp (disch:=first | omega | simp (disch:=omega) only [aG,aM]) only [fZ,aM,fgl_nil,fgl_cons,or_true,true_or])
  · have hke : k=p.ms.length:=by omega
    clear hr hbe hc
    simp (disch:=((try simp only [lZ]); omega)) only [aZ,aM,kS,kr]
    refine AWP.loopM g_plant_state_step_1 (fun x : Nat×Ad×List Blk=>x.1≤p.bs.length∧Mid H p ad x.2.2 x.2.1 (mvK p s x.1)) (fun x=>[(8,.v (.int .i64 x.1))]) (fun x=>x.2.2) (fun x=>p.bs.length - x.1) (0,a1,K) ⟨by omega,hM0⟩ ?_ ?_
    · exact Cut.fg (by simp (disch:=first | omega | simp (disch:=omega) only [aG,aM]) only [fZ,aM,fgl_nil,fgl_cons,or_true,true_or])
    clear hM0 kP kT kS kS2 kE kE2 kr kb kl
    rintro ⟨j,a2,L⟩ ⟨hj,hM⟩
    simp only at hj hM
    have hM0:=hM
    obtain ⟨kP,kT,⟨kS,kS2⟩,kE,kE2⟩:=hM
    obtain ⟨gj,gt⟩:=hg.mvK ok j hj
    have kr:=kP.rt
    rw [kT.2.2] at kr
    unfold rootC slA at kr
    have lS:=blkAt_lt kS
    have lE:=blkAt_lt kE
    have lr:=kP.lt (c:=.root) rfl
    rw [kT.2.2] at lr
    by_cases hjt : j < p.bs.length
    · have hmv:=move_pm ok (kP.grow [⟨0,[.v (.int .i64 (p.bs.getD j b0).fr),.v (.int .i64 (p.bs.getD j b0).ot),.v (.int .i64 (p.bs.getD j b0).to),.v (.int .i64 (p.bs.getD j b0).ln)]⟩]) gj.ok hjt
      rw [kT.2.2] at hmv
      simp (disch:=((try simp only [lZ]); omega)) only [aZ,aM,kS]
      refine hmv.mono ?_
      rintro r H' ⟨a3,o,rfl,P3,T3,hO,hO2⟩
      have hM1 : Mid H p ad (L++[⟨0,[.v (.int .i64 (p.bs.getD j b0).fr),.v (.int .i64 (p.bs.getD j b0).ot),.v (.int .i64 (p.bs.getD j b0).to),.v (.int .i64 (p.bs.getD j b0).ln)]⟩]) a2 (mvK p s j):=hM0.next (kP.grow _) (Tr.gr (Gr.app _ _))
      have hM2:=hM1.next P3 T3
      have hB:=(T3.keep (i:=L.length) (v:=0) (l:=[.v (.int .i64 (p.bs.getD j b0).fr),.v (.int .i64 (p.bs.getD j b0).ot),.v (.int .i64 (p.bs.getD j b0).to),.v (.int .i64 (p.bs.getD j b0).ln)]) (by rw [blkAt_new0]; rfl) (by rintro ⟨c,hc1,hc2⟩; have:=kP.lt hc1; omega)).1
      clear hM1
      have hM3:=hM2
      obtain ⟨_,qT,⟨qS,_⟩,_,_⟩:=hM2
      have qr:=P3.rt
      rw [qT.2.2] at qr
      unfold rootC slA at qr
      have qb:=P3.get .bef rfl
      simp only [ctn] at qb
      have ql:=befC_len p a3
      have ht:=tp_lt ok hjt
      have hbt:=ok.bt _ (mem_get b0 hjt)
      have qn:=befC_nth p a3 (tpS p j) ht
      unfold slA at qn
      have htp : (p.bs.getD j b0).to.toNat=tpS p j:=rfl
      have hu : usd p (.bm (tpS p j))=true:=by simpa [usd] using ht
      have qm:=P3.get _ hu
      simp only [ctn,mov_bef] at qm
      have ma:=gj.ok.bef _ ht
      have mo:=gj.ok.out hjt
      have hadd:=add_sl qm hO (fun hc=>hO2 ⟨_,hu,hc.symm⟩) (mo.1.trans ma.1.symm) (fun x _=>by have:=ma.2 x; have:=mo.2 x; omega) (by rw [ma.1]; omega)
      rw [ma.1,mo.1] at hadd
      unfold slA
      refine aret_of ?_
      simp (disch:=((try simp only [lZ]); omega)) only [aZ,aM,hB,qS,qr,qb,ql,qn,htp]
      refine hadd.mono ?_
      rintro r H2 hH2
      have P4 : PM H2 p a3 (mvK p s (j+1)):=by
        have:=P3.put (s':=mvA p (mvK p s j) j) (.bm (tpS p j)) hu fun d hd hdu=>by
          cases d with
          | bm m=>simp only [ctn,mvA,mov_bef]; rw [updF_ne _ _ (fun hc=>hd (by rw [hc]))]
          | _=>rfl
        simp only [ctn,mvA,updF_same] at this
        rw [hH2]; exact this
      have T4 : Tr p H' a3 H2 a3:=by rw [hH2]; exact Tr.one hu (Gr.set (F:=one (a3 (.bm (tpS p j))).1) _ _ _ rfl)
      clear hH2
      refine aret_of ?_
      simp (disch:=((try simp only [lZ]); omega)) only [aZ,aM]
      refine ⟨(j+1,a3,H2),⟨by simp only; omega,hM3.next P4 T4⟩,by simp only; omega,?_⟩
      try simp (disch:=((try simp only [lZ]); omega)) only [aZ,aM]
      exact Cut.fg (by simp (disch:=first | omega | simp (disch:=omega) only [aG,aM]) only [fZ,aM,fgl_nil,fgl_cons,or_true,true_or])
    · have hje : j=p.bs.length:=by omega
      simp (disch:=((try simp only [lZ]); omega)) only [aZ,aM,kS,kr]
      obtain ⟨hz1,hz2⟩:=hg.mvK ok p.bs.length (Nat.le_refl _)
      have hz : ∀ i,i < p.bs.length→(mvK p s p.bs.length).fst i=zeros p.mt:=fun i hi=>by rw [mvK_fst,if_pos hi]
      have hhal:=(mvK_hal p s p.bs.length).1
      rw [hje] at hM0
      generalize hs1 : mvK p s p.bs.length=s1 at *
      refine AWP.loopM g_plant_state_step_2 (fun x : Nat×Ad×List Blk=>x.1≤p.ms.length∧Mid H p ad x.2.2 x.2.1 (dsK p s1 x.1)) (fun x=>[(16,.v (.int .i64 x.1))]) (fun x=>x.2.2) (fun x=>p.ms.length - x.1) (0,a2,L) ⟨by omega,hM0⟩ ?_ ?_
      · exact Cut.fg (by simp (disch:=first | omega | simp (disch:=omega) only [aG,aM]) only [fZ,aM,fgl_nil,fgl_cons,or_true,true_or])
      clear hM0 kP kT kS kS2 kE kE2 kr lS lE lr gj gt
      rintro ⟨m,a3,N⟩ ⟨hm,hM⟩
      simp only at hm hM
      have hM0:=hM
      obtain ⟨kP,kT,⟨kS,kS2⟩,kE,kE2⟩:=hM
      obtain ⟨gj,gt⟩:=hz1.dsK hp hz m hm
      have kr:=kP.rt
      rw [kT.2.2] at kr
      unfold rootC slA at kr
      by_cases hmt : m < p.ms.length
      · have hbn:=bin_pm ok kP m (by omega) (by omega)
        rw [kT.2.2,Int.toNat_natCast] at hbn
        have kh:=kP.get .hal rfl
        simp only [ctn] at kh
        have hhl:=gj.hl
        have hh0 : (dsK p s1 m).hal=s1.hal:=(dsK_hal _ _).1
        rw [hh0] at kh hhl
        simp (disch:=((try simp only [lZ]); omega)) only [aZ,aM,kS]
        refine hbn.mono ?_
        rintro r H' ⟨rfl,hH⟩
        rw [hH]
        refine aret_of ?_
        have skip : (outsN (p.ms.getD m [])=0∨s1.hal.getD m false=true)→Mid H p ad N a3 (dsK p s1 (m+1)):=fun hc=>by
          simp only [dsK,disA]; rw [hh0,if_pos hc]; exact hM0
        by_cases hb : binN p m
        · rw [decide_eq_true hb]
          simp (disch:=((try simp only [lZ]); omega)) only [aZ,aM]
          refine ⟨(m+1,a3,N),⟨by simp only; omega,skip (.inl hb)⟩,by simp only; omega,?_⟩
          try simp (disch:=((try simp only [lZ]); omega)) only [aZ,aM]
          exact Cut.fg (by simp (disch:=first | omega | simp (disch:=omega) only [aG,aM]) only [fZ,aM,fgl_nil,fgl_cons,or_true,true_or])
        · rw [decide_eq_false hb]
          cases hha : s1.hal.getD m false with
          | true =>
            simp (disch:=((try simp only [lZ]); omega)) only [aZ,aM,kS,kr,kh,hhl,hha]
            refine ⟨(m+1,a3,N),⟨by simp only; omega,skip (.inr hha)⟩,by simp only; omega,?_⟩
            try simp (disch:=((try simp only [lZ]); omega)) only [aZ,aM]
            exact Cut.fg (by simp (disch:=first | omega | simp (disch:=omega) only [aG,aM]) only [fZ,aM,fgl_nil,fgl_cons,or_true,true_or])
          | false =>
            have hz2 : ∀ i,i < p.bs.length→(p.bs.getD i b0).fr=m→(dsK p s1 m).fst i=zeros p.mt:=fun i hi hf=>by rw [dsK_fst s1 m i (by omega)]; exact hz i hi
            have hds:=dist_pm hp kP gj.ok hmt hb hz2
            rw [kT.2.2] at hds
            simp (disch:=((try simp only [lZ]); omega)) only [aZ,aM,kS,kr,kh,hhl,hha]
            refine hds.mono ?_
            rintro r H' ⟨rfl,a4,P4,T4⟩
            have hM4 : Mid H p ad H' a4 (dsK p s1 (m+1)):=by
              refine hM0.next ?_ T4
              simp only [dsK,disA]; rw [hh0,if_neg (by rintro (h | h); exact hb h; rw [hha] at h; cases h)]; exact P4
            refine aret_of ?_
            simp (disch:=((try simp only [lZ]); omega)) only [aZ,aM]
            refine ⟨(m+1,a4,H'),⟨by simp only; omega,hM4⟩,by simp only; omega,?_⟩
            try simp (disch:=((try simp only [lZ]); omega)) only [aZ,aM]
            exact Cut.fg (by simp (disch:=first | omega | simp (disch:=omega) only [aG,aM]) only [fZ,aM,fgl_nil,fgl_cons,or_true,true_or])
      · have hme : m=p.ms.length:=by omega
        have hse:=blk_self kE
        have lE:=blkAt_lt kE
        rw [hme] at kP
        simp (disch:=((try simp only [lZ]); omega)) only [aZ,aM,kE,hse,r_plant_state_step]
        exact post2 (R:=fun r H'=>r=.v (.int .i64 0)∧∃ ad' : Ad,PM H' p ad' (stpS p s)∧Tr p H ad H' ad') ⟨rfl,a3,by unfold stpS; rw [hs1]; exact kP,kT⟩
def tb (n : Nat) (f : Nat→Int) : List Int:=(List.range n).map f
theorem tb_len (n : Nat) (f : Nat→Int) : (tb n f).length=n:=by simp [tb]
theorem tb_get (n : Nat) (f : Nat→Int) (x : Nat) (h : x < n) : (tb n f).getD x 0=f x:=by simp [tb,List.getD_eq_getElem?_getD,h]
theorem tb_ext {n : Nat} {f g : Nat→Int} (h : ∀ x,x < n→f x=g x) : tb n f=tb n g:=List.map_congr_left fun x hx=>h x (List.mem_range.1 hx)
theorem tb_zero (n : Nat) : zeros n=tb n fun _=>0:=by
  refine eq_of_getB 0 (by simp [zeros,tb]) fun x hx=>?_
  rw [zeros_get,tb_get _ _ _ (by simpa [zeros] using hx)]
theorem tb_plus (n : Nat) (f : Nat→Int) (l : List Int) : plusM (tb n f) l=tb n fun x=>f x+l.getD x 0:=by
  refine eq_of_getB 0 (by rw [plusM_len,tb_len,tb_len]) fun x hx=>?_
  rw [plusM_len,tb_len] at hx
  rw [plusM_get _ _ _ (by rw [tb_len]; exact hx),tb_get _ _ _ hx,tb_get _ _ _ hx]
theorem accR_get (mat : Nat) (ct : Nat→List Int) (x : Nat) (hl : ∀ q,(ct q).length=mat∨True) : ∀ k,x < mat→(accR mat ct k).getD x 0=sm k fun q=>(ct q).getD x 0
  | 0,hx=>by simp only [accR,sm]; exact zeros_get _ _
  | k+1,hx=>by
    simp only [accR,sm]
    rw [plusM_get _ _ _ (by rw [accR_len]; exact hx),accR_get mat ct x hl k hx]
theorem sm_part {n k : Nat} {f : Nat→Int} (h : ∀ i,i < n→0≤f i) (hk : k≤n) : sm k f≤sm n f:=by
  induction n with
  | zero => have : k = 0 := by omega
            subst this; exact Int.le_refl _
  | succ n ih =>
    by_cases e : k=n+1
    · rw [e]; exact Int.le_refl _
    · have:=ih (fun i hi=>h i (by omega)) (by omega)
      have:=h n (by omega)
      simp only [sm]; omega
def inM (p : Pl) (s : Sy) (x m : Nat) : Int:=if outsN (p.ms.getD m [])=0 then 0 else (s.bef m).getD x 0
def inB (p : Pl) (s : Sy) (x i : Nat) : Int:=(s.fst i).getD x 0+sm (p.rl i) fun q=>(s.rng i q).getD x 0
def insT (p : Pl) (s : Sy) (x : Nat) : Int:=sm p.ms.length (inM p s x)+sm p.bs.length (inB p s x)
def insL (p : Pl) (s : Sy) : List Int:=tb p.mt (insT p s)
theorem inM_nn {p : Pl} {s : Sy} (h : Gd p s) (x : Nat) : ∀ m,m < p.ms.length→0≤inM p s x m:=fun m hm=>by
  unfold inM; split
  · exact Int.le_refl _
  · exact (h.bl m hm).2 x
theorem inB_nn {p : Pl} {s : Sy} (h : Gd p s) (x : Nat) : ∀ i,i < p.bs.length→0≤inB p s x i:=fun i hi=>by
  unfold inB
  have:=(h.fl i hi).2 x
  have:=sm_nn (n:=p.rl i) (f:=fun q=>(s.rng i q).getD x 0) fun q hq=>(h.rl i hi q hq).2 x
  omega
theorem ins_le {p : Pl} {s : Sy} (h : Gd p s) (x : Nat) : sm p.ms.length (inM p s x)≤befT p s x∧sm p.bs.length (inB p s x)=fstT p s x+rngT p s x:=by
  constructor
  · unfold befT
    have : ∀ n,n≤p.ms.length→sm n (inM p s x)≤sm n fun m=>(s.bef m).getD x 0:=by
      intro n
      induction n with
      | zero=>intro _; exact Int.le_refl _
      | succ n ih =>
        intro hn
        have:=ih (by omega)
        have h1 : inM p s x n≤(s.bef n).getD x 0:=by
          unfold inM; split
          · exact (h.bl n (by omega)).2 x
          · exact Int.le_refl _
        simp only [sm]; omega
    exact this _ (Nat.le_refl _)
  · unfold fstT rngT
    rw [← sm_add]
    exact sm_congr fun i _=>rfl
theorem ins_tot {p : Pl} {s : Sy} (h : Gd p s) (x : Nat) : insT p s x≤tot p s x∧0≤insT p s x:=by
  have h1:=ins_le h x
  have h2:=sm_nn (inM_nn h x)
  have h3:=sm_nn (inB_nn h x)
  unfold insT tot; omega
theorem inside_pm {H : List Blk} {p : Pl} {ad : Ad} {s : Sy} (hp : pcheck p=0) (h : PM H p ad s) (hg : Gd p s) : VR P false n_plant_state_inside [.lp (ad .root).1 0 0] H (fun r H'=>r=.sl H.length 0 1 0 p.mt∧Gr nof H H'∧blkAt H' H.length 0=some (ints (insL p s))):=by
  refine vr_plant_state_inside (by simp) (.inl rfl) fun _ _=>?_
  have ok:=pcheck_ok hp
  obtain ⟨m1,m2,m3⟩:=ok.mt1
  have n1:=ok.n1
  have n2:=ok.n2
  have b2:=ok.b2
  have hr:=h.rt
  unfold rootC slA at hr
  have ltr:=h.lt (c:=.root) rfl
  have bnd:=fun x=>(ins_tot hg x).1
  have tt:=hg.tt
  simp (disch:=((try simp only [lZ]); omega)) only [aZ,aM,s_plant_state_inside,v_plant_state_inside]
  rw [m3] at hr
  refine (empty_ps m2 hr).mono ?_
  rintro r H' ⟨rfl,hH⟩
  rw [hH]
  refine aret_of ?_
  rw [tb_zero]
  simp (disch:=((try simp only [lZ]); omega)) only [aZ,aM,hr]
  refine AWP.loopM g_plant_state_inside_0 (fun k : Nat=>k≤p.ms.length) (fun k=>[(3,.v (.int .i64 k))]) (fun k=>H++[⟨0,ints (tb p.mt fun x=>sm k (inM p s x))⟩]) (fun k=>p.ms.length - k) 0 (by omega) ?_ ?_
  · exact Cut.fg (by simp (disch:=first | omega | simp (disch:=omega) only [aG,aM]) only [fZ,aM,fgl_nil,fgl_cons,or_true,true_or])
  rintro k hk
  by_cases hlt : k < p.ms.length
  · have hP:=h.grow [⟨0,ints (tb p.mt fun x=>sm k (inM p s x))⟩]
    have kb:=hP.get .bef rfl
    simp only [ctn] at kb
    have kl:=befC_len p ad
    have kn:=befC_nth p ad k hlt
    unfold slA at kn
    have hu : usd p (.bm k)=true:=by simpa [usd] using hlt
    have km:=hP.get _ hu
    simp only [ctn] at km
    have hbn:=bin_pm ok hP k (by omega) (by omega)
    rw [Int.toNat_natCast] at hbn
    have hml:=(hg.bl k hlt).1
    simp (disch:=((try simp only [lZ]); omega)) only [aZ,aM,kb,kl,kn]
    refine hbn.mono ?_
    rintro r H' ⟨rfl,hH⟩
    rw [hH]
    refine aret_of ?_
    by_cases hb : binN p k
    · have hz : outsN (p.ms.getD k [])=0:=hb
      rw [decide_eq_true hb]
      simp (disch:=((try simp only [lZ]); omega)) only [aZ,aM]
      refine ⟨k+1,by omega,by omega,?_⟩
      have e : (fun x=>sm (k+1) (inM p s x))=fun x=>sm k (inM p s x):=by funext x; simp only [sm,inM]; rw [if_pos hz]; omega
      rw [e]
      try simp (disch:=((try simp only [lZ]); omega)) only [aZ,aM]
      exact Cut.fg (by simp (disch:=first | omega | simp (disch:=omega) only [aG,aM]) only [fZ,aM,fgl_nil,fgl_cons,or_true,true_or])
    · have hz : ¬ outsN (p.ms.getD k [])=0:=hb
      rw [decide_eq_false hb]
      have ha : blkAt (H++[⟨0,ints (tb p.mt fun x=>sm k (inM p s x))⟩]) H.length 0=some (ints (tb p.mt fun x=>sm k (inM p s x))):=by rw [blkAt_new0]; rfl
      have hadd:=add_sl ha km (fun hc=>by have:=h.lt hu; omega) (by rw [hml,tb_len]) (fun x hx=>by
        rw [tb_len] at hx
        rw [tb_get _ _ _ hx]
        have g1:=(hg.ok.bef k hlt).2 x
        have g2:=sm_part (inM_nn hg x) hk
        have g3:=sm_nn (n:=k) (f:=inM p s x) fun i hi=>inM_nn hg x i (by omega)
        have g4:=sm_nn (inB_nn hg x)
        have hbx:=bnd x
        have:=tt x
        unfold insT at hbx; omega) (by rw [tb_len]; omega)
      rw [tb_len,hml,tb_plus] at hadd
      simp (disch:=((try simp only [lZ]); omega)) only [aZ,aM]
      refine hadd.mono ?_
      rintro r H' hH
      rw [hH]
      refine aret_of ?_
      simp (disch:=((try simp only [lZ]); omega)) only [aZ,aM]
      refine ⟨k+1,by omega,by omega,?_⟩
      have e : (fun x=>sm (k+1) (inM p s x))=fun x=>sm k (inM p s x)+(s.bef k).getD x 0:=by funext x; simp only [sm,inM]; rw [if_neg hz]
      rw [e]
      try simp (disch:=((try simp only [lZ]); omega)) only [aZ,aM]
      exact Cut.fg (by simp (disch:=first | omega | simp (disch:=omega) only [aG,aM]) only [fZ,aM,fgl_nil,fgl_cons,or_true,true_or])
  · have hke : k=p.ms.length:=by omega
    rw [hke]
    simp (disch:=((try simp only [lZ]); omega)) only [aZ,aM,hr]
    have hoff : ∀ c,usd p c=true→¬ one H.length (ad c).1:=fun c hc hf=>by have:=h.lt hc; have : (ad c).1=H.length:=hf; omega
    refine AWP.loopM g_plant_state_inside_1 (fun x : Nat×List Blk=>x.1≤p.bs.length∧PM x.2 p ad s∧Gr nof H x.2∧blkAt x.2 H.length 0=some (ints (tb p.mt fun y=>sm p.ms.length (inM p s y)+sm x.1 (inB p s y)))) (fun x=>[(9,.v (.int .i64 x.1))]) (fun x=>x.2) (fun x=>p.bs.length - x.1) (0,H++[(⟨0,ints (tb p.mt fun x=>sm p.ms.length (inM p s x))⟩ : Blk)]) ⟨by omega,h.grow _,Gr.app _ _,by rw [blkAt_new0]; simp only [sm,Int.add_zero]; rfl⟩ ?_ ?_
    · exact Cut.fg (by simp (disch:=first | omega | simp (disch:=omega) only [aG,aM]) only [fZ,aM,fgl_nil,fgl_cons,or_true,true_or])
    rintro ⟨i,K⟩ ⟨hi,kP,kG,kO⟩
    simp only at hi kP kG kO
    by_cases hlt2 : i < p.bs.length
    · have kb:=kP.get .bel rfl
      simp only [ctn] at kb
      have kl:=belsC_len p ad
      have k0:=belsC_nth0 p ad i hlt2
      have k1:=belsC_nth1 p ad i hlt2
      unfold slA at k0
      have lK:=blkAt_lt kO
      have lbK:=kP.lt (c:=.bel) rfl
      have uf : usd p (.fi i)=true:=by simpa [usd] using hlt2
      have td2 : ((belsC p ad).drop (i*2)).take 2=cvC p ad i:=by
        apply List.ext_getElem?
        intro j
        rw [List.getElem?_take,List.getElem?_drop]
        split
        · rename_i hj; exact flat2_get _ (cvC_len p ad) _ i j hlt2 hj
        · rw [List.getElem?_eq_none (by rw [cvC_len]; omega)]
      have fo:=hg.ok.fst i hlt2
      have P1:=kP.grow [⟨0,cvC p ad i⟩]
      have f1:=P1.get _ uf
      simp only [ctn] at f1
      have O1 : blkAt (K++[(⟨0,cvC p ad i⟩ : Blk)]) H.length 0=_:=(blkAt_app _ _ _ _ lK).trans kO
      have q0 : ∀ x,0≤sm p.ms.length (inM p s x):=fun x=>sm_nn (inM_nn hg x)
      have q1 : ∀ x,0≤sm i (inB p s x):=fun x=>sm_nn fun j hj=>inB_nn hg x j (by omega)
      have q2 : ∀ x,sm (i+1) (inB p s x)≤sm p.bs.length (inB p s x):=fun x=>sm_part (inB_nn hg x) (by omega)
      have q3 : ∀ x,sm p.ms.length (inM p s x)+sm i (inB p s x)+inB p s x i≤1073741824:=fun x=>by
        have e1:=q2 x
        have e2:=bnd x
        have e3:=tt x
        unfold insT at e2
        simp only [sm] at e1; omega
      have a1:=add_sl O1 f1 (fun hc=>by have:=h.lt uf; omega) (by rw [fo.1,tb_len]) (fun x hx=>by
        rw [tb_len] at hx
        rw [tb_get _ _ _ hx]
        have g1:=fo.2 x
        have g2:=q0 x
        have g3:=q1 x
        have g4:=q3 x
        have g5:=inB_nn hg x i hlt2
        omega) (by rw [tb_len]; omega)
      rw [tb_len,fo.1,tb_plus] at a1
      have lP1:=blkAt_lt f1
      have P2 : PM ((K++[(⟨0,cvC p ad i⟩ : Blk)]).set H.length ⟨0,ints (tb p.mt fun x=>(sm p.ms.length (inM p s x)+sm i (inB p s x))+(s.fst i).getD x 0)⟩) p ad s:=P1.gr (Gr.set (F:=one H.length) _ _ _ rfl) hoff
      have G2 : Gr nof H ((K++[(⟨0,cvC p ad i⟩ : Blk)]).set H.length ⟨0,ints (tb p.mt fun x=>(sm p.ms.length (inM p s x)+sm i (inB p s x))+(s.fst i).getD x 0)⟩):=(kG.trans (Gr.app (F:=nof) K _) fun _ _ h=>h).trans (Gr.set (F:=one H.length) _ _ _ rfl) fun z hz hf=>by have : z=H.length:=hf; omega
      have O2 : blkAt ((K++[(⟨0,cvC p ad i⟩ : Blk)]).set H.length ⟨0,ints (tb p.mt fun x=>(sm p.ms.length (inM p s x)+sm i (inB p s x))+(s.fst i).getD x 0)⟩) H.length 0=_:=blkAt_set_same _ _ _ _ (by simp; omega)
      have B2 : blkAt ((K++[(⟨0,cvC p ad i⟩ : Blk)]).set H.length ⟨0,ints (tb p.mt fun x=>(sm p.ms.length (inM p s x)+sm i (inB p s x))+(s.fst i).getD x 0)⟩) K.length 0=some (cvC p ad i):=by
        rw [blkAt_set_ne _ _ _ _ _ (by omega),blkAt_new0]; rfl
      unfold cvC slA at *
      by_cases hrl : 0 < p.rl i
      · rw [if_pos hrl] at *
        have hu : usd p (.re i)=true:=by simp [usd,hlt2,hrl]
        rw [h.zr.2 i] at *
        simp (disch:=((try simp only [lZ]); omega)) only [aZ,aM,kb,kl,td2]
        refine a1.mono ?_
        rintro r H' hH
        rw [← hH] at P2 G2 O2 B2
        clear hH
        refine aret_of ?_
        have h15:=ok.rl hlt2
        have hre:=P2.get _ hu
        rw [h.zr.2 i] at hre
        simp only [ctn] at hre
        have hct : ∀ q,q < p.rl i→blkAt H' (ad (.ri i q)).1 (ad (.ri i q)).2=some (ints (s.rng i q))∧MixOk p.mt (s.rng i q):=fun q hq=>⟨P2.get (.ri i q) (by simp [usd,hlt2,hq]),hg.ok.rng i hlt2 q hq⟩
        have hbt:=btotal_vr hre (by omega) ⟨m1,m2⟩ hct
        simp (disch:=((try simp only [lZ]); omega)) only [aZ,aM,B2]
        refine hbt.mono ?_
        rintro r H2 ⟨rfl,hH2⟩
        have hal:=accR_len p.mt (s.rng i) (p.rl i)
        have O3 : blkAt H2 H.length 0=some (ints (tb p.mt fun x=>(sm p.ms.length (inM p s x)+sm i (inB p s x))+(s.fst i).getD x 0)):=by rw [hH2,blkAt_app _ _ _ _ (blkAt_lt O2)]; exact O2
        have T3 : blkAt H2 H'.length 0=some (ints (accR p.mt (s.rng i) (p.rl i))):=by rw [hH2,blkAt_new0]; rfl
        have P3 : PM H2 p ad s:=by rw [hH2]; exact P2.grow _
        have G3 : Gr nof H H2:=by rw [hH2]; exact G2.trans (Gr.app (F:=nof) H' _) fun _ _ h=>h
        have lO2:=blkAt_lt O2
        clear hH2
        have hac : ∀ x,x < p.mt→(accR p.mt (s.rng i) (p.rl i)).getD x 0=sm (p.rl i) fun q=>(s.rng i q).getD x 0:=fun x hx=>accR_get p.mt (s.rng i) x (fun _=>.inr trivial) _ hx
        have a2:=add_sl O3 T3 (by omega) (by rw [hal,tb_len]) (fun x hx=>by
          rw [tb_len] at hx
          rw [tb_get _ _ _ hx,hac x hx]
          have g1:=fo.2 x
          have g2:=q0 x
          have g3:=q1 x
          have g4:=q3 x
          have g5:=sm_nn (n:=p.rl i) (f:=fun q=>(s.rng i q).getD x 0) fun q hq=>(hg.rl i hlt2 q hq).2 x
          have g6 : inB p s x i=(s.fst i).getD x 0+sm (p.rl i) fun q=>(s.rng i q).getD x 0:=rfl
          rw [g6] at g4
          omega) (by rw [tb_len]; omega)
        rw [tb_len,hal,tb_plus,tb_ext (g:=fun x=>sm p.ms.length (inM p s x)+sm (i+1) (inB p s x)) fun x hx=>by rw [hac x hx]; simp only [sm,inB]; omega] at a2
        refine aret_of ?_
        simp (disch:=((try simp only [lZ]); omega)) only [aZ,aM]
        refine a2.mono ?_
        rintro r H4 hH4
        have I4 : PM H4 p ad s∧Gr nof H H4∧blkAt H4 H.length 0=some (ints (tb p.mt fun x=>sm p.ms.length (inM p s x)+sm (i+1) (inB p s x))):=by
          rw [hH4]
          exact ⟨P3.gr (Gr.set (F:=one H.length) _ _ _ rfl) hoff,G3.trans (Gr.set (F:=one H.length) _ _ _ rfl) fun z hz hf=>by have : z=H.length:=hf; omega,blkAt_set_same _ _ _ _ (blkAt_lt O3)⟩
        clear hH4
        refine aret_of ?_
        simp (disch:=((try simp only [lZ]); omega)) only [aZ,aM]
        refine ⟨(i+1,H4),⟨by simp only; omega,I4⟩,by simp only; omega,?_⟩
        try simp (disch:=((try simp only [lZ]); omega)) only [aZ,aM]
        exact Cut.fg (by simp (disch:=first | omega | simp (disch:=omega) only [aG,aM]) only [fZ,aM,fgl_nil,fgl_cons,or_true,true_or])
      · rw [if_neg hrl] at *
        simp (disch:=((try simp only [lZ]); omega)) only [aZ,aM,kb,kl,td2]
        refine a1.mono ?_
        rintro r H' hH
        rw [← hH] at P2 G2 O2 B2
        clear hH
        refine aret_of ?_
        simp (disch:=((try simp only [lZ]); omega)) only [aZ,aM,B2]
        refine btotal_nil.mono ?_
        rintro r H2 ⟨rfl,hH2⟩
        rw [hH2]
        refine aret_of ?_
        simp (disch:=((try simp only [lZ]); omega)) only [aZ,aM]
        refine add_nil.mono ?_
        rintro r H3 hH3
        rw [hH3]
        have hr0 : p.rl i=0:=by omega
        rw [tb_ext (g:=fun x=>sm p.ms.length (inM p s x)+sm (i+1) (inB p s x)) fun x hx=>by simp only [sm,inB,hr0]; omega] at O2
        refine aret_of ?_
        simp (disch:=((try simp only [lZ]); omega)) only [aZ,aM]
        refine ⟨(i+1,H'),⟨by simp only; omega,P2,G2,O2⟩,by simp only; omega,?_⟩
        try simp (disch:=((try simp only [lZ]); omega)) only [aZ,aM]
        exact Cut.fg (by simp (disch:=first | omega | simp (disch:=omega) only [aG,aM]) only [fZ,aM,fgl_nil,fgl_cons,or_true,true_or])
    · have hie : i=p.bs.length:=by omega
      rw [hie] at kO
      simp (disch:=((try simp only [lZ]); omega)) only [aZ,aM,r_plant_state_inside]
      exact post2 (R:=fun r H'=>r=.sl H.length 0 1 0 p.mt∧Gr nof H H'∧blkAt H' H.length 0=some (ints (insL p s))) ⟨rfl,kG,kO⟩
def posM (x : Int) : Prop:=0 < x
instance : DecidablePred posM:=fun x=>inferInstanceAs (Decidable (0 < x))
theorem run1_vr (x : Int) : VR P false n_plant_Plant_Run_1 [.v (.int .i64 x)] [] (isR (.v (.bool (decide (posM x))))):=by
  refine vr_plant_Plant_Run_1 (by simp) (.inr rfl) fun _ _=>?_
  simp (disch:=((try simp only [lZ]); omega)) only [aZ,aM,s_plant_Plant_Run_1,v_plant_Plant_Run_1,r_plant_Plant_Run_1]
  exact post_v ⟨rfl,rfl⟩
theorem posM_hit {xs : List Int} {k : Nat} (hk : k < xs.length) (hb : ∀ i,i < k→¬ posM (xs.getD i 0)) (hp : posM (xs.getD k 0)) : idxE posM xs=k:=idxE_hit (p:=posM) 0 hk hb hp
theorem posM_none {xs : List Int} (hb : ∀ i,i < xs.length→¬ posM (xs.getD i 0)) : idxE posM xs=-1:=idxE_none (p:=posM) 0 hb
theorem indexPos_vr {w : Bool} (xs : List Int) (hl : xs.length < 1000000000) : VR P false n_slices_IndexFunc [.fs w (ints xs),.fn n_plant_Plant_Run_1 []] [] (isR (.v (.int .i64 (idxE posM xs)))):=by
  refine vr_slices_IndexFunc (by simp) (.inr rfl) fun _ _=>?_
  simp (disch:=((try simp only [lZ]); omega)) only [aZ,aM,s_slices_IndexFunc,v_slices_IndexFunc]
  refine AWP.loopP g_slices_IndexFunc_0 (fun k : Nat=>k≤xs.length∧∀ i,i < k→¬ posM (xs.getD i 0)) (fun k=>[(2,.v (.int .i64 0)),(3,.v (.int .i64 k))]) (fun _=>[]) (fun k=>xs.length - k) 0 ⟨by omega,fun i hi=>by omega⟩ (by refine Cut.of' (0) ?_ (by omega) ?_ ?_<;>simp (disch:=first | omega | simp (disch:=omega) only [aG,aM]) only [fZ,aM]) ?_
  rintro k ⟨hk,hb⟩
  by_cases hlt : k < xs.length
  · simp (disch:=((try simp only [lZ]); omega)) only [aZ,aM]
    refine ⟨by kernel_rfl,?_⟩
    refine (run1_vr (xs.getD k 0)).same (by simp (disch:=first | omega | simp (disch:=omega) only [aG,aM]) only [fZ,aM]) rfl (aret_of ?_)
    simp (disch:=((try simp only [lZ]); omega)) only [aZ,aM]
    refine ib_intro (fun h3=>?_) (fun h3=>?_)
    · simp (disch:=((try simp only [lZ]); omega)) only [aZ,aM,r_slices_IndexFunc]
      exact post_v ⟨by rw [posM_hit hlt hb h3],rfl⟩
    · simp (disch:=((try simp only [lZ]); omega)) only [aZ,aM]
      refine ⟨k+1,⟨by omega,fun i hi=>?_⟩,by omega,(by refine Cut.of' (0) ?_ (by omega) ?_ ?_<;>simp (disch:=first | omega | simp (disch:=omega) only [aG,aM]) only [fZ,aM])⟩
      rcases Nat.lt_succ_iff_lt_or_eq.1 hi with h | rfl
      · exact hb i h
      · exact h3
  · simp (disch:=((try simp only [lZ]); omega)) only [aZ,aM,r_slices_IndexFunc]
    exact post_v ⟨by rw [posM_none fun i hi=>hb i (by omega)],rfl⟩
theorem containsPos_vr {w : Bool} (xs : List Int) (hl : xs.length < 1000000000) : VR P false n_slices_ContainsFunc [.fs w (ints xs),.fn n_plant_Plant_Run_1 []] [] (isR (.v (.bool (decide (0≤idxE posM xs))))):=by
  refine vr_slices_ContainsFunc (by simp) (.inr rfl) fun _ _=>?_
  simp (disch:=((try simp only [lZ]); omega)) only [aZ,aM,s_slices_ContainsFunc,v_slices_ContainsFunc]
  refine (indexPos_vr (w:=w) xs hl).same (by simp (disch:=first | omega | simp (disch:=omega) only [aG,aM]) only [fZ,aM]) rfl (aret_of ?_)
  simp (disch:=((try simp only [lZ]); omega)) only [aZ,aM,r_slices_ContainsFunc]
  exact post_v ⟨rfl,rfl⟩
theorem inside_m {H : List Blk} {p : Pl} {ad : Ad} {s : Sy} (hp : pcheck p=0) (h : PM H p ad s) (hg : Gd p s) : VR P false n_plant_Plant_Inside [.lp (ad .root).1 0 0] H (fun r H'=>r=.sl H.length 0 1 0 p.mt∧Gr nof H H'∧blkAt H' H.length 0=some (ints (insL p s))):=by
  refine vr_plant_Plant_Inside (by simp) (.inl rfl) fun _ _=>?_
  simp (disch:=((try simp only [lZ]); omega)) only [aZ,aM,s_plant_Plant_Inside,v_plant_Plant_Inside]
  refine (inside_pm hp h hg).mono ?_
  rintro r H' ⟨rfl,hG,hO⟩
  refine aret_of ?_
  simp (disch:=((try simp only [lZ]); omega)) only [aZ,aM,r_plant_Plant_Inside]
  exact post2 (R:=fun r H'=>r=.sl H.length 0 1 0 p.mt∧Gr nof H H'∧blkAt H' H.length 0=some (ints (insL p s))) ⟨rfl,hG,hO⟩
def itS (p : Pl) (s : Sy) : Nat→Sy
  | 0=>s
  | k+1=>stpS p (itS p s k)
theorem Gd.it {p : Pl} (hp : pcheck p=0) {s : Sy} (h : Gd p s) : ∀ k,Gd p (itS p s k)∧(∀ x,tot p (itS p s k) x=tot p s x)∧(itS p s k).hal=s.hal∧(itS p s k).fed=s.fed
  | 0=>⟨h,fun _=>rfl,rfl,rfl⟩
  | k+1=>by
    obtain ⟨h1,h2,h3,h4⟩:=Gd.it hp h k
    obtain ⟨g1,g2,g3,g4⟩:=h1.stp hp
    exact ⟨g1,fun x=>(g2 x).trans (h2 x),g3.trans h3,g4.trans h4⟩
theorem run_m {H : List Blk} {p : Pl} {ad : Ad} {s : Sy} (hp : pcheck p = 0) (h : PM H p ad s) (hg : Gd p s) (n : Nat) (hn : n ≤ 100000) :
    VR P false n_plant_Plant_Run [.lp (ad .root).1 0 0,.v (.int .i64 n)] H (fun r H'=>r=.v (.int .i64 0)∧∃ (k : Nat) (ad' : Ad),k≤n∧PM H' p ad' (itS p s k)∧Tr p H ad H' ad'∧(k=n∨∀ x,insT p (itS p s k) x=0)):=by
  refine vr_plant_Plant_Run (by simp) (.inl rfl) fun _ _=>?_
  have ok:=pcheck_ok hp
  obtain ⟨m1,m2,m3⟩:=ok.mt1
  have hcond : ¬ ((n : Int) < 0∨(100000 : Int) < n):=by omega
  simp (disch:=((try simp only [lZ]); omega)) only [aZ,aM,s_plant_Plant_Run,v_plant_Plant_Run,decide_eq_false hcond]
  refine AWP.loopM g_plant_Plant_Run_0 (fun x : Nat×Ad×List Blk=>x.1≤n∧PM x.2.2 p x.2.1 (itS p s x.1)∧Tr p H ad x.2.2 x.2.1) (fun x=>[(2,.v (.int .i64 0)),(3,.v (.int .i64 x.1))]) (fun x=>x.2.2) (fun x=>n - x.1) (0,ad,H) ⟨by omega,h,Tr.refl _ _⟩ ?_ ?_
  · exact Cut.fg (by simp (disch:=first | omega | simp (disch:=omega) only [aG,aM]) only [fZ,aM,fgl_nil,fgl_cons,or_true,true_or])
  rintro ⟨j,a1,K⟩ ⟨hj,hP,hT⟩
  simp only at hj hP hT
  obtain ⟨g1,g2,g3,g4⟩:=hg.it hp j
  by_cases hlt : j < n
  · have hin:=inside_pm hp hP g1
    rw [hT.2.2] at hin
    simp (disch:=((try simp only [lZ]); omega)) only [aZ,aM]
    refine hin.mono ?_
    rintro r K2 ⟨rfl,hG,hO⟩
    have hP2 : PM K2 p a1 (itS p s j):=hP.gr hG fun _ _ hf=>hf
    have hT2 : Tr p K a1 K2 a1:=Tr.gr hG
    have il:=tb_len p.mt (insT p (itS p s j))
    have hcp:=containsPos_vr (w:=false) (insL p (itS p s j)) (by unfold insL; rw [il]; omega)
    refine aret_of ?_
    simp (disch:=((try simp only [lZ]); omega)) only [aZ,aM]
    refine hcp.use ⟨ld_slI K2 _ _ _ _ (by unfold insL; rw [il]) hO,Ld.refl rfl,trivial⟩ rfl (aret_of ?_)
    by_cases hpos : 0≤idxE posM (insL p (itS p s j))
    · have hst:=step_pm hp hP2 g1
      rw [hT.2.2] at hst
      rw [decide_eq_true hpos]
      simp (disch:=((try simp only [lZ]); omega)) only [aZ,aM]
      refine hst.mono ?_
      rintro r K3 ⟨rfl,a3,hP3,hT3⟩
      refine aret_of ?_
      simp (disch:=((try simp only [lZ]); omega)) only [aZ,aM]
      refine ⟨(j+1,a3,K3),⟨by simp only; omega,hP3,(hT.trans hT2).trans hT3⟩,by simp only; omega,?_⟩
      try simp (disch:=((try simp only [lZ]); omega)) only [aZ,aM]
      exact Cut.fg (by simp (disch:=first | omega | simp (disch:=omega) only [aG,aM]) only [fZ,aM,fgl_nil,fgl_cons,or_true,true_or])
    · rw [decide_eq_false hpos]
      have hz : ∀ x,insT p (itS p s j) x=0:=fun x=>by
        have h0:=(ins_tot g1 x).2
        by_cases hx : x < p.mt
        · have hm : (insL p (itS p s j)).getD x 0∈insL p (itS p s j):=mem_get 0 (by unfold insL; rw [il]; exact hx)
          have:=idxE_neg (p:=posM) (l:=insL p (itS p s j)) (by omega) _ hm
          unfold insL at this
          rw [tb_get _ _ _ hx] at this
          unfold posM at this; omega
        · have e1 : sm p.ms.length (inM p (itS p s j) x) = 0 := by
            rw [sm_congr (g:=fun _=>0) fun m hm=>by unfold inM; split; rfl; exact get_out (g1.bl m hm).1 (by omega)]
            generalize p.ms.length=n'
            induction n' with
            | zero=>rfl
            | succ n' ih=>simp only [sm,ih]; rfl
          have e2 : sm p.bs.length (inB p (itS p s j) x)=0:=by
            have hz0 : ∀ n',sm n' (fun _=>(0 : Int))=0:=fun n'=>by
              induction n' with
              | zero=>rfl
              | succ n' ih=>simp only [sm,ih]; rfl
            rw [sm_congr (g:=fun _=>0) fun i hi=>by
              unfold inB
              rw [get_out (g1.fl i hi).1 (by omega),sm_congr (g:=fun _=>0) fun q hq=>get_out (g1.rl i hi q hq).1 (by omega),hz0]; rfl]
            exact hz0 _
          unfold insT; omega
      simp (disch:=((try simp only [lZ]); omega)) only [aZ,aM,r_plant_Plant_Run]
      exact post2 (R:=fun r H'=>r=.v (.int .i64 0)∧∃ (k : Nat) (ad' : Ad),k≤n∧PM H' p ad' (itS p s k)∧Tr p H ad H' ad'∧(k=n∨∀ x,insT p (itS p s k) x=0)) ⟨rfl,j,a1,hj,hP2,hT.trans hT2,.inr hz⟩
  · have hje : j=n:=by omega
    simp (disch:=((try simp only [lZ]); omega)) only [aZ,aM,r_plant_Plant_Run]
    exact post2 (R:=fun r H'=>r=.v (.int .i64 0)∧∃ (k : Nat) (ad' : Ad),k≤n∧PM H' p ad' (itS p s k)∧Tr p H ad H' ad'∧(k=n∨∀ x,insT p (itS p s k) x=0)) ⟨rfl,j,a1,hj,hP,hT,.inl hje⟩
def ovr (fed xs : List Int) : Prop:=∃ i,i < xs.length∧1073741824 < fed.getD i 0+xs.getD i 0
instance (fed xs : List Int) : Decidable (ovr fed xs):=inferInstanceAs (Decidable (∃ i,i < xs.length∧1073741824 < fed.getD i 0+xs.getD i 0))
def fitE (mt : Nat) (fed xs : List Int) : Int:=if xs.length≠mt then 18 else if mixE xs≠0 then 1 else if ovr fed xs then 2 else 0
theorem fits_vr {w : Bool} {mt : Nat} {fed xs : List Int} (h16 : mt≤16) (hf : MixOk mt fed) : VR P false n_plant_state_fits [.fp false [.v (.int .i64 mt),.any,.any,.any,.any,.any,.any,.fs false (ints fed)],.fs w (ints xs)] [] (isR (.v (.int .i64 (fitE mt fed xs)))):=by
  refine vr_plant_state_fits (by simp) (.inr rfl) fun _ _=>?_
  unfold fitE
  simp (disch:=((try simp only [lZ]); omega)) only [aZ,aM,s_plant_state_fits,v_plant_state_fits]
  refine ib_intro (fun h1=>?_) (fun h1=>?_)
  · rw [if_pos (by omega)]
    simp (disch:=((try simp only [lZ]); omega)) only [aZ,aM,r_plant_state_fits]
    exact post_v ⟨rfl,rfl⟩
  have hl : xs.length=mt:=by omega
  rw [if_neg (by omega)]
  simp (disch:=((try simp only [lZ]); omega)) only [aZ,aM]
  refine (valid_vr (w:=w) xs mt).same (by simp (disch:=first | omega | simp (disch:=omega) only [aG,aM]) only [fZ,aM]) rfl (aret_of ?_)
  by_cases h2 : mixE xs=0
  · rw [if_neg (by omega),decide_eq_true (⟨by omega,h2⟩ : (xs.length : Int)=mt∧mixE xs=0)]
    have hb:=mixE_ok.1 h2
    simp (disch:=((try simp only [lZ]); omega)) only [aZ,aM]
    refine AWP.loopP g_plant_state_fits_0 (fun k : Nat=>k≤xs.length∧∀ i,i < k→¬ 1073741824 < fed.getD i 0+xs.getD i 0) (fun k=>[(2,.v (.int .i64 0)),(3,.v (.int .i64 k))]) (fun _=>[]) (fun k=>xs.length - k) 0 ⟨by omega,fun i hi=>by omega⟩ (by refine Cut.of' (0) ?_ (by omega) ?_ ?_<;>simp (disch:=first | omega | simp (disch:=omega) only [aG,aM]) only [fZ,aM]) ?_
    rintro k ⟨hk,hn⟩
    by_cases hlt : k < xs.length
    · have b1:=hb.2 _ (mem_get 0 hlt)
      have b2:=hf.2 k
      have fl:=hf.1
      simp (disch:=((try simp only [lZ]); omega)) only [aZ,aM]
      refine ib_intro (fun h3=>?_) (fun h3=>?_)
      · rw [if_pos ⟨k,hlt,h3⟩]
        simp (disch:=((try simp only [lZ]); omega)) only [aZ,aM,r_plant_state_fits]
        exact post_v ⟨rfl,rfl⟩
      · simp (disch:=((try simp only [lZ]); omega)) only [aZ,aM]
        refine ⟨k+1,⟨by omega,fun i hi=>?_⟩,by omega,(by refine Cut.of' (0) ?_ (by omega) ?_ ?_<;>simp (disch:=first | omega | simp (disch:=omega) only [aG,aM]) only [fZ,aM])⟩
        rcases Nat.lt_succ_iff_lt_or_eq.1 hi with h | rfl
        · exact hn i h
        · exact h3
    · rw [if_neg (by rintro ⟨i,hi,h3⟩; exact hn i (by omega) h3)]
      simp (disch:=((try simp only [lZ]); omega)) only [aZ,aM,r_plant_state_fits]
      exact post_v ⟨rfl,rfl⟩
  · rw [if_pos h2,decide_eq_false (by rintro ⟨_,h⟩; exact h2 h)]
    simp (disch:=((try simp only [lZ]); omega)) only [aZ,aM,r_plant_state_fits]
    exact post_v ⟨rfl,rfl⟩
theorem PM.ldr {H : List Blk} {p : Pl} {ad : Ad} {s : Sy} (ok : POk p) (h : PM H p ad s) (hs : SyOk p s) : Ld H (.lp (ad .root).1 0 0) (.fp false [.v (.int .i64 p.mt),.any,.any,.any,.any,.any,.any,.fs false (ints s.fed)]):=by
  have hr:=h.rt
  unfold rootC slA at hr
  obtain ⟨m1,m2,m3⟩:=ok.mt1
  rw [m3] at hr
  exact Ld.lp (o:=0) hr ⟨Ld.refl rfl,Ld.any,Ld.any,Ld.any,Ld.any,Ld.any,Ld.any,ld_slI H _ _ _ _ hs.fed.1.symm (h.get .fed rfl),trivial⟩ (by simp)
def feedS (p : Pl) (s : Sy) (xs : List Int) : Sy:={s with fed:=plusM s.fed xs,bef:=updF s.bef p.fd.toNat (plusM (s.bef p.fd.toNat) xs)}
def fedS (s : Sy) (xs : List Int) : Sy:={s with fed:=plusM s.fed xs}
theorem fitE_zero {mt : Nat} {fed xs : List Int} (h : fitE mt fed xs=0) : xs.length=mt∧MixOk mt xs:=by
  unfold fitE at h
  split at h
  · cases h
  rename_i h1
  split at h
  · cases h
  rename_i h2
  have hl : xs.length=mt:=by omega
  exact ⟨hl,hl,fun i=>by have:=mixE_get0 (Classical.not_not.1 h2) i; omega⟩
theorem feed_sl_err {j v : Nat} {H : List Blk} {p : Pl} {ad : Ad} {s : Sy} (hp : pcheck p=0) (h : PM H p ad s) (hg : Gd p s) {xs : List Int} (hj : blkAt H j v=some (ints xs)) (hj2 : ¬ ftp p ad j) (he : fitE p.mt s.fed xs≠0) : VR P false n_plant_Plant_Feed [.lp (ad .root).1 0 0,.sl j v 1 0 xs.length] H (fun r H'=>r=.v (.int .i64 (fitE p.mt s.fed xs))∧H'=H):=by
  refine vr_plant_Plant_Feed (by simp) (.inl rfl) fun _ _=>?_
  have ok:=pcheck_ok hp
  obtain ⟨m1,m2,m3⟩:=ok.mt1
  have hv:=(fits_vr (w:=false) (xs:=xs) m2 hg.fd)
  generalize fitE p.mt s.fed xs=e at *
  simp (disch:=((try simp only [lZ]); omega)) only [aZ,aM,s_plant_Plant_Feed,v_plant_Plant_Feed]
  refine hv.use ⟨h.ldr ok hg.ok,ld_slI H j v _ _ rfl hj,trivial⟩ rfl (aret_of ?_)
  simp (disch:=((try simp only [lZ]); omega)) only [aZ,aM,decide_eq_true he,r_plant_Plant_Feed]
  exact post2 (R:=fun r H'=>_) ⟨rfl,rfl⟩
theorem feed_sl {j v : Nat} {H : List Blk} {p : Pl} {ad : Ad} {s : Sy} (hp : pcheck p=0) (h : PM H p ad s) (hg : Gd p s) {xs : List Int} (hj : blkAt H j v=some (ints xs)) (hj2 : ¬ ftp p ad j) (he : fitE p.mt s.fed xs=0) : VR P false n_plant_Plant_Feed [.lp (ad .root).1 0 0,.sl j v 1 0 xs.length] H (fun r H'=>r=.v (.int .i64 0)∧PM H' p ad (feedS p s xs)∧Tr p H ad H' ad):=by
  refine vr_plant_Plant_Feed (by simp) (.inl rfl) fun _ _=>?_
  have ok:=pcheck_ok hp
  obtain ⟨m1,m2,m3⟩:=ok.mt1
  have hv:=(fits_vr (w:=false) (xs:=xs) m2 hg.fd)
  rw [he] at hv
  obtain ⟨hl,hxm⟩:=fitE_zero he
  have hfd:=ok.fd
  have ht : p.fd.toNat < p.ms.length:=by omega
  have hu : usd p (.bm p.fd.toNat)=true:=by simpa [usd] using ht
  have hr:=h.rt
  unfold rootC slA at hr
  have ltf:=h.lt (c:=.fed) rfl
  have ltr:=h.lt (c:=.root) rfl
  have nrf:=h.ne (c:=.root) (d:=.fed) rfl rfl (by simp)
  have qf:=h.get .fed rfl
  simp only [ctn] at qf
  have sm1 : Sm s.fed xs:=fun i _=>by have:=hg.fd.2 i; have:=hxm.2 i; omega
  have a1:=add_sl qf hj (fun hc=>hj2 ⟨.fed,rfl,hc.symm⟩) (hl.trans hg.fd.1.symm) sm1 (by rw [hg.fd.1]; omega)
  rw [hg.fd.1] at a1
  have P1 : PM (H.set (ad .fed).1 ⟨(ad .fed).2,ints (plusM s.fed xs)⟩) p ad (fedS s xs):=by
    have:=h.put (s':=fedS s xs) .fed rfl fun d hd _=>by
      cases d with
      | fed=>exact absurd rfl hd
      | _=>rfl
    simp only [ctn,fedS] at this
    exact this
  have T1 : Tr p H ad (H.set (ad .fed).1 ⟨(ad .fed).2,ints (plusM s.fed xs)⟩) ad:=Tr.one (c:=.fed) rfl (Gr.set (F:=one (ad .fed).1) _ _ _ rfl)
  have bl:=hg.ok.bef _ ht
  have kr:=P1.rt
  unfold rootC slA at kr
  have kb:=P1.get .bef rfl
  simp only [ctn] at kb
  have kl:=befC_len p ad
  have kn:=befC_nth p ad p.fd.toNat ht
  unfold slA at kn
  have qm:=P1.get _ hu
  simp only [ctn,fedS] at qm
  have sm2 : Sm (s.bef p.fd.toNat) xs:=fun i _=>by have:=bl.2 i; have:=hxm.2 i; omega
  have a2:=add_sl qm ((blkAt_set_ne _ _ _ _ _ (fun hc=>hj2 ⟨.fed,rfl,hc.symm⟩)).trans hj) (fun hc=>hj2 ⟨_,hu,hc.symm⟩) (hl.trans bl.1.symm) sm2 (by rw [bl.1]; omega)
  rw [bl.1] at a2
  simp (disch:=((try simp only [lZ]); omega)) only [aZ,aM,s_plant_Plant_Feed,v_plant_Plant_Feed]
  refine hv.use ⟨h.ldr ok hg.ok,ld_slI H j v _ _ rfl hj,trivial⟩ rfl (aret_of ?_)
  rw [hl] at *
  simp (disch:=((try simp only [lZ]); omega)) only [aZ,aM,hr]
  refine a1.mono ?_
  rintro r H' hH
  rw [hH]
  refine aret_of ?_
  simp (disch:=((try simp only [lZ]); omega)) only [aZ,aM,kr,kb,kl,kn]
  refine a2.mono ?_
  rintro r H2 hH2
  have P2 : PM H2 p ad (feedS p s xs):=by
    have:=P1.put (s':=feedS p s xs) (.bm p.fd.toNat) hu fun d hd _=>by
      cases d with
      | bm m=>simp only [ctn,feedS,fedS]; rw [updF_ne _ _ (fun hc=>hd (by rw [hc]))]
      | _=>rfl
    simp only [ctn,feedS,updF_same] at this
    rw [hH2]; exact this
  have T2 : Tr p H ad H2 ad:=by rw [hH2]; exact T1.trans (Tr.one hu (Gr.set (F:=one (ad (.bm p.fd.toNat)).1) _ _ _ rfl))
  clear hH2
  refine aret_of ?_
  simp (disch:=((try simp only [lZ]); omega)) only [aZ,aM,r_plant_Plant_Feed]
  exact post2 (R:=fun r H'=>r=.v (.int .i64 0)∧PM H' p ad (feedS p s xs)∧Tr p H ad H' ad) ⟨rfl,P2,T2⟩
def hltE (p : Pl) (m : Int) : Int:=if m < 0∨(p.ms.length : Int)≤m then 7 else if binN p m.toNat then 21 else 0
def hltS (s : Sy) (m : Int) (b : Bool) : Sy:={s with hal:=s.hal.set m.toNat b}
theorem halt_pm {H : List Blk} {p : Pl} {ad : Ad} {s : Sy} (ok : POk p) (h : PM H p ad s) (hg : Gd p s) (m : Int) (b : Bool) (he : hltE p m=0) : VR P false n_plant_Plant_Halt [.lp (ad .root).1 0 0,.v (.int .i64 m),.v (.bool b)] H (fun r H'=>r=.v (.int .i64 0)∧PM H' p ad (hltS s m b)∧Tr p H ad H' ad):=by
  refine vr_plant_Plant_Halt (by simp) (.inl rfl) fun _ _=>?_
  have hr:=h.rt
  unfold rootC slA at hr
  have h1 : ¬ (m < 0∨(p.ms.length : Int)≤m):=fun hc=>by unfold hltE at he; rw [if_pos hc] at he; cases he
  have h2 : ¬ binN p m.toNat:=fun hc=>by unfold hltE at he; rw [if_neg h1,if_pos hc] at he; cases he
  have kh:=h.get .hal rfl
  simp only [ctn] at kh
  have hl:=hg.hl
  have P1 : PM (H.set (ad .hal).1 ⟨(ad .hal).2,bools (s.hal.set m.toNat b)⟩) p ad (hltS s m b):=by
    have:=h.put (s':=hltS s m b) .hal rfl fun d hd _=>by
      cases d with
      | hal=>exact absurd rfl hd
      | _=>rfl
    simp only [ctn,hltS] at this
    exact this
  have T1 : Tr p H ad (H.set (ad .hal).1 ⟨(ad .hal).2,bools (s.hal.set m.toNat b)⟩) ad:=Tr.one (c:=.hal) rfl (Gr.set (F:=one (ad .hal).1) _ _ _ rfl)
  simp (disch:=((try simp only [lZ]); omega)) only [aZ,aM,s_plant_Plant_Halt,v_plant_Plant_Halt,hr,decide_eq_false h1]
  refine (bin_pm ok h m (by omega) (by omega)).mono ?_
  rintro r H' ⟨rfl,hH⟩
  rw [hH]
  refine aret_of ?_
  rw [decide_eq_false h2]
  simp (disch:=((try simp only [lZ]); omega)) only [aZ,aM,hr,kh,hl,r_plant_Plant_Halt]
  exact post2 (R:=fun r H'=>r=.v (.int .i64 0)∧PM H' p ad (hltS s m b)∧Tr p H ad H' ad) ⟨rfl,P1,T1⟩
def dnM (a b : List Int) (k : Nat) : List Int:=(List.range a.length).map fun i=>if i < k then a.getD i 0 - b.getD i 0 else a.getD i 0
theorem dnM_len (a b : List Int) (k : Nat) : (dnM a b k).length=a.length:=by simp [dnM]
theorem dnM_get (a b : List Int) (k i : Nat) (h : i < a.length) : (dnM a b k).getD i 0=if i < k then a.getD i 0 - b.getD i 0 else a.getD i 0:=by simp [dnM,List.getD_eq_getElem?_getD,h]
def badT (a b : List Int) (i : Nat) : Prop:=b.getD i 0 < 0∨a.getD i 0 < b.getD i 0
instance (a b : List Int) (i : Nat) : Decidable (badT a b i):=inferInstanceAs (Decidable (_∨_))
def takE (p : Pl) (s : Sy) (m : Int) (xs : List Int) : Int:=if fndE p m≠0 then fndE p m else if xs.length≠p.mt then 18 else if ∃ i,i < xs.length∧badT (s.bef m.toNat) xs i then 1 else 0
def takS (s : Sy) (m : Int) (xs : List Int) : Sy:={s with bef:=updF s.bef m.toNat (dnM (s.bef m.toNat) xs xs.length)}
def chkP (p : Pl) : Int:=if (drainR p).2≠0 then (drainR p).2 else if (drainR p).1=true then 0 else 23
theorem chkP_ok {p : Pl} (h : chkP p=0) : pcheck p=0∧drB p=true:=by
  by_cases hp : pcheck p=0
  · have hd : drainR p=(drB p,0):=by unfold drainR; rw [if_neg (fun hc=>hc hp)]
    unfold chkP at h
    rw [hd] at h
    cases hb : drB p with
    | true=>exact ⟨hp,rfl⟩
    | false=>rw [hb] at h; simp at h
  · have hd : drainR p=(false,pcheck p):=by unfold drainR; rw [if_pos hp]
    unfold chkP at h
    rw [hd] at h
    rw [if_pos hp] at h; exact absurd h hp
theorem plantCheck_vr {w v : Bool} (p : Pl) : VR P false n_plant_check [plA w v p] [] (isR (.v (.int .i64 (chkP p)))):=by
  refine vr_plant_check (by simp) (.inr rfl) fun _ _=>?_
  have hv:=layoutDrains_vr (w:=w) (v:=v) p
  unfold chkP
  unfold plA plC at hv ⊢
  simp (disch:=((try simp only [lZ]); omega)) only [aZ,aM,s_plant_check,v_plant_check]
  refine hv.same (by simp (disch:=first | omega | simp (disch:=omega) only [aG,aM]) only [fZ,aM]) rfl (aret_of ?_)
  generalize drainR p=d at *
  obtain ⟨d1,d2⟩:=d
  simp (disch:=((try simp only [lZ]); omega)) only [aZ,aM]
  refine ib_intro (fun h1=>?_) (fun h1=>?_)
  · rw [if_pos h1]
    simp (disch:=((try simp only [lZ]); omega)) only [aZ,aM,r_plant_check]
    exact post0 (Fz.refl (by simp (disch:=first | omega | simp (disch:=omega) only [aG,aM]) only [fZ,aM])) ⟨rfl,rfl⟩
  rw [if_neg h1]
  cases d1
  · simp (disch:=((try simp only [lZ]); omega)) only [aZ,aM,r_plant_check]
    exact post0 (Fz.refl (by simp (disch:=first | omega | simp (disch:=omega) only [aG,aM]) only [fZ,aM])) ⟨rfl,rfl⟩
  · simp (disch:=((try simp only [lZ]); omega)) only [aZ,aM,r_plant_check]
    exact post0 (Fz.refl (by simp (disch:=first | omega | simp (disch:=omega) only [aG,aM]) only [fZ,aM])) ⟨rfl,rfl⟩
theorem ref35Check_vr {w v : Bool} (p : Pl) : VR P false n_ref35_Check [plA w v p] [] (isR (.v (.int .i64 (chkP p)))):=by
  refine vr_ref35_Check (by simp) (.inr rfl) fun _ _=>?_
  have hv:=refDrains_vr (w:=w) (v:=v) p
  have hc:=ref34Check_vr (w:=w) (v:=v) p
  have e : chkP p=if pcheck p≠0 then pcheck p else if (drainR p).1=true then 0 else 23:=by
    unfold chkP drainR
    by_cases hp : pcheck p≠0
    · rw [if_pos hp]<;>simp [hp]
    · rw [if_neg hp,if_neg (by simp)]<;>simp [hp]
  rw [e]
  unfold plA plC at hv hc ⊢
  simp (disch:=((try simp only [lZ]); omega)) only [aZ,aM,s_ref35_Check,v_ref35_Check]
  refine hc.same (by simp (disch:=first | omega | simp (disch:=omega) only [aG,aM]) only [fZ,aM]) rfl (aret_of ?_)
  simp (disch:=((try simp only [lZ]); omega)) only [aZ,aM]
  refine ib_intro (fun h1=>?_) (fun h1=>?_)
  · rw [if_pos h1]
    simp (disch:=((try simp only [lZ]); omega)) only [aZ,aM,r_ref35_Check]
    exact post0 (Fz.refl (by simp (disch:=first | omega | simp (disch:=omega) only [aG,aM]) only [fZ,aM])) ⟨rfl,rfl⟩
  rw [if_neg h1]
  simp (disch:=((try simp only [lZ]); omega)) only [aZ,aM]
  refine hv.same (by simp (disch:=first | omega | simp (disch:=omega) only [aG,aM]) only [fZ,aM]) rfl (aret_of ?_)
  cases hd : (drainR p).1
  · simp (disch:=((try simp only [lZ]); omega)) only [aZ,aM,r_ref35_Check]
    exact post0 (Fz.refl (by simp (disch:=first | omega | simp (disch:=omega) only [aG,aM]) only [fZ,aM])) ⟨rfl,rfl⟩
  · simp (disch:=((try simp only [lZ]); omega)) only [aZ,aM,r_ref35_Check]
    exact post0 (Fz.refl (by simp (disch:=first | omega | simp (disch:=omega) only [aG,aM]) only [fZ,aM])) ⟨rfl,rfl⟩
def mxN : Nat→(Nat→Int)→Int
  | 0,_=>0
  | n+1,f=>max (mxN n f) (f n)
def lngP (p : Pl) (k : Nat) : Int:=mxN k fun i=>(p.bs.getD i b0).ln
theorem lng_bd {p : Pl} (ok : POk p) : ∀ k,k≤p.bs.length→0≤lngP p k∧lngP p k≤16
  | 0,_=>by simp [lngP,mxN]
  | k+1,h=>by
    have ih:=lng_bd ok k (by omega)
    have:=ok.bt _ (mem_get b0 (show k < p.bs.length by omega))
    unfold lngP at ih ⊢
    simp only [mxN]
    omega
def hgI (p : Pl) (m : Nat) (h : Int) : Nat→Int
  | 0=>h
  | x+1=>max (hgI p m h x) (heightR p m x).1
def hgO (p : Pl) : Nat→Int
  | 0=>0
  | m+1=>hgI p m (hgO p m) p.mt
def perP (p : Pl) : Int:=lngP p p.bs.length+hgO p p.ms.length
theorem height_ok {p : Pl} (h : chkP p=0) {m x : Nat} (hm : m < p.ms.length) (hx : x < p.mt) : (heightR p m x).2=0∧0≤(heightR p m x).1∧(heightR p m x).1≤1000000:=by
  obtain ⟨hp,hd⟩:=chkP_ok h
  have ok:=pcheck_ok hp
  obtain ⟨m1,m2,m3⟩:=ok.mt1
  have hw : (wayV p x m).2=true:=by
    unfold drB at hd
    rw [List.all_eq_true] at hd
    have h1:=hd m (List.mem_range.2 hm)
    rw [List.all_eq_true] at h1
    exact h1 x (List.mem_range.2 hx)
  unfold heightR
  rw [if_neg (fun hc=>hc hp),if_neg (by omega),if_neg (by omega),Int.toNat_natCast,hw,if_neg (by decide)]
  refine ⟨rfl,?_⟩
  rcases wayR_cases ok (mt:=x) (by omega) (by omega) hm with ⟨k,k1,k2,k3,k4⟩ | ⟨k1,k2⟩
  · have hf:=farR_bd ok (mt:=x) (by omega) (by omega) hm k k2
    have hn:=ok.n2
    have : wayV p x m=(farR p x m k,true):=k4
    rw [this]
    simp only
    omega
  · have : wayV p x m=(0,false):=k2
    rw [this] at hw; cases hw
theorem hgI_bd {p : Pl} (h : chkP p=0) {m : Nat} (hm : m < p.ms.length) {h0 : Int} (hh : 0≤h0∧h0≤1000000) : ∀ x,x≤p.mt→0≤hgI p m h0 x∧hgI p m h0 x≤1000000
  | 0,_=>hh
  | x+1,hx=>by
    have ih:=hgI_bd h hm hh x (by omega)
    have:=(height_ok h hm (x:=x) (by omega)).2
    simp only [hgI]
    omega
theorem hgO_bd {p : Pl} (h : chkP p=0) : ∀ m,m≤p.ms.length→0≤hgO p m∧hgO p m≤1000000
  | 0,_=>by simp [hgO]
  | m+1,hm=>hgI_bd h (by omega) (hgO_bd h m (by omega)) _ (Nat.le_refl _)
def bndR (p : Pl) (g : Int) : Int×Int:=if chkP p≠0 then (0,chkP p) else if g < 0∨1073741824 < g then (0,1) else (g*perP p,0)
theorem bnd_mul {p : Pl} (h : chkP p=0) {g : Int} (hg : ¬ (g < 0∨1073741824 < g)) : 0≤g*perP p∧g*perP p≤2000000000000000∧0≤perP p∧perP p≤1000016:=by
  have ok:=pcheck_ok (chkP_ok h).1
  have q1:=lng_bd ok p.bs.length (Nat.le_refl _)
  have q2:=hgO_bd h p.ms.length (Nat.le_refl _)
  have q3 : 0≤perP p∧perP p≤1000016:=by unfold perP; omega
  have h1:=Int.mul_nonneg (show 0≤g by omega) q3.1
  have h2 : g*perP p≤1073741824*1000016:=Int.mul_le_mul (by omega) q3.2 q3.1 (by omega)
  omega
theorem plantBound_vr {w v : Bool} (p : Pl) (g : Int) : VR P false n_plant_Bound [plA w v p,.v (.int .i64 g)] [] (isR (.tup [.v (.int .i64 (bndR p g).1),.v (.int .i64 (bndR p g).2)])):=by
  refine vr_plant_Bound (by simp) (.inr rfl) fun _ _=>?_
  have hc:=plantCheck_vr (w:=w) (v:=v) p
  unfold bndR
  by_cases h : chkP p=0
  · obtain ⟨hp,hd⟩:=chkP_ok h
    have ok:=pcheck_ok hp
    obtain ⟨m1,m2,m3⟩:=ok.mt1
    have n2:=ok.n2
    have b2:=ok.b2
    have hh:=fun m x=>layoutHeight_vr (w:=w) (v:=v) p m x
    rw [if_neg (fun hc=>hc h)]
    rw [h] at hc
    unfold plA plC at hc hh ⊢
    rw [m3] at hc ⊢
    simp only [m3] at hh
    simp (disch:=((try simp only [lZ]); omega)) only [aZ,aM,s_plant_Bound,v_plant_Bound]
    refine hc.same (by simp (disch:=first | omega | simp (disch:=omega) only [aG,aM]) only [fZ,aM]) rfl (aret_of ?_)
    by_cases hg : g < 0∨1073741824 < g
    · rw [if_pos hg]
      simp (disch:=((try simp only [lZ]); omega)) only [aZ,aM,decide_eq_true hg,r_plant_Bound]
      exact post0 (Fz.refl (by simp (disch:=first | omega | simp (disch:=omega) only [aG,aM]) only [fZ,aM])) ⟨rfl,rfl⟩
    have hm:=bnd_mul h hg
    rw [if_neg hg]
    simp (disch:=((try simp only [lZ]); omega)) only [aZ,aM,decide_eq_false hg]
    refine AWP.loopM g_plant_Bound_0 (fun x : Nat×List Blk=>x.1≤p.bs.length∧blkAt x.2 0 0=some [.v (.int .i64 p.mt),.fs w (mcs w p.ms),.fs v (bts p.bs),.v (.int .i64 p.fd)]) (fun x=>[(6,.v (.int .i64 (lngP p x.1))),(8,.v (.int .i64 x.1))]) (fun x=>x.2) (fun x=>p.bs.length - x.1) (0,[⟨0,[.v (.int .i64 p.mt),.fs w (mcs w p.ms),.fs v (bts p.bs),.v (.int .i64 p.fd)]⟩]) ⟨by omega,rfl⟩ ?_ ?_
    · exact Cut.fg (by simp (disch:=first | omega | simp (disch:=omega) only [aG,aM]) only [fZ,aM,fgl_nil,fgl_cons,or_true,true_or,lngP,mxN])
    rintro ⟨k,K⟩ ⟨hk,kR⟩
    simp only at hk kR
    have lK:=blkAt_lt kR
    by_cases hlt : k < p.bs.length
    · have hbl:=lng_bd ok k hk
      have e : lngP p (k+1)=max (lngP p k) (p.bs.getD k b0).ln:=rfl
      simp (disch:=((try simp only [lZ]); omega)) only [aZ,aM]
      refine ⟨(k+1,K++[⟨0,[.v (.int .i64 (p.bs.getD k b0).fr),.v (.int .i64 (p.bs.getD k b0).ot),.v (.int .i64 (p.bs.getD k b0).to),.v (.int .i64 (p.bs.getD k b0).ln)]⟩]),⟨by simp only; omega,by simp only; rw [blkAt_app _ _ _ _ lK]; exact kR⟩,by simp only; omega,?_⟩
      simp only
      rw [e]
      try simp (disch:=((try simp only [lZ]); omega)) only [aZ,aM]
      exact Cut.fg (by simp (disch:=first | omega | simp (disch:=omega) only [aG,aM]) only [fZ,aM,fgl_nil,fgl_cons,or_true,true_or])
    have hke : k=p.bs.length:=by omega
    rw [hke]
    simp (disch:=((try simp only [lZ]); omega)) only [aZ,aM,kR]
    refine AWP.loopP g_plant_Bound_1 (fun m : Nat=>m≤p.ms.length) (fun m=>[(2,.v (.int .i64 0)),(3,.v (.int .i64 0)),(7,.v (.int .i64 (hgO p m))),(13,.v (.int .i64 m))]) (fun _=>[]) (fun m=>p.ms.length - m) 0 (by omega) ?_ ?_
    · exact Cut.fg (by simp (disch:=first | omega | simp (disch:=omega) only [aG,aM]) only [fZ,aM,fgl_nil,fgl_cons,or_true,true_or,hgO])
    rintro m hm2
    by_cases hmt : m < p.ms.length
    · simp (disch:=((try simp only [lZ]); omega)) only [aZ,aM,kR]
      refine AWP.loopP g_plant_Bound_2 (fun x : Nat=>x≤p.mt) (fun x=>[(2,.v (.int .i64 0)),(3,.v (.int .i64 0)),(7,.v (.int .i64 (hgI p m (hgO p m) x))),(17,.v (.int .i64 x))]) (fun _=>[]) (fun x=>p.mt - x) 0 (by omega) ?_ ?_
      · exact Cut.fg (by simp (disch:=first | omega | simp (disch:=omega) only [aG,aM]) only [fZ,aM,fgl_nil,fgl_cons,or_true,true_or,hgI])
      rintro x hx
      by_cases hxt : x < p.mt
      · have e : hgI p m (hgO p m) (x+1)=max (hgI p m (hgO p m) x) (heightR p m x).1:=rfl
        have hz:=(height_ok h hmt hxt).1
        have hhx:=hh m x
        rw [hz] at hhx
        simp (disch:=((try simp only [lZ]); omega)) only [aZ,aM,kR]
        refine hhx.same (by simp (disch:=first | omega | simp (disch:=omega) only [aG,aM]) only [fZ,aM]) rfl (aret_of ?_)
        simp (disch:=((try simp only [lZ]); omega)) only [aZ,aM]
        refine ⟨x+1,by omega,by omega,?_⟩
        rw [e]
        try simp (disch:=((try simp only [lZ]); omega)) only [aZ,aM]
        exact Cut.fg (by simp (disch:=first | omega | simp (disch:=omega) only [aG,aM]) only [fZ,aM,fgl_nil,fgl_cons,or_true,true_or])
      · have hxe : x=p.mt:=by omega
        rw [hxe]
        simp (disch:=((try simp only [lZ]); omega)) only [aZ,aM]
        refine ⟨m+1,by omega,by omega,?_⟩
        have e : hgO p (m+1)=hgI p m (hgO p m) p.mt:=rfl
        rw [e]
        try simp (disch:=((try simp only [lZ]); omega)) only [aZ,aM]
        exact Cut.fg (by simp (disch:=first | omega | simp (disch:=omega) only [aG,aM]) only [fZ,aM,fgl_nil,fgl_cons,or_true,true_or])
    · have hme : m=p.ms.length:=by omega
      have q1:=lng_bd ok p.bs.length (Nat.le_refl _)
      have q2:=hgO_bd h p.ms.length (Nat.le_refl _)
      unfold perP at *
      rw [hme]
      simp (disch:=((try simp only [lZ]); omega)) only [aZ,aM,r_plant_Bound]
      exact post0 (Fz.refl (by simp (disch:=first | omega | simp (disch:=omega) only [aG,aM]) only [fZ,aM])) ⟨rfl,rfl⟩
  · rw [if_pos h]
    generalize chkP p=e at *
    unfold plA plC at *
    simp (disch:=((try simp only [lZ]); omega)) only [aZ,aM,s_plant_Bound,v_plant_Bound]
    refine hc.same (by simp (disch:=first | omega | simp (disch:=omega) only [aG,aM]) only [fZ,aM]) rfl (aret_of ?_)
    simp (disch:=((try simp only [lZ]); omega)) only [aZ,aM,decide_eq_true h,r_plant_Bound]
    exact post0 (Fz.refl (by simp (disch:=first | omega | simp (disch:=omega) only [aG,aM]) only [fZ,aM])) ⟨rfl,rfl⟩
end Go.Proofs.YtdkoindoljngmaaGreat
