/- Lemmas and walks that the proof of TopControlPlant uses. No statement is claimed here. -/
import Derived.Test.YtdkoindoljngmaaGreatTopControlPlantZaq
namespace Go.Proofs.YtdkoindoljngmaaGreat
open Go Go.Lft
set_option linter.unusedSimpArgs false
set_option linter.unusedVariables false
attribute [local congr] ob_congr bw_congr ib_congr ck_congr iwA_congr itA_congr aw_congr awp_congr sqA_congr bkA_congr vr_congr gd_congr
theorem grp_ok {c : Cn} (h : CnOk c) {m : Int} (h0 : 0≤m) (h1 : m < c.n) : (grp c.G m).length≤64∧∀ x∈grp c.G m,0≤x∧x < c.n:=by
  obtain ⟨g1,g2,g3⟩:=ofN_mem h.gp h0 h1
  exact ⟨h.G2 (by omega),h.gp.rng _ (by omega)⟩
theorem of_get {c : Cn} {x : Int} (h0 : 0≤x) (h1 : x < c.n) : c.of.getD x.toNat 0=ofN c.G c.G.length x:=by
  unfold Cn.of; rw [tabI_get _ _ _ (by omega),Int.toNat_of_nonneg h0]
theorem of_mem {c : Cn} (h : CnOk c) {m x : Int} (h0 : 0≤m) (h1 : m < c.n) (h2 : 0≤x) (h3 : x < c.n) : ofN c.G c.G.length x=ofN c.G c.G.length m↔x∈grp c.G m:=by
  obtain ⟨g1,g2,g3⟩:=ofN_mem h.gp h0 h1
  have:=ofN_iff h.gp h2 h3 (k:=(ofN c.G c.G.length m).toNat) (by omega)
  rw [Int.toNat_of_nonneg g1] at this
  exact this
theorem jam_hit {st r : List Int} {k : Nat} (hk : k < r.length) (h : st.getD (r.getD k 0).toNat 0=2) : jamP st r:=⟨_,mem_get 0 hk,h⟩
theorem jam_none {st r : List Int} (h : ∀ i,i < r.length→¬ st.getD (r.getD i 0).toNat 0=2) : ¬ jamP st r:=by
  rintro ⟨x,hx,h2⟩
  obtain ⟨i,hi,rfl⟩:=get_mem 0 hx
  exact h i hi h2
def blk1 (r st : List Int) (a : Int×Int) : Prop:=a.1∈r∧a.2 ∉ r∧st.getD a.2.toNat 0≠1
theorem blk_hit {l : Arcs} {r st : List Int} {k : Nat} (hk : k < l.length) (h : blk1 r st (l.getD k (0,0))) : blkP l r st:=⟨_,mem_get (0,0) hk,h⟩
theorem blk_none {l : Arcs} {r st : List Int} (h : ∀ i,i < l.length→¬ blk1 r st (l.getD i (0,0))) : ¬ blkP l r st:=by
  rintro ⟨x,hx,h2⟩
  obtain ⟨i,hi,rfl⟩:=get_mem (0,0) hx
  exact h i hi h2
theorem start_ps {H : List Blk} {i j : Nat} {c : Cn} {st : List Int} (ok : CnOk c) (h : PS H i j c st) (m : Int) : VR P false n_control_Panel_Start [.lp i 0 0,.v (.int .i64 m)] H (fun r H'=>r=.v (.int .i64 (startR c st m).1)∧H'=H.set j ⟨0,ints (startR c st m).2⟩):=by
  refine vr_control_Panel_Start (by simp) (.inl rfl) fun hb _=>?_
  have hi:=h.hi
  have hj:=h.hj
  have sl:=h.sl
  have hs:=set_self hj
  have lt:=blkAt_lt hj
  have lti:=blkAt_lt h.hi
  have n1:=ok.n1
  have l1:=ok.l1
  have g1:=ok.G1
  have ol:=c.of_len
  unfold panC at hi
  unfold startR
  simp (disch:=((try simp only [lZ]); omega)) only [aZ,aM,s_control_Panel_Start,v_control_Panel_Start]
  refine (find_ps h m).mono ?_
  rintro r H' ⟨rfl,hH⟩
  rw [hH]
  refine aret_of ?_
  by_cases hm : c.bad m
  · rw [if_pos hm,if_pos hm]
    simp (disch:=((try simp only [lZ]); omega)) only [aZ,aM,r_control_Panel_Start]
    exact post2 (R:=fun r H'=>_) ⟨rfl,hs.symm⟩
  rw [if_neg hm,if_neg hm]
  unfold Cn.bad at hm
  obtain ⟨q1,q2,q3⟩:=ofN_mem ok.gp (x:=m) (by omega) (by omega)
  obtain ⟨r1,r2⟩:=grp_ok ok (m:=m) (by omega) (by omega)
  have og:=of_get (c:=c) (x:=m) (by omega) (by omega)
  have om:=fun x h2 h3=>of_mem ok (m:=m) (x:=x) (by omega) (by omega) h2 h3
  have hgr : c.G.getD (ofN c.G c.G.length m).toNat []=grp c.G m:=rfl
  generalize hr : grp c.G m=r at *
  generalize hg : ofN c.G c.G.length m=g at *
  simp (disch:=((try simp only [lZ]); omega)) only [aZ,aM,hi,hj,og,hgr]
  refine AWP.loopP g_control_Panel_Start_0 (fun k : Nat=>k≤r.length∧∀ i,i < k→¬ st.getD (r.getD i 0).toNat 0=2) (fun k=>[(2,.v (.int .i64 0)),(5,.v (.int .i64 k))]) (fun _=>[]) (fun k=>r.length - k) 0 ⟨by omega,fun i hi=>by omega⟩ ?_ ?_
  · exact Cut.same (Nat.le_refl _) hb (by simp (disch:=first | omega | simp (disch:=omega) only [aG,aM]) only [fZ,aM])
  rintro k ⟨hk,hn⟩
  by_cases hlt : k < r.length
  · have hx:=r2 _ (mem_get 0 hlt)
    simp (disch:=((try simp only [lZ]); omega)) only [aZ,aM,hi,hj]
    refine ib_intro (fun h3=>?_) (fun h3=>?_)
    · rw [if_pos (jam_hit hlt h3)]
      simp (disch:=((try simp only [lZ]); omega)) only [aZ,aM,r_control_Panel_Start]
      exact post2 (R:=fun r H'=>_) ⟨rfl,hs.symm⟩
    · simp (disch:=((try simp only [lZ]); omega)) only [aZ,aM]
      refine ⟨k+1,⟨by omega,fun i hi=>?_⟩,by omega,?_⟩
      · rcases Nat.lt_succ_iff_lt_or_eq.1 hi with h | rfl
        · exact hn i h
        · exact h3
      · exact Cut.same (Nat.le_refl _) hb (by simp (disch:=first | omega | simp (disch:=omega) only [aG,aM]) only [fZ,aM])
  have hke : k=r.length:=by omega
  subst hke
  rw [if_neg (jam_none hn)]
  simp (disch:=((try simp only [lZ]); omega)) only [aZ,aM,hi,hj]
  refine AWP.loopP g_control_Panel_Start_1 (fun k : Nat=>k≤c.l.length∧∀ i,i < k→¬ blk1 r st (c.l.getD i (0,0))) (fun k=>[(2,.v (.int .i64 0)),(10,.v (.int .i64 k))]) (fun _=>[]) (fun k=>c.l.length - k) 0 ⟨by omega,fun i hi=>by omega⟩ ?_ ?_
  · exact Cut.same (Nat.le_refl _) hb (by simp (disch:=first | omega | simp (disch:=omega) only [aG,aM]) only [fZ,aM])
  rintro k ⟨hk,hn2⟩
  by_cases hlt2 : k < c.l.length
  · obtain ⟨a1,a2⟩:=ok.r _ (mem_get (0,0) hlt2)
    have o1:=of_get (c:=c) a1.1 a1.2
    have o2:=of_get (c:=c) a2.1 a2.2
    have m1:=om _ a1.1 a1.2
    have m2:=om _ a2.1 a2.2
    simp (disch:=((try simp only [lZ]); omega)) only [aZ,aM,hi,hj,o1,o2]
    refine ib_intro (fun h3=>?_) (fun h3=>?_)
    · rw [if_pos (blk_hit hlt2 ⟨m1.1 h3.1.1,fun hc=>h3.1.2 (m2.2 hc),h3.2⟩)]
      simp (disch:=((try simp only [lZ]); omega)) only [aZ,aM,r_control_Panel_Start]
      exact post1 (R:=fun r H'=>_) (Nat.le_refl _) hb (Fz.refl rfl) ⟨rfl,hs.symm⟩
    · simp (disch:=((try simp only [lZ]); omega)) only [aZ,aM]
      refine ⟨k+1,⟨by omega,fun i hi=>?_⟩,by omega,?_⟩
      · rcases Nat.lt_succ_iff_lt_or_eq.1 hi with h | rfl
        · exact hn2 i h
        · exact fun hc=>h3 ⟨⟨m1.2 hc.1,fun he=>hc.2.1 (m2.1 he)⟩,hc.2.2⟩
      · exact Cut.app (Nat.le_refl _) hb (by simp (disch:=first | omega | simp (disch:=omega) only [aG,aM]) only [fZ,aM])
  have hke2 : k=c.l.length:=by omega
  subst hke2
  rw [if_neg (blk_none hn2)]
  simp (disch:=((try simp only [lZ]); omega)) only [aZ,aM,hi,hj,hgr]
  refine AWP.loopP g_control_Panel_Start_2 (fun k : Nat=>k≤r.length) (fun k=>[(15,.v (.int .i64 k))]) (fun k=>[(j,⟨0,ints (setG st (r.take k) 1)⟩)]) (fun k=>r.length - k) 0 (by omega) ?_ ?_
  · rw [List.take_zero,setG_nil]
    simp (disch:=((try simp only [lZ]); omega)) only [aZ,aM,hs]
    exact Cut.same (Nat.le_refl _) hb (by simp (disch:=first | omega | simp (disch:=omega) only [aG,aM]) only [fZ,aM])
  rintro k hk3
  have hq:=h.set (setG st (r.take k) 1) (by rw [setG_len]; exact sl)
  have hqi:=hq.hi
  have hqj:=hq.hj
  unfold panC at hqi
  have fl:=setG_len 1 (r.take k) st
  have hb' : ∀ st' : List Int,okB (H.set j ⟨0,ints st'⟩).length (H.set j ⟨0,ints st'⟩):=fun st'=>by rw [List.length_set]; exact okB.set hb (ii_bd _ _)
  by_cases hlt3 : k < r.length
  · have hx:=r2 _ (mem_get 0 hlt3)
    have e1 : setG st (r.take (k+1)) 1=(setG st (r.take k) 1).set (r.getD k 0).toNat 1:=by rw [take_succ_get' r k 0 hlt3,setG_snoc]
    simp (disch:=((try simp only [lZ]); omega)) only [aZ,aM,hqi,hqj,← e1]
    refine ⟨k+1,by omega,by omega,?_⟩
    try simp (disch:=((try simp only [lZ]); omega)) only [aZ,aM]
    exact Cut.same (by rw [List.length_set]; exact Nat.le_refl _) (hb' _) (by simp (disch:=first | omega | simp (disch:=omega) only [aG,aM]) only [fZ,aM])
  · have hke3 : k=r.length:=by omega
    subst hke3
    rw [List.take_length]
    simp (disch:=((try simp only [lZ]); omega)) only [aZ,aM,r_control_Panel_Start]
    exact post2 (R:=fun r H'=>_) ⟨rfl,rfl⟩
theorem safe1_vr {c : Cn} {st : List Int} (ok : CnOk c) (sl : st.length=c.n) (a : Int×Int) (ha : (0≤a.1∧a.1 < c.n)∧0≤a.2∧a.2 < c.n) : VR P false n_control_Panel_Safe_1 [pairA a,.fp false [.fp false [.v (.int .i64 c.n),.fs true (pairs c.l),.fs true (rows true c.G),.fs true (ints c.of),.fs false (ints st)]]] [] (isR (.v (.bool (decide (unsP st a))))):=by
  refine vr_control_Panel_Safe_1 (by simp) (.inr rfl) fun _ _=>?_
  unfold pairA unsP
  simp (disch:=((try simp only [lZ]); omega)) only [aZ,aM,s_control_Panel_Safe_1,v_control_Panel_Safe_1,r_control_Panel_Safe_1]
  exact post_v ⟨rfl,rfl⟩
theorem indexUns_vr {c : Cn} {st : List Int} (ok : CnOk c) (sl : st.length=c.n) : VR P false n_slices_IndexFuncapi_Arc_api_Arc [.fs true (pairs c.l),.fn n_control_Panel_Safe_1 [.fp false [.fp false [.v (.int .i64 c.n),.fs true (pairs c.l),.fs true (rows true c.G),.fs true (ints c.of),.fs false (ints st)]]]] [] (isR (.v (.int .i64 (idxE (unsP st) c.l)))):=by
  refine vr_slices_IndexFuncapi_Arc_api_Arc (by simp) (.inr rfl) fun _ _=>?_
  have l1:=ok.l1
  simp (disch:=((try simp only [lZ]); omega)) only [aZ,aM,s_slices_IndexFuncapi_Arc_api_Arc,v_slices_IndexFuncapi_Arc_api_Arc]
  refine AWP.loopP g_slices_IndexFuncapi_Arc_api_Arc_0 (fun k : Nat=>k≤c.l.length∧∀ i,i < k→¬ unsP st (c.l.getD i (0,0))) (fun k=>[(2,.v (.int .i64 0)),(3,.v (.int .i64 k))]) (fun _=>[]) (fun k=>c.l.length - k) 0 ⟨by omega,fun i hi=>by omega⟩ ?_ ?_
  · exact Cut.of' 0 rfl (by omega) (by simp (disch:=first | omega | simp (disch:=omega) only [aG,aM]) only [fZ,aM]) (by simp (disch:=first | omega | simp (disch:=omega) only [aG,aM]) only [fZ,aM])
  rintro k ⟨hk,hb⟩
  by_cases hlt : k < c.l.length
  · have hv:=safe1_vr ok sl (c.l.getD k (0,0)) (ok.r _ (mem_get (0,0) hlt))
    unfold pairA at hv
    simp (disch:=((try simp only [lZ]); omega)) only [aZ,aM]
    refine ⟨by kernel_rfl,?_⟩
    refine hv.same (by simp (disch:=first | omega | simp (disch:=omega) only [aG,aM]) only [fZ,aM]) rfl (aret_of ?_)
    simp (disch:=((try simp only [lZ]); omega)) only [aZ,aM]
    refine ib_intro (fun h3=>?_) (fun h3=>?_)
    · simp (disch:=((try simp only [lZ]); omega)) only [aZ,aM,r_slices_IndexFuncapi_Arc_api_Arc]
      exact post_v ⟨by rw [idxE_hit (p:=unsP st) (0,0) hlt hb h3],rfl⟩
    · simp (disch:=((try simp only [lZ]); omega)) only [aZ,aM]
      refine ⟨k+1,⟨by omega,fun i hi=>?_⟩,by omega,?_⟩
      · rcases Nat.lt_succ_iff_lt_or_eq.1 hi with h | rfl
        · exact hb i h
        · exact h3
      · exact Cut.of' 0 rfl (by omega) (by simp (disch:=first | omega | simp (disch:=omega) only [aG,aM]) only [fZ,aM]) (by simp (disch:=first | omega | simp (disch:=omega) only [aG,aM]) only [fZ,aM])
  · simp (disch:=((try simp only [lZ]); omega)) only [aZ,aM,r_slices_IndexFuncapi_Arc_api_Arc]
    exact post_v ⟨by rw [idxE_none (p:=unsP st) (0,0) fun i hi=>hb i (by omega)],rfl⟩
theorem containsUns_vr {c : Cn} {st : List Int} (ok : CnOk c) (sl : st.length=c.n) : VR P false n_slices_ContainsFuncapi_Arc_api_Arc [.fs true (pairs c.l),.fn n_control_Panel_Safe_1 [.fp false [.fp false [.v (.int .i64 c.n),.fs true (pairs c.l),.fs true (rows true c.G),.fs true (ints c.of),.fs false (ints st)]]]] [] (isR (.v (.bool (decide (¬ safeP c st))))):=by
  refine vr_slices_ContainsFuncapi_Arc_api_Arc (by simp) (.inr rfl) fun _ _=>?_
  simp (disch:=((try simp only [lZ]); omega)) only [aZ,aM,s_slices_ContainsFuncapi_Arc_api_Arc,v_slices_ContainsFuncapi_Arc_api_Arc]
  refine (indexUns_vr ok sl).same (by simp (disch:=first | omega | simp (disch:=omega) only [aG,aM]) only [fZ,aM]) rfl (aret_of ?_)
  simp (disch:=((try simp only [lZ]); omega)) only [aZ,aM,r_slices_ContainsFuncapi_Arc_api_Arc]
  refine post_v ⟨vdec ?_,rfl⟩
  rw [show (0≤idxE (unsP st) c.l)↔_ from idxE_mem]
  unfold safeP
  constructor
  · rintro ⟨x,h1,h2⟩ h3; exact h3 x h1 h2
  · intro h3
    apply Classical.byContradiction; intro h4
    exact h3 fun a ha hu=>h4 ⟨a,ha,hu⟩
theorem safe_ps {H : List Blk} {i j : Nat} {c : Cn} {st : List Int} (ok : CnOk c) (h : PS H i j c st) : VR P false n_control_Panel_Safe [.lp i 0 0] H (fun r H'=>r=.v (.bool (decide (safeP c st)))∧H'=H):=by
  refine vr_control_Panel_Safe (by simp) (.inl rfl) fun hb _=>?_
  have hi:=h.hi
  have hj:=h.hj
  have sl:=h.sl
  have lt:=blkAt_lt hj
  have lti:=blkAt_lt h.hi
  unfold panC at hi
  simp (disch:=((try simp only [lZ]); omega)) only [aZ,aM,s_control_Panel_Safe,v_control_Panel_Safe,hi]
  have hi' : blkAt (H++[⟨0,[.lp i 0 0]⟩]) i 0=_:=(blkAt_app _ _ _ _ lti).trans hi
  have hj' : blkAt (H++[⟨0,[.lp i 0 0]⟩]) j 0=_:=(blkAt_app _ _ _ _ lt).trans hj
  have hn' : blkAt (H++[⟨0,[.lp i 0 0]⟩]) H.length 0=some [.lp i 0 0]:=by rw [blkAt_new0]; rfl
  have hl1 : Ld (H++[⟨0,[.lp i 0 0]⟩]) (.lp i 0 0) (.fp false [.v (.int .i64 c.n),.fs true (pairs c.l),.fs true (rows true c.G),.fs true (ints c.of),.fs false (ints st)]) :=
    Ld.lp (o:=0) hi' (r:=[.v (.int .i64 c.n),.fs true (pairs c.l),.fs true (rows true c.G),.fs true (ints c.of),.fs false (ints st)]) ⟨Ld.refl rfl,Ld.refl (by simp (disch:=first | omega | simp (disch:=omega) only [aG,aM]) only [fZ,aM]),Ld.refl (by simp (disch:=first | omega | simp (disch:=omega) only [aG,aM]) only [fZ,aM]),Ld.refl (by simp (disch:=first | omega | simp (disch:=omega) only [aG,aM]) only [fZ,aM]),ld_slI _ j 0 _ st sl.symm hj',trivial⟩ (by simp)
  have hl2 : Ld (H++[⟨0,[.lp i 0 0]⟩]) (.lp H.length 0 0) (.fp false [.fp false [.v (.int .i64 c.n),.fs true (pairs c.l),.fs true (rows true c.G),.fs true (ints c.of),.fs false (ints st)]]) :=
    Ld.lp (o:=0) hn' (r:=[_]) ⟨hl1,trivial⟩ (by simp)
  refine (containsUns_vr ok sl).use ⟨Ld.refl (by simp (disch:=first | omega | simp (disch:=omega) only [aG,aM]) only [fZ,aM]),Ld.fn ⟨hl2,trivial⟩,trivial⟩ rfl (aret_of ?_)
  simp (disch:=((try simp only [lZ]); omega)) only [aZ,aM,r_control_Panel_Safe]
  refine post1 (R:=fun r H'=>_) (Nat.le_refl _) hb (Fz.refl rfl) ⟨?_,rfl⟩
  by_cases hs : safeP c st
  · simp [hs,retA]
  · simp [hs,retA]
def feedP (l : Arcs) (r : List Int) (m : Int) : Prop:=m ∉ r∧∃ a∈l,a.2=m∧a.1∈r
instance (l : Arcs) (r : List Int) (m : Int) : Decidable (feedP l r m):=by unfold feedP; infer_instance
def refC (c : Cn) (j : Nat) : List A:=[.v (.int .i64 c.n),.fs true (pairs c.l),.fs true (rows true c.G),.sl j 0 1 0 c.n]
structure RS (H : List Blk) (i j : Nat) (c : Cn) (st : List Int) : Prop where
  hi : blkAt H i 0=some (refC c j)
  hj : blkAt H j 0=some (ints st)
  ne : i≠j
  sl : st.length=c.n
theorem RS.set {H : List Blk} {i j : Nat} {c : Cn} {st : List Int} (h : RS H i j c st) (st' : List Int) (hl : st'.length=c.n) : RS (H.set j ⟨0,ints st'⟩) i j c st' :=
  ⟨by rw [blkAt_set_ne _ _ _ _ _ h.ne]; exact h.hi,blkAt_set_same _ _ _ _ (blkAt_lt h.hj),h.ne,hl⟩
end Go.Proofs.YtdkoindoljngmaaGreat
namespace Go.Proofs.YtdkoindoljngmaaGreat
open Go Go.Lft
set_option linter.unusedSimpArgs false
set_option linter.unusedVariables false
def Cn.no (c : Cn) (x : Int) : Nat:=(ofN c.G c.G.length x).toNat
def freeP (c : Cn) (T : Nat→Bool) (i : Nat) : Prop:=T i=false∧∀ a∈c.l,c.no a.1=i→c.no a.2=i∨T (c.no a.2)=true
instance (c : Cn) (T : Nat→Bool) : DecidablePred (freeP c T):=fun i=>by unfold freeP; infer_instance
def nextG (c : Cn) (T : Nat→Bool) : Int:=idxE (freeP c T) (List.range c.G.length)
theorem range_get {n k : Nat} (h : k < n) : (List.range n).getD k 0=k:=by simp [List.getD_eq_getElem?_getD,h]
theorem next_hit {c : Cn} {T : Nat→Bool} {k : Nat} (hk : k < c.G.length) (hb : ∀ i,i < k→¬ freeP c T i) (hp : freeP c T k) : nextG c T=k :=
  idxE_hit (p:=freeP c T) 0 (by simpa using hk) (fun i hi=>by rw [range_get (by omega)]; exact hb i hi) (by rw [range_get hk]; exact hp)
theorem next_none {c : Cn} {T : Nat→Bool} (hb : ∀ i,i < c.G.length→¬ freeP c T i) : nextG c T=-1 :=
  idxE_none (p:=freeP c T) 0 fun i hi=>by
    simp only [List.length_range] at hi
    rw [range_get hi]; exact hb i hi
theorem next_lt (c : Cn) (T : Nat→Bool) : -1≤nextG c T∧nextG c T < c.G.length:=by
  have:=idxE_ge (freeP c T) (List.range c.G.length)
  rw [List.length_range] at this; exact this
theorem next_at {c : Cn} {T : Nat→Bool} (h : 0≤nextG c T) : freeP c T (nextG c T).toNat:=by
  have h1:=idxE_at (p:=freeP c T) 0 h
  have h2:=next_lt c T
  have h3 : (idxE (freeP c T) (List.range c.G.length)).toNat=(nextG c T).toNat:=rfl
  rw [h3,range_get (by omega)] at h1; exact h1
theorem next_neg {c : Cn} {T : Nat→Bool} (h : nextG c T < 0) {i : Nat} (hi : i < c.G.length) : ¬ freeP c T i:=idxE_neg (p:=freeP c T) h i (by simpa using hi)
def ordS (c : Cn) : Nat→(Nat→Bool)×List Nat
  | 0=>(fun _=>false,[])
  | k+1=>(fun j=>(ordS c k).1 j || j == (nextG c (ordS c k).1).toNat,(ordS c k).2++[(nextG c (ordS c k).1).toNat])
section
variable {c : Cn} (ok : CnOk c)
include ok
theorem no_lt {x : Int} (h0 : 0≤x) (h1 : x < c.n) : c.no x < c.G.length∧x∈c.G.getD (c.no x) []∧(c.no x : Int)=ofN c.G c.G.length x:=by
  obtain ⟨g1,g2,g3⟩:=ofN_mem ok.gp h0 h1
  exact ⟨by unfold Cn.no; omega,g3,by unfold Cn.no; omega⟩
theorem no_at {k : Nat} (hk : k < c.G.length) {x : Int} (hx : x∈c.G.getD k []) : c.no x=k:=by
  unfold Cn.no; rw [ofN_at ok.gp hk hx,Int.toNat_natCast]
theorem no_iff {k : Nat} (hk : k < c.G.length) {x : Int} (h0 : 0≤x) (h1 : x < c.n) : c.no x=k↔x∈c.G.getD k []:=by
  constructor
  · intro h; rw [← h]; exact (no_lt ok h0 h1).2.1
  · exact no_at ok hk
theorem head_mem {k : Nat} (hk : k < c.G.length) : (c.G.getD k []).getD 0 0∈c.G.getD k []:=mem_get 0 (List.length_pos_iff.2 (ok.gp.ne k hk))
theorem same_path {k : Nat} (hk : k < c.G.length) {x y : Int} (hx : x∈c.G.getD k []) (hy : y∈c.G.getD k []) : Path c.l x y:=by
  have h1:=ok.gp.rng k hk x hx
  have h2:=ok.gp.rng k hk y hy
  have h3:=(ok.gp.same k hk x hx y h2.1 h2.2).1 hy
  have:=(both_iff ok.r (v:=x.toNat) (k:=y.toNat) (by omega) (by omega)).1 h3
  rw [Int.toNat_of_nonneg h1.1,Int.toNat_of_nonneg h2.1] at this
  exact this.1
theorem path_same {k : Nat} (hk : k < c.G.length) {x y : Int} (hx : x∈c.G.getD k []) (h0 : 0≤y) (h1 : y < c.n) (p : Path c.l x y) (q : Path c.l y x) : y∈c.G.getD k []:=by
  have h2:=ok.gp.rng k hk x hx
  refine (ok.gp.same k hk x hx y h0 h1).2 ((both_iff ok.r (v:=x.toNat) (k:=y.toNat) (by omega) (by omega)).2 ?_)
  rw [Int.toNat_of_nonneg h2.1,Int.toNat_of_nonneg h0]; exact ⟨p,q⟩
def rcN (c : Cn) (i : Nat) : Nat:=(reachL c.n c.l ((c.G.getD i []).getD 0 0)).count true
theorem free_some {T : Nat→Bool} : ∀ (N i : Nat),i < c.G.length→T i=false→rcN c i≤N→∃ j,j < c.G.length∧freeP c T j
  | N,i,hi,hT,hN=>by
    by_cases hf : freeP c T i
    · exact ⟨i,hi,hf⟩
    have : ∃ a∈c.l,c.no a.1=i∧c.no a.2≠i∧T (c.no a.2)=false:=by
      apply Classical.byContradiction; intro hc
      refine hf ⟨hT,fun a ha h1=>?_⟩
      by_cases h2 : c.no a.2=i
      · exact .inl h2
      · refine .inr ?_
        cases h3 : T (c.no a.2) with
        | true=>rfl
        | false=>exact absurd ⟨a,ha,h1,h2,h3⟩ hc
    obtain ⟨a,ha,h1,h2,h3⟩:=this
    obtain ⟨⟨b1,b2⟩,b3,b4⟩:=ok.r a ha
    obtain ⟨e1,e2,_⟩:=no_lt ok b1 b2
    obtain ⟨f1,f2,_⟩:=no_lt ok b3 b4
    have m1:=head_mem ok hi
    have m2:=head_mem ok f1
    rw [h1] at e2
    have r1:=ok.gp.rng i hi _ m1
    have r2:=ok.gp.rng _ f1 _ m2
    have pij : Path c.l ((c.G.getD i []).getD 0 0) ((c.G.getD (c.no a.2) []).getD 0 0) :=
      ((same_path ok hi m1 e2).snoc ha).trans (same_path ok f1 f2 m2)
    have hcl:=count_le (S:=reachL c.n c.l ((c.G.getD (c.no a.2) []).getD 0 0)) (S':=reachL c.n c.l ((c.G.getD i []).getD 0 0)) (by rw [reachL_len,reachL_len]) (fun k hk=>by
      have hk' : vis (reachL c.n c.l ((c.G.getD (c.no a.2) []).getD 0 0)) (k : Int):=by unfold vis; rw [Int.toNat_natCast]; exact hk
      have hp:=(reachL_iff ok.r r2.1 r2.2 (w:=(k : Int)) (by omega)).1 hk'
      have:=(reachL_iff ok.r r1.1 r1.2 (w:=(k : Int)) (by omega)).2 (pij.trans hp)
      unfold vis at this; rw [Int.toNat_natCast] at this; exact this)
    have hlt : rcN c (c.no a.2) < rcN c i:=by
      unfold rcN
      rcases Nat.lt_or_eq_of_le hcl.1 with h | h
      · exact h
      · have he:=hcl.2 h
        have hv:=(reachL_iff ok.r r1.1 r1.2 (w:=(c.G.getD i []).getD 0 0) r1.1).2 (.refl _)
        rw [← he] at hv
        have hp:=(reachL_iff ok.r r2.1 r2.2 r1.1).1 hv
        exact absurd (no_at ok hi (path_same ok hi m1 r2.1 r2.2 pij hp)) (fun h=>h2 (by rw [no_at ok f1 m2] at h; exact h))
    exact free_some (T:=T) (N - 1) (c.no a.2) f1 h3 (by omega)
  termination_by N=>N
  decreasing_by omega
def cntT (N : Nat) (T : Nat→Bool) : Nat:=((List.range N).filter T).length
omit ok in
theorem cnt_all {N : Nat} {T : Nat→Bool} (h : cntT N T=N) : ∀ i,i < N→T i=true:=by
  intro i hi
  have h1 : (List.range N).filter T=List.range N:=by
    refine List.filter_eq_self.2 ?_
    have h2:=(List.filter_sublist (p:=T) (l:=List.range N)).eq_of_length (by rw [List.length_range]; exact h)
    rw [← h2]
    intro a ha; exact (List.mem_filter.1 ha).2
  have : i∈(List.range N).filter T:=by rw [h1]; simpa using hi
  exact (List.mem_filter.1 this).2
omit ok in
theorem cnt_some {N : Nat} {T : Nat→Bool} (h : cntT N T < N) : ∃ i,i < N∧T i=false:=by
  apply Classical.byContradiction; intro hc
  have : (List.range N).filter T=List.range N:=List.filter_eq_self.2 fun a ha=>by
    cases h2 : T a with
    | true=>rfl
    | false=>exact absurd ⟨a,by simpa using ha,h2⟩ hc
  unfold cntT at h
  rw [this,List.length_range] at h; omega
omit ok in
theorem cnt_add {T : Nat→Bool} {i : Nat} (hT : T i=false) : ∀ N,cntT N (fun j=>T j || j == i)=if i < N then cntT N T+1 else cntT N T
  | 0=>by simp [cntT]
  | N+1=>by
    have ih:=cnt_add hT N
    unfold cntT at ih ⊢
    rw [List.range_succ,List.filter_append,List.filter_append,List.length_append,List.length_append,ih]
    by_cases h1 : i < N
    · rw [if_pos h1,if_pos (by omega)]
      have : (N == i)=false:=by simp; omega
      simp only [List.filter_cons,List.filter_nil,this,Bool.or_false]; omega
    · rw [if_neg h1]
      by_cases h2 : N=i
      · subst h2
        rw [if_pos (by omega)]
        simp [hT]
      · rw [if_neg (by omega)]
        have : (N == i)=false:=by simp; omega
        simp only [List.filter_cons,List.filter_nil,this,Bool.or_false]
theorem ord_cnt : ∀ k,k≤c.G.length→cntT c.G.length (ordS c k).1=k∧(ordS c k).2.length=k
  | 0,_=>by constructor<;>simp [cntT,ordS]
  | k+1,hk=>by
    obtain ⟨h1,h2⟩:=ord_cnt k (by omega)
    obtain ⟨i,hi,hT⟩:=cnt_some (T:=(ordS c k).1) (N:=c.G.length) (by omega)
    obtain ⟨j,hj,hf⟩:=free_some ok (T:=(ordS c k).1) _ i hi hT (Nat.le_refl _)
    have hn : 0≤nextG c (ordS c k).1:=by
      apply Classical.byContradiction; intro hc
      exact next_neg (by omega) hj hf
    have ha:=next_at hn
    have hl:=next_lt c (ordS c k).1
    refine ⟨?_,by simp [ordS,h2]⟩
    simp only [ordS]
    rw [cnt_add ha.1,if_pos (by omega),h1]
theorem ord_next {k : Nat} (hk : k < c.G.length) : 0≤nextG c (ordS c k).1:=by
  obtain ⟨i,hi,hT⟩:=cnt_some (T:=(ordS c k).1) (N:=c.G.length) (by rw [(ord_cnt ok k (by omega)).1]; exact hk)
  obtain ⟨j,hj,hf⟩:=free_some ok (T:=(ordS c k).1) _ i hi hT (Nat.le_refl _)
  apply Classical.byContradiction; intro hc
  exact next_neg (by omega) hj hf
theorem ord_end : nextG c (ordS c c.G.length).1=-1:=next_none fun i hi hf=>by
  have:=cnt_all (ord_cnt ok _ (Nat.le_refl _)).1 i hi
  rw [hf.1] at this; cases this
end
def ordL (c : Cn) (k : Nat) : List (List Int):=(ordS c k).2.map fun i=>c.G.getD i []
theorem ordL_succ (c : Cn) (k : Nat) : ordL c (k+1)=ordL c k++[c.G.getD (nextG c (ordS c k).1).toNat []]:=by simp [ordL,ordS]
theorem ordL_len {c : Cn} (ok : CnOk c) {k : Nat} (hk : k≤c.G.length) : (ordL c k).length=k:=by unfold ordL; rw [List.length_map,(ord_cnt ok k hk).2]
end Go.Proofs.YtdkoindoljngmaaGreat
namespace Go.Proofs.YtdkoindoljngmaaGreat
open Go Go.Lft
set_option linter.unusedSimpArgs false
set_option linter.unusedVariables false
attribute [local congr] ob_congr bw_congr ib_congr ck_congr iwA_congr itA_congr aw_congr awp_congr sqA_congr bkA_congr vr_congr gd_congr
theorem no_get {c : Cn} (ok : CnOk c) {x : Int} (h0 : 0≤x) (h1 : x < c.n) : c.of.getD x.toNat 0=(c.no x : Int):=by
  rw [of_get h0 h1,(no_lt ok h0 h1).2.2]
def ordC (c : Cn) (T : Nat→Bool) : List A:=[.fp false [.fs true (rows true c.G)],.fp false [.fs false (bools (tab c.G.length T))],.fp false [.v (.int .i64 c.n),.fs true (pairs c.l)],.fp false [.fs true (ints c.of)]]
theorem order1_vr {c : Cn} (ok : CnOk c) (T : Nat→Bool) : VR P false n_control_Order_1 (ordC c T) [] (isR (.v (.int .i64 (nextG c T)))):=by
  refine vr_control_Order_1 (by simp [ordC]) (.inr rfl) fun _ _=>?_
  have g1:=ok.G1
  have l1:=ok.l1
  have n1:=ok.n1
  have tl:=tab_len c.G.length T
  have ol:=c.of_len
  unfold ordC
  simp (disch:=((try simp only [lZ]); omega)) only [aZ,aM,s_control_Order_1,v_control_Order_1]
  refine AWP.loopP g_control_Order_1_0 (fun k : Nat=>k≤c.G.length∧∀ i,i < k→¬ freeP c T i) (fun k=>[(4,.v (.int .i64 0)),(5,.v (.int .i64 k))]) (fun _=>[]) (fun k=>c.G.length - k) 0 ⟨by omega,fun i hi=>by omega⟩ ?_ ?_
  · exact Cut.of' 0 rfl (by omega) (by simp (disch:=first | omega | simp (disch:=omega) only [aG,aM]) only [fZ,aM]) (by simp (disch:=first | omega | simp (disch:=omega) only [aG,aM]) only [fZ,aM])
  rintro k ⟨hk,hb⟩
  by_cases hlt : k < c.G.length
  · have tg:=tab_get c.G.length T k hlt
    simp (disch:=((try simp only [lZ]); omega)) only [aZ,aM,tg]
    refine AWP.loopP (α:=Nat) g_control_Order_1_1 (fun q=>q≤c.l.length) (fun q=>[(9,.v (.bool (!T k && (c.l.take q).all fun a=>decide (c.no a.1=k→c.no a.2=k∨T (c.no a.2)=true)))),(10,.v (.int .i64 q))]) (fun _=>[]) (fun q=>c.l.length - q) 0 (by omega) ?_ ?_
    · simp only [List.take_zero,List.all_nil,Bool.and_true]
      exact Cut.of' 0 rfl (by omega) (by simp (disch:=first | omega | simp (disch:=omega) only [aG,aM]) only [fZ,aM]) (by simp (disch:=first | omega | simp (disch:=omega) only [aG,aM]) only [fZ,aM])
    rintro q hq
    by_cases hql : q < c.l.length
    · obtain ⟨⟨a1,a2⟩,a3,a4⟩:=ok.r _ (mem_get (0,0) hql)
      have o1:=no_get ok a1 a2
      have o2:=no_get ok a3 a4
      obtain ⟨e1,_,_⟩:=no_lt ok a3 a4
      have tg2:=tab_get c.G.length T _ e1
      have hts:=take_succ_get' c.l q (0,0) hql
      have e : ((!T k && (c.l.take q).all fun a=>decide (c.no a.1=k→c.no a.2=k∨T (c.no a.2)=true)) && (decide ((c.no (c.l.getD q (0,0)).1 : Int)≠k∨(c.no (c.l.getD q (0,0)).2 : Int)=k) || T (c.no (c.l.getD q (0,0)).2)))=(!T k && (c.l.take (q+1)).all fun a=>decide (c.no a.1=k→c.no a.2=k∨T (c.no a.2)=true)):=by
        rw [hts,List.all_append,Bool.and_assoc]
        congr 2
        simp only [List.all_cons,List.all_nil,Bool.and_true]
        cases hT : T (c.no (c.l.getD q (0,0)).2) with
        | true=>simp
        | false =>
          simp only [Bool.or_false]
          refine decide_eq_decide.2 ?_
          simp only [Bool.false_eq_true,or_false]
          omega
      simp (disch:=((try simp only [lZ]); omega)) only [aZ,aM,o1,o2,tg2,Int.toNat_natCast]
      rw [e]
      refine ⟨q+1,by omega,by omega,?_⟩
      exact Cut.of' 0 rfl (by omega) (by simp (disch:=first | omega | simp (disch:=omega) only [aG,aM]) only [fZ,aM]) (by simp (disch:=first | omega | simp (disch:=omega) only [aG,aM]) only [fZ,aM])
    · have hqe : q=c.l.length:=by omega
      subst hqe
      rw [List.take_length]
      have e : (!T k && c.l.all fun a=>decide (c.no a.1=k→c.no a.2=k∨T (c.no a.2)=true))=decide (freeP c T k):=by
        rw [Bool.eq_iff_iff]
        simp only [Bool.and_eq_true,Bool.not_eq_true',List.all_eq_true,decide_eq_true_eq]
        exact Iff.rfl
      rw [e]
      by_cases hf : freeP c T k
      · rw [next_hit hlt hb hf,decide_eq_true hf]
        simp (disch:=((try simp only [lZ]); omega)) only [aZ,aM,r_control_Order_1]
        exact post_v ⟨rfl,rfl⟩
      · rw [decide_eq_false hf]
        simp (disch:=((try simp only [lZ]); omega)) only [aZ,aM]
        refine ⟨k+1,⟨by omega,fun i hi=>?_⟩,by omega,?_⟩
        · rcases Nat.lt_succ_iff_lt_or_eq.1 hi with h | rfl
          · exact hb i h
          · exact hf
        · exact Cut.of' 0 rfl (by omega) (by simp (disch:=first | omega | simp (disch:=omega) only [aG,aM]) only [fZ,aM]) (by simp (disch:=first | omega | simp (disch:=omega) only [aG,aM]) only [fZ,aM])
  · have hke : k=c.G.length:=by omega
    subst hke
    rw [next_none hb]
    simp (disch:=((try simp only [lZ]); omega)) only [aZ,aM,r_control_Order_1]
    exact post_v ⟨rfl,rfl⟩
def ordT (x : List (List Int)×Int) : A:=.tup [.fs true (rows true x.1),.v (.int .i64 x.2)]
theorem tab_setB (N : Nat) (D : Nat→Bool) (k : Nat) (h : k < N) : (tab N D).set k true=tab N fun j=>D j || j == k:=tab_set N D k h
theorem controlOrder_ok {w v : Bool} {p : Pl} (h : pcheck p=0) : VR P false n_control_Order [plA w v p] [] (isR (ordT (ordL (cnP p) (cnP p).G.length,0))):=by
  refine vr_control_Order (by simp) (.inr rfl) fun _ _=>?_
  have hv:=controlGroups_ok (w:=w) (v:=v) h
  have ok:=cn_ok h
  have n1:=ok.n1
  have g1:=ok.G1
  unfold ordT
  unfold plA plC at hv ⊢
  generalize cnP p=c at *
  have hord:=fun T=>order1_vr ok T
  unfold ordC at hord
  simp (disch:=((try simp only [lZ]); omega)) only [aZ,aM,s_control_Order,v_control_Order]
  refine hv.same (by simp (disch:=first | omega | simp (disch:=omega) only [aG,aM]) only [fZ,aM]) (by simp (disch:=first | omega | simp (disch:=omega) only [aG,aM]) only [fZ,aM]) (aret_of ?_)
  simp (disch:=((try simp only [lZ]); omega)) only [aZ,aM,Int.toNat_natCast]
  rw [tab_rep]
  have T0 : (fun _ : Nat=>false)=(ordS c 0).1:=rfl
  rw [T0]
  refine ⟨by kernel_rfl,?_⟩
  refine (hord (ordS c 0).1).use ⟨Ld.lp (o:=0) rfl (LdL.refl (by simp (disch:=first | omega | simp (disch:=omega) only [aG,aM]) only [fZ,aM])) (by simp),Ld.lp (o:=0) (r:=[.fs false (bools (tab c.G.length (ordS c 0).1))]) rfl ⟨ld_slB _ 4 0 _ _ (tab_len _ _).symm rfl,trivial⟩ (by simp),Ld.lp (o:=0) rfl (LdL.refl (by simp (disch:=first | omega | simp (disch:=omega) only [aG,aM]) only [fZ,aM])) (by simp),Ld.lp (o:=0) rfl (LdL.refl (by simp (disch:=first | omega | simp (disch:=omega) only [aG,aM]) only [fZ,aM])) (by simp),trivial⟩ rfl (aret_of ?_)
  simp (disch:=((try simp only [lZ]); omega)) only [aZ,aM]
  refine AWP.cut (Cut.virt 10 1 rfl) ?_
  refine AWP.loopP (α:=Nat×Nat) g_control_Order_0 (fun q=>q.1≤c.G.length) (fun q=>[(10,.vs 6 q.2 1 q.1),(11,.v (.int .i64 (nextG c (ordS c q.1).1)))]) (fun q=>[(4,⟨0,bools (tab c.G.length (ordS c q.1).1)⟩),(6,⟨q.2,rows true (ordL c q.1)⟩)]) (fun q=>c.G.length - q.1) (0,0) (by simp) ?_ ?_
  · have e0 : rows true (ordL c 0)=[]:=rfl
    simp (disch:=((try simp only [lZ]); omega)) only [aZ,aM,e0]
    exact Cut.of' 7 rfl (by omega) (by simp (disch:=first | omega | simp (disch:=omega) only [aG,aM]) only [fZ,aM]) (by simp (disch:=first | omega | simp (disch:=omega) only [aG,aM]) only [fZ,aM])
  rintro ⟨k,ver⟩ hk
  simp only at hk
  have ll:=ordL_len ok hk
  have tl:=tab_len c.G.length (ordS c k).1
  have nl:=next_lt c (ordS c k).1
  by_cases hlt : k < c.G.length
  · have hn:=ord_next ok hlt
    have e1:=ordL_succ c k
    have e2 : (tab c.G.length (ordS c k).1).set (nextG c (ordS c k).1).toNat true=tab c.G.length (ordS c (k+1)).1:=tab_setB _ _ _ (by omega)
    have e3 : (rows true (ordL c k)).take k=rows true (ordL c k):=List.take_of_length_le (by rw [r_len]; omega)
    have ho:=hord (ordS c (k+1)).1
    simp (disch:=((try simp only [lZ]); omega)) only [aZ,aM,e2,e3,← e1]
    refine ⟨by kernel_rfl,?_⟩
    refine ho.use ⟨Ld.lp (o:=0) rfl (LdL.refl (by simp (disch:=first | omega | simp (disch:=omega) only [aG,aM]) only [fZ,aM])) (by simp),Ld.lp (o:=0) (r:=[.fs false (bools (tab c.G.length (ordS c (k+1)).1))]) rfl ⟨ld_slB _ 4 0 _ _ (tab_len _ _).symm rfl,trivial⟩ (by simp),Ld.lp (o:=0) rfl (LdL.refl (by simp (disch:=first | omega | simp (disch:=omega) only [aG,aM]) only [fZ,aM])) (by simp),Ld.lp (o:=0) rfl (LdL.refl (by simp (disch:=first | omega | simp (disch:=omega) only [aG,aM]) only [fZ,aM])) (by simp),trivial⟩ rfl (aret_of ?_)
    simp (disch:=((try simp only [lZ]); omega)) only [aZ,aM]
    refine ⟨(k+1,ver+1),by simp only; omega,by simp only; omega,?_⟩
    simp only
    exact Cut.of' 7 rfl (by omega) (by simp (disch:=first | omega | simp (disch:=omega) only [aG,aM]) only [fZ,aM]) (by simp (disch:=first | omega | simp (disch:=omega) only [aG,aM]) only [fZ,aM])
  · have hke : k=c.G.length:=by omega
    subst hke
    rw [ord_end ok]
    simp (disch:=((try simp only [lZ]); omega)) only [aZ,aM,r_control_Order]
    exact post0 (r:=.tup [.fs true (rows true (ordL c c.G.length)),.v (.int .i64 0)]) (Fz.tup ⟨fz_vsR 0 _ 6 ver _ _ (by omega) ll.symm (by simp [blkAt]),Fz.refl rfl,trivial⟩) ⟨rfl,rfl⟩
end Go.Proofs.YtdkoindoljngmaaGreat
namespace Go.Proofs.YtdkoindoljngmaaGreat
open Go Go.Lft
set_option linter.unusedSimpArgs false
set_option linter.unusedVariables false
def uniP (c : Cn) (st : List Int) : Prop:=∀ k,k < c.G.length→∀ x∈c.G.getD k [],∀ y∈c.G.getD k [],st.getD x.toNat 0=1→st.getD y.toNat 0=1
def valP (st : List Int) : Prop:=∀ i,i < st.length→0≤st.getD i 0∧st.getD i 0≤2
structure InvP (c : Cn) (st : List Int) : Prop where
  sl : st.length=c.n
  safe : safeP c st
  uni : uniP c st
  val : valP st
section
variable {c : Cn} (ok : CnOk c)
include ok
theorem on_congr {st st' : List Int} (h : ∀ i,i < c.n→(st'.getD i 0=1↔st.getD i 0=1)) : (safeP c st→safeP c st')∧(uniP c st→uniP c st'):=by
  constructor
  · rintro hs a ha ⟨h1,h2⟩
    have:=ok.r a ha
    exact hs a ha ⟨(h _ (by omega)).1 h1,fun hc=>h2 ((h _ (by omega)).2 hc)⟩
  · intro hu k hk x hx y hy h1
    have g1:=ok.gp.rng k hk x hx
    have g2:=ok.gp.rng k hk y hy
    exact (h _ (by omega)).2 (hu k hk x hx y hy ((h _ (by omega)).1 h1))
theorem bk_iff {m : Int} (h0 : 0≤m) (h1 : m < c.n) {i : Nat} (hi : i < c.n) : (c.bk m).getD i false=true↔Path c.l i m:=by
  have:=reachL_iff (inR_swap ok.r) h0 h1 (w:=(i : Int)) (by omega)
  unfold vis at this
  rw [Int.toNat_natCast] at this
  exact this.trans path_back
omit ok in
theorem stop_on {st : List Int} (sl : st.length=c.n) (m : Int) {i : Nat} (hi : i < c.n) : (stopL c st m).getD i 0=1↔(c.bk m).getD i false=false∧st.getD i 0=1:=by
  unfold stopL
  rw [stopF_get _ _ _ _ (by omega)]
  cases hb : (c.bk m).getD i false with
  | true =>
    rw [if_pos ⟨hi,rfl⟩]
    unfold stp
    constructor
    · intro h; split at h
      · cases h
      · contradiction
    · rintro ⟨h,_⟩; cases h
  | false=>rw [if_neg (by simp)]; simp
theorem stop_inv {st : List Int} (h : InvP c st) {m : Int} (h0 : 0≤m) (h1 : m < c.n) : InvP c (stopL c st m):=by
  have hs:=fun i hi=>stop_on h.sl m (i:=i) hi
  refine ⟨by rw [stopL_len]; exact h.sl,?_,?_,?_⟩
  · rintro a ha ⟨h2,h3⟩
    obtain ⟨⟨a1,a2⟩,a3,a4⟩:=ok.r a ha
    obtain ⟨g1,g2⟩:=(hs _ (by omega)).1 h2
    refine h3 ((hs _ (by omega)).2 ⟨?_,?_⟩)
    · rw [← Bool.not_eq_true]; intro hb
      have hp:=(bk_iff ok h0 h1 (i:=a.2.toNat) (by omega)).1 hb
      rw [Int.toNat_of_nonneg a3] at hp
      have:=(bk_iff ok h0 h1 (i:=a.1.toNat) (by omega)).2 (by rw [Int.toNat_of_nonneg a1]; exact .step (show (a.1,a.2)∈c.l from ha) hp)
      rw [g1] at this; cases this
    · exact Classical.not_not.1 fun hc=>h.safe a ha ⟨g2,hc⟩
  · intro k hk x hx y hy h2
    have r1:=ok.gp.rng k hk x hx
    have r2:=ok.gp.rng k hk y hy
    obtain ⟨g1,g2⟩:=(hs _ (by omega)).1 h2
    refine (hs _ (by omega)).2 ⟨?_,h.uni k hk x hx y hy g2⟩
    rw [← Bool.not_eq_true]; intro hb
    have hp:=(bk_iff ok h0 h1 (i:=y.toNat) (by omega)).1 hb
    rw [Int.toNat_of_nonneg r2.1] at hp
    have:=(bk_iff ok h0 h1 (i:=x.toNat) (by omega)).2 (by rw [Int.toNat_of_nonneg r1.1]; exact (same_path ok hk hx hy).trans hp)
    rw [g1] at this; cases this
  · intro i hi
    rw [stopL_len] at hi
    have:=h.val i hi
    unfold stopL
    rw [stopF_get _ _ _ _ hi]
    split
    · unfold stp; split<;>omega
    · exact this
theorem start_inv {st : List Int} (h : InvP c st) {m : Int} (h0 : 0≤m) (h1 : m < c.n) (hb : ¬ blkP c.l (grp c.G m) st) : InvP c (setG st (grp c.G m) 1):=by
  obtain ⟨n1,n2,n3⟩:=no_lt ok h0 h1
  have hg : grp c.G m=c.G.getD (c.no m) []:=rfl
  rw [hg] at hb ⊢
  have hrg:=ok.gp.rng _ n1
  have hget : ∀ i,i < c.n→(setG st (c.G.getD (c.no m) []) 1).getD i 0=if (i : Int)∈c.G.getD (c.no m) [] then 1 else st.getD i 0:=fun i hi=>setG_get 1 i _ st (fun x hx=>(hrg x hx).1) (by rw [h.sl]; exact hi)
  refine ⟨by rw [setG_len]; exact h.sl,?_,?_,?_⟩
  · rintro a ha ⟨h2,h3⟩
    obtain ⟨⟨a1,a2⟩,a3,a4⟩:=ok.r a ha
    rw [hget _ (by omega),Int.toNat_of_nonneg a1] at h2
    rw [hget _ (by omega),Int.toNat_of_nonneg a3] at h3
    by_cases m2 : a.2∈c.G.getD (c.no m) []
    · rw [if_pos m2] at h3; exact h3 rfl
    rw [if_neg m2] at h3
    by_cases m1 : a.1∈c.G.getD (c.no m) []
    · exact hb ⟨a,ha,m1,m2,h3⟩
    · rw [if_neg m1] at h2
      exact h.safe a ha ⟨h2,h3⟩
  · intro k hk x hx y hy h2
    have r1:=ok.gp.rng k hk x hx
    have r2:=ok.gp.rng k hk y hy
    rw [hget _ (by omega),Int.toNat_of_nonneg r1.1] at h2
    rw [hget _ (by omega),Int.toNat_of_nonneg r2.1]
    have e1:=no_at ok hk hx
    have e2:=no_at ok hk hy
    by_cases m1 : x∈c.G.getD (c.no m) []
    · have : c.no m=k:=by rw [← no_at ok n1 m1]; exact e1
      rw [if_pos (by rw [this]; exact hy)]
    · rw [if_neg m1] at h2
      split
      · rfl
      · exact h.uni k hk x hx y hy h2
  · intro i hi
    rw [setG_len,h.sl] at hi
    rw [hget i hi]
    have:=h.val i (by rw [h.sl]; exact hi)
    split
    · omega
    · exact this
theorem set_inv {st : List Int} (h : InvP c st) {i : Nat} {v : Int} (hi : i < c.n) (h1 : st.getD i 0≠1) (hv : v=0∨v=2) : InvP c (st.set i v):=by
  have hon : ∀ j,j < c.n→((st.set i v).getD j 0=1↔st.getD j 0=1):=fun j hj=>by
    rw [getD_setC]
    split
    · rename_i h2
      obtain ⟨rfl,_⟩:=h2
      constructor
      · intro h3; omega
      · intro h3; exact absurd h3 h1
    · exact Iff.rfl
  obtain ⟨c1,c2⟩:=on_congr ok hon
  refine ⟨by rw [List.length_set]; exact h.sl,c1 h.safe,c2 h.uni,fun j hj=>?_⟩
  rw [List.length_set] at hj
  have:=h.val j hj
  rw [getD_setC]
  split<;>omega
theorem stop_off {st : List Int} (sl : st.length=c.n) {m : Int} (h0 : 0≤m) (h1 : m < c.n) : (stopL c st m).getD m.toNat 0≠1:=fun hc=>by
  have h2:=((stop_on sl m (i:=m.toNat) (by omega)).1 hc).1
  have:=(bk_iff ok h0 h1 (i:=m.toNat) (by omega)).2 (by rw [Int.toNat_of_nonneg h0]; exact .refl _)
  rw [h2] at this; cases this
theorem act_inv {st : List Int} (h : InvP c st) (a : Int×Int) : InvP c (actR c st a).2:=by
  unfold actR startR stopR jamR clearR
  by_cases hm : c.bad a.2
  · simp only [if_pos hm]
    split
    · exact h
    split
    · exact h
    split
    · exact h
    · exact h
  have hm':=hm
  unfold Cn.bad at hm'
  simp only [if_neg hm]
  split
  · split
    · exact h
    split
    · exact h
    · rename_i hb; exact start_inv ok h (by omega) (by omega) hb
  split
  · exact stop_inv ok h (by omega) (by omega)
  split
  · exact set_inv ok (stop_inv ok h (by omega) (by omega)) (by omega) (stop_off ok h.sl (by omega) (by omega)) (.inr rfl)
  split
  · exact h
  · rename_i h2
    exact set_inv ok h (by omega) (by omega) (.inl rfl)
omit ok in
theorem off_inv : InvP c (List.replicate c.n 0):=by
  have hg : ∀ i,(List.replicate c.n (0 : Int)).getD i 0=0:=fun i=>by
    by_cases h : i < c.n<;>simp [List.getD_eq_getElem?_getD,h]
  refine ⟨by simp,fun a _ h=>?_,fun k _ x _ y _ h=>?_,fun i _=>by rw [hg]; omega⟩
  · have:=h.1; rw [hg] at this; cases this
  · rw [hg] at h; cases h
end
def sttS (c : Cn) (st : List Int) : Nat→List Int
  | 0=>st
  | k+1=>setG (sttS c st k) (c.G.getD (nextG c (ordS c k).1).toNat []) 1
theorem sttS_len (c : Cn) (st : List Int) : ∀ k,(sttS c st k).length=st.length
  | 0=>rfl
  | k+1=>by simp only [sttS,setG_len]; exact sttS_len c st k
section
variable {c : Cn} (ok : CnOk c)
include ok
structure SttI (c : Cn) (st : List Int) (k : Nat) : Prop where
  nj : ∀ i,i < c.n→(sttS c st k).getD i 0≠2
  on : ∀ i,i < c.n→(ordS c k).1 (c.no i)=true→(sttS c st k).getD i 0=1
theorem stt_step {st : List Int} (sl : st.length = c.n) {k : Nat} (hk : k < c.G.length) (h : SttI c st k) :
    startR c (sttS c st k) ((c.G.getD (nextG c (ordS c k).1).toNat []).getD 0 0)=(0,sttS c st (k+1))∧SttI c st (k+1):=by
  have hn:=ord_next ok hk
  have hl:=next_lt c (ordS c k).1
  have hf:=next_at hn
  have e1 : sttS c st (k+1)=setG (sttS c st k) (c.G.getD (nextG c (ordS c k).1).toNat []) 1:=rfl
  have e2 : (ordS c (k+1)).1=fun j=>(ordS c k).1 j || j == (nextG c (ordS c k).1).toNat:=rfl
  rw [e1]
  have hj : (nextG c (ordS c k).1).toNat < c.G.length:=by omega
  generalize (nextG c (ordS c k).1).toNat=j at *
  have hm:=head_mem ok hj
  have hrg:=ok.gp.rng j hj
  have hr:=hrg _ hm
  have hno:=no_at ok hj hm
  have hgrp : grp c.G ((c.G.getD j []).getD 0 0)=c.G.getD j []:=by unfold grp; rw [show (ofN c.G c.G.length ((c.G.getD j []).getD 0 0)).toNat=c.no ((c.G.getD j []).getD 0 0) from rfl,hno]
  have hsl:=sttS_len c st k
  have hget : ∀ i,i < c.n→(setG (sttS c st k) (c.G.getD j []) 1).getD i 0=if (i : Int)∈c.G.getD j [] then 1 else (sttS c st k).getD i 0:=fun i hi=>setG_get 1 i _ _ (fun x hx=>(hrg x hx).1) (by omega)
  refine ⟨?_,⟨fun i hi=>?_,fun i hi hT=>?_⟩⟩
  · unfold startR
    rw [if_neg (by unfold Cn.bad; omega),hgrp,if_neg,if_neg]
    · rintro ⟨a,ha,h1,h2,h3⟩
      obtain ⟨⟨a1,a2⟩,a3,a4⟩:=ok.r a ha
      rcases hf.2 a ha ((no_iff ok hj a1 a2).2 h1) with h4 | h4
      · exact h2 ((no_iff ok hj a3 a4).1 h4)
      · exact h3 (h.on a.2.toNat (by omega) (by rw [Int.toNat_of_nonneg a3]; exact h4))
    · rintro ⟨x,hx,h1⟩
      have:=hrg x hx
      exact h.nj x.toNat (by omega) h1
  · rw [e1,hget i hi]
    split
    · omega
    · exact h.nj i hi
  · rw [e1,hget i hi]
    rw [e2] at hT
    split
    · rfl
    · rename_i hni
      simp only [Bool.or_eq_true,beq_iff_eq] at hT
      rcases hT with hT | hT
      · exact h.on i hi hT
      · exact absurd ((no_iff ok hj (by omega) (by omega)).1 hT) hni
theorem stt_all {st : List Int} (sl : st.length=c.n) (h0 : ∀ i,i < c.n→st.getD i 0≠2) : ∀ k,k≤c.G.length→SttI c st k
  | 0,_=>⟨h0,fun i hi h=>by cases h⟩
  | k+1,hk=>(stt_step ok sl hk (stt_all sl h0 k (by omega))).2
theorem stt_end {st : List Int} (sl : st.length=c.n) (h0 : ∀ i,i < c.n→st.getD i 0≠2) : ∀ i,i < c.n→(sttS c st c.G.length).getD i 0=1:=fun i hi =>
  (stt_all ok sl h0 _ (Nat.le_refl _)).on i hi (cnt_all (ord_cnt ok _ (Nat.le_refl _)).1 _ (no_lt ok (x:=i) (by omega) (by omega)).1)
theorem ord_row {k : Nat} (hk : k < c.G.length) : (ordL c c.G.length).getD k []=c.G.getD (nextG c (ordS c k).1).toNat []:=by
  have : ∀ j,k < j→j≤c.G.length→(ordL c j).getD k []=c.G.getD (nextG c (ordS c k).1).toNat []:=by
    intro j
    induction j with
    | zero=>intro h; omega
    | succ j ih =>
      intro h1 h2
      have hl:=ordL_len ok (k:=j) (by omega)
      rw [ordL_succ,List.getD_eq_getElem?_getD]
      by_cases hj : k=j
      · subst hj
        rw [List.getElem?_append_right (by omega),hl,Nat.sub_self]; rfl
      · rw [List.getElem?_append_left (by omega),← List.getD_eq_getElem?_getD]
        exact ih (by omega) (by omega)
  exact this _ hk (Nat.le_refl _)
end
end Go.Proofs.YtdkoindoljngmaaGreat
namespace Go.Proofs.YtdkoindoljngmaaGreat
open Go Go.Lft
set_option linter.unusedSimpArgs false
set_option linter.unusedVariables false
attribute [local congr] ob_congr bw_congr ib_congr ck_congr iwA_congr itA_congr aw_congr awp_congr sqA_congr bkA_congr vr_congr gd_congr
theorem st_in {c : Cn} {st : List Int} {m : Int} (h0 : 0≤m) (h1 : m < c.n) : stateR c st m=(st.getD m.toNat 0,0):=by unfold stateR; rw [if_neg (by unfold Cn.bad; omega)]
theorem ordL_row {c : Cn} (ok : CnOk c) : (ordL c c.G.length).length≤64∧∀ r∈ordL c c.G.length,r.length≤64:=by
  refine ⟨by rw [ordL_len ok (Nat.le_refl _)]; exact ok.G1,fun r hr=>?_⟩
  unfold ordL at hr
  obtain ⟨i,hi,rfl⟩:=List.mem_map.1 hr
  by_cases h : i < c.G.length
  · exact ok.G2 h
  · rw [List.getD_eq_getElem?_getD,List.getElem?_eq_none (by omega)]; simp
theorem stt_inv {c : Cn} (ok : CnOk c) {st : List Int} (h : InvP c st) (h0 : ∀ i,i < c.n→st.getD i 0≠2) : ∀ k,k≤c.G.length→InvP c (sttS c st k)
  | 0,_=>h
  | k+1,hk=>by
    have ih:=stt_inv ok h h0 k (by omega)
    have hs:=(stt_step ok h.sl (k:=k) hk (stt_all ok h.sl h0 k (by omega))).1
    have:=act_inv ok ih (0,(c.G.getD (nextG c (ordS c k).1).toNat []).getD 0 0)
    unfold actR at this
    simp only [if_true] at this
    rw [hs] at this
    exact this
theorem topStart_vr {H : List Blk} {i j : Nat} {c : Cn} {st : List Int} (ok : CnOk c) (h : PS H i j c st) (inv : InvP c st) (h0 : ∀ i, i < c.n → st.getD i 0 ≠ 2) :
    VR P false n_top_start [.lp i 0 0,.fs true (rows true (ordL c c.G.length))] H (fun r H'=>r=.v (.bool true)∧H'=H.set j ⟨0,ints (sttS c st c.G.length)⟩):=by
  refine vr_top_start (by simp) (.inl rfl) fun _ _=>?_
  have hself:=set_self h.hj
  have hor:=fun k hk=>ord_row ok (k:=k) hk
  have hstep:=fun k hk=>stt_step ok h.sl (k:=k) hk (stt_all ok h.sl h0 k (by omega))
  have hinv:=fun k hk=>stt_inv ok inv h0 k hk
  have hnx:=fun k hk=>ord_next ok (k:=k) hk
  have hnl:=fun k=>next_lt c (ordS c k).1
  have hne:=ok.gp.ne
  obtain ⟨o1,o2⟩:=ordL_row ok
  have o3:=ordL_len ok (Nat.le_refl _)
  generalize hOL : ordL c c.G.length=OL at *
  simp (disch:=((try simp only [lZ]); omega)) only [aZ,aM,s_top_start,v_top_start]
  refine AWP.loopM g_top_start_0 (fun k : Nat=>k≤OL.length) (fun k=>[(3,.v (.int .i64 k))]) (fun k=>H.set j ⟨0,ints (sttS c st k)⟩) (fun k=>OL.length - k) 0 (by omega) ?_ ?_
  · rw [show sttS c st 0=st from rfl,hself]
    exact Cut.fg (by simp (disch:=first | omega | simp (disch:=omega) only [aG,aM]) only [fZ,aM,fgl_nil,fgl_cons,or_true,true_or])
  rintro k hk
  by_cases hlt : k < OL.length
  · have hrow:=hor k (by omega)
    have h1:=hnx k (by omega)
    have h2:=hnl k
    have hj : (nextG c (ordS c k).1).toNat < c.G.length:=by omega
    have hst:=(hstep k (by omega)).1
    have hr64:=o2 _ (mem_get [] hlt)
    have hnil:=List.length_pos_iff.2 (hne _ hj)
    rw [← hrow] at hst hnil
    have hP:=h.set (sttS c st k) (by rw [sttS_len]; exact h.sl)
    have hP2:=h.set (sttS c st (k+1)) (by rw [sttS_len]; exact h.sl)
    have hsf:=(hinv (k+1) (by omega)).safe
    generalize hr : OL.getD k []=r at *
    simp (disch:=((try simp only [lZ]); omega)) only [aZ,aM,hr,Int.toNat_zero]
    refine (start_ps ok hP (r.getD 0 0)).mono ?_
    rintro q H' ⟨rfl,hH⟩
    rw [hst,List.set_set] at hH
    rw [hH,hst]
    refine aret_of ?_
    simp (disch:=((try simp only [lZ]); omega)) only [aZ,aM]
    refine (safe_ps ok hP2).mono ?_
    rintro q H'' ⟨rfl,hH2⟩
    rw [hH2,decide_eq_true hsf]
    refine aret_of ?_
    simp (disch:=((try simp only [lZ]); omega)) only [aZ,aM]
    refine ⟨k+1,by omega,by omega,?_⟩
    try simp (disch:=((try simp only [lZ]); omega)) only [aZ,aM]
    exact Cut.fg (by simp (disch:=first | omega | simp (disch:=omega) only [aG,aM]) only [fZ,aM,fgl_nil,fgl_cons,or_true,true_or])
  have hke : k=c.G.length:=by omega
  subst hke
  simp (disch:=((try simp only [lZ]); omega)) only [aZ,aM,r_top_start]
  exact post2 (R:=fun r H'=>_) ⟨rfl,rfl⟩
def folS (p : Pl) (st : List Int) (s : Sy) : Nat→Sy
  | 0=>s
  | k+1=>if binN p k then folS p st s k else hltS (folS p st s k) k (decide (st.getD k 0≠1))
theorem folS_iv {p : Pl} (st : List Int) {s : Sy} (h : Iv p s) : ∀ k,Iv p (folS p st s k)
  | 0=>h
  | k+1=>by
    have ih:=folS_iv st h k
    unfold folS
    split
    · exact ih
    · exact ih.halt _ _
theorem folS_tot (p : Pl) (st : List Int) (s : Sy) : ∀ k,(∀ x,tot p (folS p st s k) x=tot p s x)∧(folS p st s k).fed=s.fed∧(folS p st s k).hal.length=s.hal.length
  | 0=>⟨fun _=>rfl,rfl,rfl⟩
  | k+1=>by
    obtain ⟨h1,h2,h3⟩:=folS_tot p st s k
    unfold folS
    split
    · exact ⟨h1,h2,h3⟩
    · exact ⟨fun x=>h1 x,h2,by simp only [hltS,List.length_set]; exact h3⟩
theorem folS_hal {p : Pl} {st : List Int} {s : Sy} (hb : ∀ m,binN p m→s.hal.getD m false=false) : ∀ k,(∀ m,binN p m→(folS p st s k).hal.getD m false=false)∧∀ m,m < k→m < s.hal.length→st.getD m 0=1→(folS p st s k).hal.getD m false=false
  | 0=>⟨hb,fun m hm=>absurd hm (by omega)⟩
  | k+1=>by
    obtain ⟨h1,h2⟩:=folS_hal hb (st:=st) k
    have h3:=(folS_tot p st s k).2.2
    unfold folS
    split
    · rename_i hbk
      exact ⟨h1,fun m hm hl ho=>by
        by_cases e : m=k
        · subst e; exact h1 _ hbk
        · exact h2 m (by omega) hl ho⟩
    · rename_i hbk
      have hg : ∀ m,m≠k→(hltS (folS p st s k) k (decide (st.getD k 0≠1))).hal.getD m false=(folS p st s k).hal.getD m false:=fun m hm=>by
        simp only [hltS,Int.toNat_natCast]
        rw [List.getD_eq_getElem?_getD,List.getElem?_set_ne (fun h=>hm h.symm),← List.getD_eq_getElem?_getD]
      refine ⟨fun m hm=>?_,fun m hm hl ho=>?_⟩
      · rw [hg m (fun e=>hbk (e▸hm))]; exact h1 m hm
      · by_cases e : m=k
        · subst e
          simp only [hltS,Int.toNat_natCast]
          rw [List.getD_eq_getElem?_getD,List.getElem?_set_self (by omega)]
          rw [decide_eq_false (fun h=>h ho)]; rfl
        · rw [hg m e]; exact h2 m (by omega) hl ho
theorem topFollows_vr {H : List Blk} {p : Pl} {ad : Ad} {s : Sy} {i j : Nat} {st : List Int} (ok : POk p) (hP : PM H p ad s) (hI : Iv p s) (h : PS H i j (cnP p) st) (hi : ¬ ftp p ad i) (hj : ¬ ftp p ad j) :
    VR P false n_top_follows [plA true true p,.lp i 0 0,.lp (ad .root).1 0 0] H (fun r H'=>r=.v (.bool true)∧PM H' p ad (folS p st s p.ms.length)∧Tr p H ad H' ad):=by
  refine vr_top_follows (by simp) (.inl rfl) fun _ _=>?_
  have hbn:=fun m hm=>ref35Bin_vr (w:=true) (v:=true) p m hm
  have n2:=ok.n2
  unfold plA plC at *
  obtain ⟨B,hB⟩ : ∃ B : Blk,B=⟨0,[.v (.int .i64 p.mat),.fs true (mcs true p.ms),.fs true (bts p.bs),.v (.int .i64 p.fd)]⟩:=⟨_,rfl⟩
  have hHL:=hP.nftp (Nat.le_refl _)
  have tH : Tr p H ad (H++[B]) ad:=⟨Gr.app _ _,fun i hi=>.inr hi,rfl⟩
  simp (disch:=((try simp only [lZ]); omega)) only [aZ,aM,s_top_follows,v_top_follows]
  rw [← hB]
  refine AWP.loopM g_top_follows_0 (fun x : Nat×List Blk=>x.1≤p.ms.length∧PM x.2 p ad (folS p st s x.1)∧Tr p H ad x.2 ad∧blkAt x.2 H.length 0=some [.v (.int .i64 p.mat),.fs true (mcs true p.ms),.fs true (bts p.bs),.v (.int .i64 p.fd)]) (fun x=>[(5,.v (.int .i64 x.1))]) (fun x=>x.2) (fun x=>p.ms.length - x.1) (0,H++[B]) ⟨by omega,hP.grow _,tH,by rw [hB,blkAt_new0]; rfl⟩ ?_ ?_
  · exact Cut.fg (by simp (disch:=first | omega | simp (disch:=omega) only [aG,aM]) only [fZ,aM,fgl_nil,fgl_cons,or_true,true_or])
  rintro ⟨k,K⟩ ⟨hk,kP,kT,kB⟩
  simp only at hk kP kT kB
  by_cases hkt : k < p.ms.length
  case neg =>
    have hke : k=p.ms.length:=by omega
    subst hke
    simp (disch:=((try simp only [lZ]); omega)) only [aZ,aM,r_top_follows]
    exact post2 (R:=fun r H'=>_) ⟨rfl,kP,kT⟩
  have hS : PS K i j (cnP p) st:=⟨(kT.keep h.hi hi).1,(kT.keep h.hj hj).1,h.ne,h.sl⟩
  have hbk:=hbn k hkt
  have hs:=state_ps hS (k : Int)
  rw [st_in (c:=cnP p) (st:=st) (m:=(k : Int)) (by omega) (by show (k : Int) < p.ms.length; omega),Int.toNat_natCast] at hs
  simp (disch:=((try simp only [lZ]); omega)) only [aZ,aM]
  refine hs.mono ?_
  rintro r K2 ⟨rfl,hK2⟩
  subst hK2
  refine aret_of ?_
  simp (disch:=((try simp only [lZ]); omega)) only [aZ,aM,kB]
  refine hbk.same (by simp (disch:=first | omega | simp (disch:=omega) only [aG,aM]) only [fZ,aM]) rfl (aret_of ?_)
  by_cases hb : binN p k
  · have ef : folS p st s (k+1)=folS p st s k:=by rw [folS,if_pos hb]
    rw [decide_eq_true hb]
    simp (disch:=((try simp only [lZ]); omega)) only [aZ,aM]
    refine ⟨(k+1,K2),⟨by simp only; omega,by rw [ef]; exact kP,kT,kB⟩,by simp only; omega,?_⟩
    try simp (disch:=((try simp only [lZ]); omega)) only [aZ,aM]
    exact Cut.fg (by simp (disch:=first | omega | simp (disch:=omega) only [aG,aM]) only [fZ,aM,fgl_nil,fgl_cons,or_true,true_or])
  · have ef : folS p st s (k+1)=hltS (folS p st s k) k (decide (st.getD k 0≠1)):=by rw [folS,if_neg hb]
    have hh:=halt_pm ok kP (folS_iv st hI k).1 (k : Int) (decide (st.getD k 0≠1)) (by unfold hltE; rw [if_neg (by omega),Int.toNat_natCast,if_neg hb])
    rw [decide_eq_false hb]
    simp (disch:=((try simp only [lZ]); omega)) only [aZ,aM]
    refine hh.mono ?_
    rintro r K3 ⟨rfl,P3,T3⟩
    have kB3:=T3.keep kB (fun hc=>hHL hc)
    refine aret_of ?_
    simp (disch:=((try simp only [lZ]); omega)) only [aZ,aM]
    refine ⟨(k+1,K3),⟨by simp only; omega,by rw [ef]; exact P3,kT.trans T3,kB3.1⟩,by simp only; omega,?_⟩
    try simp (disch:=((try simp only [lZ]); omega)) only [aZ,aM]
    exact Cut.fg (by simp (disch:=first | omega | simp (disch:=omega) only [aG,aM]) only [fZ,aM,fgl_nil,fgl_cons,or_true,true_or])
theorem set_tail {K : List Blk} {B C : Blk} : (K++[B]).set K.length C=K++[C]:=by rw [List.set_append_right _ _ (Nat.le_refl _),Nat.sub_self]; rfl
theorem newSh (n : Nat) (e : Value) : (A.tup [.lp 3 0 0,.v e]).sh n=.tup [.lp (n+3) 0 0,.v e]:=rfl
def awC : Pl:=⟨1,[[[1000]],[[]]],[⟨0,0,1,1⟩],0⟩
theorem awC_ok : pcheck awC=0:=by decide +kernel
theorem awC_1 : startR (cnP awC) (List.replicate (cnP awC).n 0) 0=(13,[0,0]):=by decide +kernel
theorem awC_2 : startR (cnP awC) [0,0] 1=(0,[0,1]):=by decide +kernel
theorem awC_3 : startR (cnP awC) [0,1] 0=(0,[1,1]):=by decide +kernel
theorem awC_4 : safeP (cnP awC) [1,1]:=by decide +kernel
theorem topAwake36_vr : VR P false n_top_awake36 [] [] (isR (.v (.bool true))):=by
  refine voA (V:=v_top_awake36) (F:=f_top_awake36) Tryz.func12 (by kernel_rfl) Tryz.ntmps12 (by simp) (.inl rfl) ?_
  have hnw:=controlNew_ok (w:=true) (v:=true) awC_ok
  have ok:=pcheck_ok awC_ok
  have cok:=cn_ok awC_ok
  show AWP P 0 s_top_awake36 _ _ _
  refine AWP.chain 11 ?_
  conv=>arg 3; simp only [s_top_awake36,S.pre]
  simp (disch:=((try simp only [lZ]); omega)) only [aZ,aM,v_top_awake36]
  conv=>arg 3; simp only [s_top_awake36,S.post]
  refine AWP.cut (e':=[.v (.bool false),.any,.any,.any,.any,.any,.any,.any,.any,.any,.any,.fs true (mcs true awC.ms),.fs true (bts awC.bs),.any]) (H':=[]) (Cut.of' 0 rfl (Nat.le_refl _) (by simp [FzB]) (fzL_all ?_)) ?_
  · simp [zZ,blkAt,flatA,A.cells,A.one,Lft.one,retA,A.bdL,A.bd,awC,mcs,mcA,mcC,bts,btA,btC,rows,ints,Pl.mt]
  refine aw_sound ?_
  unfold plA plC at hnw
  have e0 : awC.mat=1:=rfl
  have e1 : awC.fd=0:=rfl
  have e2 : List.replicate (cnP awC).n (0 : Int)=[0,0]:=rfl
  have hn : (cnP awC).n=2:=rfl
  have c1:=awC_1
  have c2:=awC_2
  have c3:=awC_3
  have c4:=awC_4
  rw [e0,e1] at hnw
  rw [e2] at hnw c1
  generalize cnP awC=c at *
  have ps : ∀ (st : List Int),st.length=2→PS [⟨0,[.any,.any,.any,.any]⟩,⟨0,[.any,.any]⟩,⟨0,ints st⟩,⟨0,panC c 2⟩] 3 2 c st:=fun st h=>⟨by simp [blkAt],by simp [blkAt],by decide,by omega⟩
  simp (disch:=((try simp only [lZ]); omega)) only [aZ,aM]
  refine hnw.useO (LdL.refl (by simp (disch:=first | omega | simp (disch:=omega) only [aG,aM]) only [fZ,aM])) (by rw [panG_cl]; rfl) (aret_of ?_)
  rw [panG_sh,newSh]
  simp (disch:=((try simp only [lZ]); omega)) only [aZ,aM]
  refine (start_ps cok (ps [0,0] rfl) 0).mono ?_
  rintro r H' ⟨rfl,hH⟩
  rw [hH,c1]
  refine aret_of ?_
  simp (disch:=((try simp only [lZ]); omega)) only [aZ,aM]
  refine (start_ps cok (ps [0,0] rfl) 1).mono ?_
  rintro r H' ⟨rfl,hH⟩
  rw [hH,c2]
  refine aret_of ?_
  simp (disch:=((try simp only [lZ]); omega)) only [aZ,aM]
  refine (start_ps cok (ps [0,1] rfl) 0).mono ?_
  rintro r H' ⟨rfl,hH⟩
  rw [hH,c3]
  refine aret_of ?_
  simp (disch:=((try simp only [lZ]); omega)) only [aZ,aM]
  refine (safe_ps cok (ps [1,1] rfl)).mono ?_
  rintro r H' ⟨rfl,hH⟩
  rw [hH,decide_eq_true c4]
  refine aret_of ?_
  simp (disch:=((try simp only [lZ]); omega)) only [aZ,aM,r_top_awake36]
  exact post_v ⟨rfl,rfl⟩
structure TP (p : Pl) (a : Ad) (s : Sy) (st : List Int) (K : List Blk) : Prop where
  pm : PM K p a s
  iv : Iv p s
  hb : ∀ m,binN p m→s.hal.getD m false=false
  b0 : blkAt K 0 0=some [.v (.int .i64 p.mt),.fs true (mcs true p.ms),.fs true (bts p.bs),.v (.int .i64 p.fd)]
  n0 : ¬ ftp p a 0
  ps : PS K 4 3 (cnP p) st
  n3 : ¬ ftp p a 3
  n4 : ¬ ftp p a 4
  inv : InvP (cnP p) st
  nj : ∀ i,i < (cnP p).n→st.getD i 0≠2
  eq : ∀ x,tot p s x=s.fed.getD x 0
  fd : ∀ x,s.fed.getD x 0≤9
theorem TP.pan {p : Pl} {a : Ad} {s : Sy} {st : List Int} {K : List Blk} (h : TP p a s st K) (st' : List Int) (hi : InvP (cnP p) st') (hj : ∀ i,i < (cnP p).n→st'.getD i 0≠2) : TP p a s st' (K.set 3 ⟨0,ints st'⟩) :=
  ⟨h.pm.gr (Gr.set (F:=one 3) _ _ _ rfl) fun c hc hf=>h.n3 ⟨c,hc,hf⟩,h.iv,h.hb,by rw [blkAt_set_ne _ _ _ _ _ (by omega)]; exact h.b0,h.n0,h.ps.set st' hi.sl,h.n3,h.n4,hi,hj,h.eq,h.fd⟩
theorem TP.pla {p : Pl} {a a' : Ad} {s s' : Sy} {st : List Int} {K K' : List Blk} (h : TP p a s st K) (hP : PM K' p a' s') (hT : Tr p K a K' a') (hI : Iv p s') (hb : ∀ m,binN p m→s'.hal.getD m false=false) (ht : ∀ x,tot p s' x=tot p s x) (hf : s'.fed=s.fed) : TP p a' s' st K':=by
  have k0:=hT.keep h.b0 h.n0
  have k3:=hT.keep h.ps.hj h.n3
  have k4:=hT.keep h.ps.hi h.n4
  exact ⟨hP,hI,hb,k0.1,k0.2,⟨k4.1,k3.1,h.ps.ne,h.ps.sl⟩,k3.2,k4.2,h.inv,h.nj,fun x=>by rw [ht,hf]; exact h.eq x,fun x=>by rw [hf]; exact h.fd x⟩
theorem TP.gr {p : Pl} {a : Ad} {s : Sy} {st : List Int} {K K' : List Blk} (h : TP p a s st K) (g : Gr nof K K') : TP p a s st K' :=
  ⟨h.pm.gr g fun _ _ h=>h,h.iv,h.hb,g.at h.b0 fun h=>h,h.n0,⟨g.at h.ps.hi fun h=>h,g.at h.ps.hj fun h=>h,h.ps.ne,h.ps.sl⟩,h.n3,h.n4,h.inv,h.nj,h.eq,h.fd⟩
theorem TP.run {p : Pl} (hp : pcheck p=0) {a a' : Ad} {s s' : Sy} {st : List Int} {K K' : List Blk} (h : TP p a s st K) {n : Nat} (hP : PM K' p a' s') (hT : Tr p K a K' a') (hI : Iv p s') (hE : Eqv p s' (itS p s n)) : TP p a' s' st K':=by
  obtain ⟨g1,g2,g3,g4⟩:=h.iv.1.it hp n
  exact h.pla hP hT hI (fun m hm=>by rw [hE.hal,g3]; exact h.hb m hm) (fun x=>by rw [hE.tot x,g2 x]) (hE.fed.trans g4)
theorem TP.fol {p : Pl} {a : Ad} {s : Sy} {st : List Int} {K K' : List Blk} (h : TP p a s st K) (hP : PM K' p a (folS p st s p.ms.length)) (hT : Tr p K a K' a) : TP p a (folS p st s p.ms.length) st K' :=
  h.pla hP hT (folS_iv st h.iv _) (folS_hal h.hb _).1 (folS_tot p st s _).1 (folS_tot p st s _).2.1
theorem TP.feed {p : Pl} (ok : POk p) {a : Ad} {s : Sy} {st : List Int} {K K' : List Blk} (h : TP p a s st K) {xs : List Int} (he : fitE p.mt s.fed xs=0) (h0 : ∀ x,s.fed.getD x 0=0) (hx : ∀ x,xs.getD x 0≤9) (hP : PM K' p a (feedR p s xs)) (hT : Tr p K a K' a) : TP p a (feedR p s xs) st K':=by
  have k0:=hT.keep h.b0 h.n0
  have k3:=hT.keep h.ps.hj h.n3
  have k4:=hT.keep h.ps.hi h.n4
  refine ⟨hP,h.iv.feedR ok xs,?_,k0.1,k0.2,⟨k4.1,k3.1,h.ps.ne,h.ps.sl⟩,k3.2,k4.2,h.inv,h.nj,fun x=>by have:=feedR_dif' ok h.iv xs x; have:=h.eq x; omega,fun x=>?_⟩
  · have:=h.hb
    unfold feedR
    rw [if_pos he]
    exact this
  · unfold feedR
    rw [if_pos he]
    show (plusM s.fed xs).getD x 0≤_
    rw [plus_get h.iv.1.fd.1 (fitE_ok he).1.1]
    have:=h0 x
    have:=hx x
    omega
theorem stop_nj {c : Cn} {st : List Int} (sl : st.length=c.n) (h : ∀ i,i < c.n→st.getD i 0≠2) (m : Int) : ∀ i,i < c.n→(stopL c st m).getD i 0≠2:=fun i hi=>by
  unfold stopL
  rw [stopF_get _ _ _ _ (by omega)]
  have:=h i hi
  split
  · unfold stp; split<;>omega
  · exact this
theorem stop_two {c : Cn} (ok : CnOk c) {st : List Int} (h : InvP c st) (hj : ∀ i,i < c.n→st.getD i 0≠2) (m : Int) : ((stopR c st m).1=7∨(stopR c st m).1=0)∧InvP c (stopR c st m).2∧∀ i,i < c.n→(stopR c st m).2.getD i 0≠2:=by
  have:=act_inv ok h (1,m)
  unfold actR at this
  simp only [if_neg (show ¬ (1 : Int)=0 by omega),if_true] at this
  refine ⟨?_,this,?_⟩
  · unfold stopR; split
    · exact .inl rfl
    · exact .inr rfl
  · unfold stopR; split
    · exact hj
    · exact stop_nj h.sl hj m
theorem all_on {p : Pl} {s : Sy} {st : List Int} (hl : s.hal.length=p.ms.length) (hb : ∀ m,binN p m→s.hal.getD m false=false) (ho : ∀ i,i < p.ms.length→st.getD i 0=1) : noH (folS p st s p.ms.length):=fun m=>by
  by_cases hm : m < p.ms.length
  · exact (folS_hal hb _).2 m hm (by omega) (ho m hm)
  · have:=(folS_tot p st s p.ms.length).2.2
    rw [List.getD_eq_getElem?_getD,List.getElem?_eq_none (by omega)]; rfl
set_option maxHeartbeats 4000000 in
theorem topControlPlant_vr (p : Pl) (xs0 st0 : List Int) : VR P false n_top_TopControlPlant [plA true true p,.fs true (ints xs0),.fs true (ints st0)] [] (isR (.v (.bool true))):=by
  refine vr_top_TopControlPlant (by simp) (.inr rfl) fun _ _=>?_
  have hck:=ref35Check_vr (w:=true) (v:=true) p
  have hnw:=fun H=>new_vr (H:=H) (w:=true) (v:=true) p
  have hbd:=fun g=>plantBound_vr (w:=true) (v:=true) p g
  have hex:=topAwake36_vr
  by_cases h1 : (p.ms.length : Int) > 10
  case pos =>
    unfold plA plC at *
    simp (disch:=((try simp only [lZ]); omega)) only [aZ,aM,s_top_TopControlPlant,v_top_TopControlPlant,decide_eq_true h1]
    refine hex.same rfl rfl (aret_of ?_)
    simp (disch:=((try simp only [lZ]); omega)) only [aZ,aM,r_top_TopControlPlant]
    exact post_v ⟨rfl,rfl⟩
  by_cases h2 : (p.bs.length : Int) > 20
  case pos =>
    unfold plA plC at *
    simp (disch:=((try simp only [lZ]); omega)) only [aZ,aM,s_top_TopControlPlant,v_top_TopControlPlant,decide_eq_false h1,decide_eq_true h2]
    refine hex.same rfl rfl (aret_of ?_)
    simp (disch:=((try simp only [lZ]); omega)) only [aZ,aM,r_top_TopControlPlant]
    exact post_v ⟨rfl,rfl⟩
  by_cases h3 : (st0.length : Int) > 10
  case pos =>
    unfold plA plC at *
    simp (disch:=((try simp only [lZ]); omega)) only [aZ,aM,s_top_TopControlPlant,v_top_TopControlPlant,decide_eq_false h1,decide_eq_false h2,decide_eq_true h3]
    refine hex.same rfl rfl (aret_of ?_)
    simp (disch:=((try simp only [lZ]); omega)) only [aZ,aM,r_top_TopControlPlant]
    exact post_v ⟨rfl,rfl⟩
  by_cases hc : chkP p=0
  case neg =>
    unfold plA plC at *
    simp (disch:=((try simp only [lZ]); omega)) only [aZ,aM,s_top_TopControlPlant,v_top_TopControlPlant,decide_eq_false h1,decide_eq_false h2,decide_eq_false h3]
    refine hck.same (by simp (disch:=first | omega | simp (disch:=omega) only [aG,aM]) only [fZ,aM]) rfl (aret_of ?_)
    simp (disch:=((try simp only [lZ]); omega)) only [aZ,aM,decide_eq_true (show ¬ chkP p=0 from hc)]
    refine hex.same rfl rfl (aret_of ?_)
    simp (disch:=((try simp only [lZ]); omega)) only [aZ,aM,r_top_TopControlPlant]
    exact post_v ⟨rfl,rfl⟩
  have hp:=(chkP_ok hc).1
  have ok:=pcheck_ok hp
  have cok:=cn_ok hp
  obtain ⟨m1,m2,m3⟩:=ok.mt1
  have n2:=ok.n2
  have hcn:=controlNew_ok (w:=true) (v:=true) hp
  have hco:=controlOrder_ok (w:=true) (v:=true) hp
  have hfo:=fun (H : List Blk) (ad : Ad) (s : Sy) (st : List Int) (hP : PM H p ad s) (hI : Iv p s) (h : PS H 4 3 (cnP p) st)=>topFollows_vr ok hP hI h
  have hn : (cnP p).n=p.ms.length:=rfl
  have inv0 : InvP (cnP p) (List.replicate (cnP p).n 0):=off_inv
  have nj0 : ∀ i,i < (cnP p).n→(List.replicate (cnP p).n (0 : Int)).getD i 0≠2:=fun i hi=>by
    simp [List.getD_eq_getElem?_getD,hi]
  unfold ordT at hco
  obtain ⟨f,hf⟩ : ∃ f : Nat→Int,f=fun x=>if x < xs0.length then max 0 (min 9 (xs0.getD x 0)) else 0:=⟨_,rfl⟩
  have hf4 : ∀ x,0≤f x∧f x≤9:=fun x=>by rw [hf]; simp only; split<;>omega
  have hz : List.replicate p.mt (0 : Int)=tbK p.mt f 0:=(tbK_zero _ _).symm
  unfold plA plC at *
  rw [m3] at hck hcn hco ⊢
  simp only [m3] at hnw hbd hfo
  obtain ⟨c,hcc⟩ : ∃ c,c=cnP p:=⟨_,rfl⟩
  rw [← hcc] at hcn hco cok hn inv0 nj0
  simp (disch:=((try simp only [lZ]); omega)) only [aZ,aM,s_top_TopControlPlant,v_top_TopControlPlant,decide_eq_false h1,decide_eq_false h2,decide_eq_false h3]
  refine hck.same (by simp (disch:=first | omega | simp (disch:=omega) only [aG,aM]) only [fZ,aM]) rfl (aret_of ?_)
  simp (disch:=((try simp only [lZ]); omega)) only [aZ,aM,hc]
  refine hcn.useO (LdL.refl (by simp (disch:=first | omega | simp (disch:=omega) only [aG,aM]) only [fZ,aM])) (by rw [panG_cl]; rfl) (aret_of ?_)
  rw [panG_sh,newSh]
  simp (disch:=((try simp only [lZ]); omega)) only [aZ,aM,Nat.reduceAdd]
  subst hcc
  have hps : PS [⟨0,[.v (.int .i64 p.mt),.fs true (mcs true p.ms),.fs true (bts p.bs),.v (.int .i64 p.fd)]⟩,⟨0,[.any,.any,.any,.any]⟩,⟨0,[.any,.any]⟩,⟨0,ints (List.replicate (cnP p).n 0)⟩,⟨0,panC (cnP p) 3⟩] 4 3 (cnP p) (List.replicate (cnP p).n 0):=⟨by simp [blkAt],by simp [blkAt],by decide,by simp⟩
  refine (hnw _ hc).mono ?_
  rintro r K0 ⟨a0,rfl,P0,G0,L0⟩
  have T0 : TP p a0 (newS p) (List.replicate (cnP p).n 0) K0:=by
    exact ⟨P0,Iv.new p,fun m _=>noH_new p m,G0.at rfl (fun h=>h),nftp_lo L0 (by simp),⟨G0.at hps.hi (fun h=>h),G0.at hps.hj (fun h=>h),hps.ne,hps.sl⟩,nftp_lo L0 (by simp),nftp_lo L0 (by simp),inv0,nj0,fun x=>by rw [new_tot]; exact (zeros_get _ _).symm,fun x=>by rw [show (newS p).fed.getD x 0=0 from zeros_get _ _]; omega⟩
  have b0:=T0.b0
  clear G0 L0 hps P0
  refine aret_of ?_
  simp (disch:=((try simp only [lZ]); omega)) only [aZ,aM,b0]
  refine hco.same (by simp (disch:=first | omega | simp (disch:=omega) only [aG,aM]) only [fZ,aM]) (by simp (disch:=first | omega | simp (disch:=omega) only [aG,aM]) only [fZ,aM]) (aret_of ?_)
  simp (disch:=((try simp only [lZ]); omega)) only [aZ,aM,b0,hz]
  refine AWP.loopM g_top_TopControlPlant_0 (fun k : Nat=>k≤p.mt) (fun k=>[(12,.v (.int .i64 k))]) (fun k=>K0++[⟨0,ints (tbK p.mt f k)⟩]) (fun k=>p.mt - k) 0 (by omega) ?_ ?_
  · exact Cut.fg (by simp (disch:=first | omega | simp (disch:=omega) only [aG,aM]) only [fZ,aM,fgl_nil,fgl_cons,or_true,true_or])
  rintro k hk
  have kl:=tbK_len p.mt f k
  by_cases hkt : k < p.mt
  · have ks:=tbK_set p.mt f k hkt
    by_cases hkr : k < xs0.length
    · have fk : max 0 (min 9 (xs0.getD k 0))=f k:=by rw [hf]; simp only; rw [if_pos hkr]
      simp (disch:=((try simp only [lZ]); omega)) only [aZ,aM,decide_eq_true (show (k : Int) < xs0.length by omega),fk,ks,blkAt_new0,set_tail]
      refine ⟨k+1,by omega,by omega,?_⟩
      try simp (disch:=((try simp only [lZ]); omega)) only [aZ,aM]
      exact Cut.fg (by simp (disch:=first | omega | simp (disch:=omega) only [aG,aM]) only [fZ,aM,fgl_nil,fgl_cons,or_true,true_or])
    · have fk : f k=0:=by rw [hf]; simp only; rw [if_neg hkr]
      have ks2:=tbK_same p.mt f k hkt fk
      simp (disch:=((try simp only [lZ]); omega)) only [aZ,aM,decide_eq_false (show ¬ (k : Int) < xs0.length by omega)]
      refine ⟨k+1,by omega,by omega,?_⟩
      rw [← ks2]
      try simp (disch:=((try simp only [lZ]); omega)) only [aZ,aM]
      exact Cut.fg (by simp (disch:=first | omega | simp (disch:=omega) only [aG,aM]) only [fZ,aM,fgl_nil,fgl_cons,or_true,true_or])
  have hke : k=p.mt:=by omega
  subst hke
  rw [tbK_all]
  have tl : (tb p.mt f).length=p.mt:=tb_len _ _
  have T1:=T0.gr (Gr.app K0 [⟨0,ints (tb p.mt f)⟩])
  have hfit:=fit_small (c:=9) m2 (fed:=(newS p).fed) (bd:=0) (f:=f) (fun x _=>hf4 x) (fun x=>by rw [show (newS p).fed.getD x 0=0 from zeros_get _ _]; omega) (by omega)
  have hfd:=feed_s (j:=K0.length) (v:=0) (xs:=tb p.mt f) hp T1.pm T1.iv (by rw [blkAt_new0]; rfl) (T0.pm.nftp (Nat.le_refl _))
  rw [tl,hfit] at hfd
  simp (disch:=((try simp only [lZ]); omega)) only [aZ,aM]
  refine hfd.mono ?_
  rintro r K2 ⟨rfl,P2,R2⟩
  have T2:=T1.feed ok hfit (fun x=>zeros_get _ _) (fun x=>by
    by_cases hx : x < p.mt
    · rw [tb_get _ _ _ hx]; exact (hf4 x).2
    · rw [get_out tl (by omega)]; omega) P2 R2
  generalize feedR p (newS p) (tb p.mt f)=s1 at *
  clear hfd P2 R2 T1 T0 b0 tl hfit hf4 hz hf kl
  have hOL : ∀ K st,PS K 4 3 (cnP p) st→InvP (cnP p) st→(∀ i,i < (cnP p).n→st.getD i 0≠2)→_:=fun K st h1 h2 h3=>topStart_vr cok h1 h2 h3
  obtain ⟨o1,o2⟩:=ordL_row cok
  have hon:=fun st (hl : st.length=(cnP p).n) h=>stt_end cok (st:=st) hl h
  have hsi:=fun st h0 hj=>stt_inv cok (st:=st) h0 hj (cnP p).G.length (Nat.le_refl _)
  have hsj:=fun st (hl : st.length=(cnP p).n) h=>(stt_all cok (st:=st) hl h (cnP p).G.length (Nat.le_refl _)).nj
  generalize ordL (cnP p) (cnP p).G.length=OL at *
  refine aret_of ?_
  simp (disch:=((try simp only [lZ]); omega)) only [aZ,aM]
  refine (hOL K2 _ T2.ps T2.inv T2.nj).mono ?_
  rintro r K3 ⟨rfl,hK3⟩
  have T3:=T2.pan _ (hsi _ T2.inv T2.nj) (hsj _ T2.inv.sl T2.nj)
  rw [← hK3] at T3
  clear hK3 T2
  refine aret_of ?_
  simp (disch:=((try simp only [lZ]); omega)) only [aZ,aM]
  refine AWP.loopM g_top_TopControlPlant_1 (fun x : Nat×Ad×Sy×List Int×List Blk=>x.1≤st0.length∧TP p x.2.1 x.2.2.1 x.2.2.2.1 x.2.2.2.2∧(x.2.1 .root).1=(a0 .root).1) (fun x=>[(16,.v (.int .i64 x.1))]) (fun x=>x.2.2.2.2) (fun x=>st0.length - x.1) (0,a0,s1,_,K3) ⟨by omega,T3,rfl⟩ ?_ ?_
  · exact Cut.fg (by simp (disch:=first | omega | simp (disch:=omega) only [aG,aM]) only [fZ,aM,fgl_nil,fgl_cons,or_true,true_or])
  clear T3
  rintro ⟨i,a,s,st,K⟩ ⟨hi,T,ra⟩
  simp only at hi T ra
  by_cases hit : i < st0.length
  · generalize hm : st0.getD i 0=m
    obtain ⟨hst,hiv,hnj⟩:=stop_two cok T.inv T.nj m
    have hsp:=stop_ps cok T.ps m
    have T2:=T.pan _ hiv hnj
    generalize stopR (cnP p) st m=z at *
    obtain ⟨z1,z2⟩:=z
    simp only at *
    simp (disch:=((try simp only [lZ]); omega)) only [aZ,aM,hm]
    refine hsp.mono ?_
    rintro r K2 ⟨rfl,hK2⟩
    rw [← hK2] at T2
    clear hK2 hsp
    have hsf:=safe_ps cok T2.ps
    rw [decide_eq_true T2.inv.safe] at hsf
    have hf1:=hfo _ _ _ _ T2.pm T2.iv T2.ps T2.n4 T2.n3
    rw [ra] at hf1
    refine aret_of ?_
    rcases hst with rfl | rfl
    · simp (disch:=((try simp only [lZ]); omega)) only [aZ,aM,T2.b0]
      refine hf1.mono ?_
      rintro r K3 ⟨rfl,P3,R3⟩
      have T3:=T2.fol P3 R3
      have hr:=run_e hp T3.pm T3.iv 5 (by omega)
      rw [ra] at hr
      refine aret_of ?_
      simp (disch:=((try simp only [lZ]); omega)) only [aZ,aM]
      refine hr.mono ?_
      rintro r K4 ⟨rfl,s4,a4,P4,R4,I4,E4⟩
      have T4:=T3.run hp P4 R4 I4 E4
      refine aret_of ?_
      simp (disch:=((try simp only [lZ]); omega)) only [aZ,aM]
      refine ⟨(i+1,a4,s4,z2,K4),⟨by simp only; omega,T4,(congrArg Prod.fst R4.2.2).trans ra⟩,by simp only; omega,?_⟩
      try simp (disch:=((try simp only [lZ]); omega)) only [aZ,aM]
      exact Cut.fg (by simp (disch:=first | omega | simp (disch:=omega) only [aG,aM]) only [fZ,aM,fgl_nil,fgl_cons,or_true,true_or])
    · simp (disch:=((try simp only [lZ]); omega)) only [aZ,aM]
      refine hsf.mono ?_
      rintro r Q2 ⟨rfl,hQ2⟩
      subst hQ2
      refine aret_of ?_
      simp (disch:=((try simp only [lZ]); omega)) only [aZ,aM,T2.b0]
      refine hf1.mono ?_
      rintro r K3 ⟨rfl,P3,R3⟩
      have T3:=T2.fol P3 R3
      have hr:=run_e hp T3.pm T3.iv 5 (by omega)
      rw [ra] at hr
      refine aret_of ?_
      simp (disch:=((try simp only [lZ]); omega)) only [aZ,aM]
      refine hr.mono ?_
      rintro r K4 ⟨rfl,s4,a4,P4,R4,I4,E4⟩
      have T4:=T3.run hp P4 R4 I4 E4
      refine aret_of ?_
      simp (disch:=((try simp only [lZ]); omega)) only [aZ,aM]
      refine ⟨(i+1,a4,s4,z2,K4),⟨by simp only; omega,T4,(congrArg Prod.fst R4.2.2).trans ra⟩,by simp only; omega,?_⟩
      try simp (disch:=((try simp only [lZ]); omega)) only [aZ,aM]
      exact Cut.fg (by simp (disch:=first | omega | simp (disch:=omega) only [aG,aM]) only [fZ,aM,fgl_nil,fgl_cons,or_true,true_or])
  have hie : i=st0.length:=by omega
  subst hie
  simp (disch:=((try simp only [lZ]); omega)) only [aZ,aM]
  refine (hOL K _ T.ps T.inv T.nj).mono ?_
  rintro r K1 ⟨rfl,hK1⟩
  have T1:=T.pan _ (hsi _ T.inv T.nj) (hsj _ T.inv.sl T.nj)
  have on1:=hon st T.inv.sl T.nj
  rw [← hK1] at T1
  clear hK1
  generalize sttS (cnP p) st (cnP p).G.length=st1 at *
  have hf1:=hfo _ _ _ _ T1.pm T1.iv T1.ps T1.n4 T1.n3
  rw [ra] at hf1
  have nh:=all_on T1.iv.1.hl T1.hb on1
  refine aret_of ?_
  simp (disch:=((try simp only [lZ]); omega)) only [aZ,aM,T1.b0]
  refine hf1.mono ?_
  rintro r K2 ⟨rfl,P2,R2⟩
  have D2:=T1.fol P2 R2
  generalize folS p st1 s p.ms.length=s2 at *
  clear hf1 P2 R2 T1 T hOL hsi hsj hon hfo
  have hsi:=sumI_le D2.iv.1 D2.eq D2.fd (by omega) m2
  have hsv:=sumI_vr (w:=false) m2 D2.iv.1
  have hbn : bndR p (sumI p s2)=(sumI p s2*perP p,0):=by unfold bndR; rw [if_neg (fun h=>h hc),if_neg (by omega)]
  have hmul:=bnd_mul hc (g:=sumI p s2) (by omega)
  have hbd1:=hbd (sumI p s2)
  rw [hbn] at hbd1
  obtain ⟨g,hgn⟩ : ∃ g : Nat,sumI p s2=g:=⟨(sumI p s2).toNat,by omega⟩
  have hgp : sumI p s2*perP p=((g*(perP p).toNat : Nat) : Int):=by rw [hgn,Int.natCast_mul,Int.toNat_of_nonneg hmul.2.2.1]
  have hz0:=sumI_bnd hc g D2.iv.1 nh (by omega)
  have hi1:=inside_m hp D2.pm D2.iv.1
  rw [ra] at hi1
  have b2:=D2.b0
  generalize g*(perP p).toNat=N at *
  refine aret_of ?_
  simp (disch:=((try simp only [lZ]); omega)) only [aZ,aM,b2]
  refine ⟨?_,?_,?_⟩<;>(
    refine hi1.mono ?_
    rintro r K3 ⟨rfl,G3,O3⟩
    have D3:=D2.gr G3
    have b3:=D3.b0
    refine aret_of ?_
    simp (disch:=((try simp only [lZ]); omega)) only [aZ,aM,b3]
    refine hsv.use ⟨ld_slI K3 _ _ _ _ (insL_len _ _).symm O3,trivial⟩ rfl (aret_of ?_)
    simp (disch:=((try simp only [lZ]); omega)) only [aZ,aM,b3]
    refine hbd1.same (by simp (disch:=first | omega | simp (disch:=omega) only [aG,aM]) only [fZ,aM]) rfl (aret_of ?_)
    by_cases hn2 : sumI p s2*perP p > 2000
    case pos =>
      simp (disch:=((try simp only [lZ]); omega)) only [aZ,aM,decide_eq_true hn2]
      refine hex.same rfl rfl (aret_of ?_)
      simp (disch:=((try simp only [lZ]); omega)) only [aZ,aM,r_top_TopControlPlant]
      exact post_v ⟨rfl,rfl⟩
    have hr:=run_e hp D3.pm D3.iv N (by omega)
    rw [ra] at hr
    simp (disch:=((try simp only [lZ]); omega)) only [aZ,aM,decide_eq_false hn2]
    rw [hgp]
    refine hr.mono ?_
    rintro r K4 ⟨rfl,s4,a4,P4,T4,I4,E4⟩
    have D4:=D3.run hp P4 T4 I4 E4
    have hz3 : sumI p s4=0:=E4.sumI.trans hz0
    have ra4:=(congrArg Prod.fst T4.2.2).trans ra
    have hi4:=inside_m hp D4.pm D4.iv.1
    rw [ra4] at hi4
    have hsv4:=sumI_vr (w:=false) m2 D4.iv.1
    rw [hz3] at hsv4
    refine aret_of ?_
    simp (disch:=((try simp only [lZ]); omega)) only [aZ,aM]
    refine hi4.mono ?_
    rintro r K5 ⟨rfl,G5,O5⟩
    refine aret_of ?_
    simp (disch:=((try simp only [lZ]); omega)) only [aZ,aM]
    refine hsv4.use ⟨ld_slI K5 _ _ _ _ (insL_len _ _).symm O5,trivial⟩ rfl (aret_of ?_)
    simp (disch:=((try simp only [lZ]); omega)) only [aZ,aM]
    refine hex.same rfl rfl (aret_of ?_)
    simp (disch:=((try simp only [lZ]); omega)) only [aZ,aM,r_top_TopControlPlant]
    exact post_v ⟨rfl,rfl⟩)
end Go.Proofs.YtdkoindoljngmaaGreat
