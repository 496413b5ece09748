/- Lemmas and walks that the proof of TopDrains uses. No statement is claimed here. -/
import Derived.Test.YtdkoindoljngmaaTopDrainsZao
namespace Go.Proofs.Ytdkoindoljngmaa
open Go Go.Lft
set_option linter.unusedSimpArgs false
set_option linter.unusedVariables false
def rcv (p : Pl) (s : Sy) (m : Nat) (x : Nat) : Int:=sm p.bs.length fun i=>if tpS p i=m then (outM p s i).getD x 0 else 0
theorem rcv_nn {p : Pl} {s : Sy} (h : Gd p s) (m x i : Nat) (hi : i < p.bs.length) : 0≤(if tpS p i=m then (outM p s i).getD x 0 else 0):=by
  split
  · exact ((h.ok.out hi).2 x).1
  · omega
theorem rcv_ge {p : Pl} {s : Sy} (h : Gd p s) (x : Nat) {i : Nat} (hi : i < p.bs.length) : (outM p s i).getD x 0≤rcv p s (tpS p i) x:=by
  have:=sm_le (f:=fun j=>if tpS p j=tpS p i then (outM p s j).getD x 0 else 0) (fun j hj=>rcv_nn h _ x j hj) hi
  rw [if_pos rfl] at this; exact this
theorem arr_get {p : Pl} {s : Sy} (h : Gd p s) {m : Nat} (hm : m < p.ms.length) (x : Nat) : (arrL p s m).getD x 0=(s.bef m).getD x 0+rcv p s m x:=by
  unfold arrL arrK
  by_cases hx : x < p.mt
  · rw [tb_get _ _ _ hx]; rfl
  · rw [get_out (n:=p.mt) (tb_len _ _) (by omega),get_out (h.bl m hm).1 (by omega)]
    unfold rcv
    rw [sm_congr (g:=fun _=>0) fun i hi=>by
      split
      · exact get_out (h.ok.out hi).1 (by omega)
      · rfl,sm_zero]; rfl
theorem arr_ok {p : Pl} (ok : POk p) {s : Sy} (h : Gd p s) {m : Nat} (hm : m < p.ms.length) : MixOk p.mt (arrL p s m):=by
  have:=(h.mvK ok p.bs.length (Nat.le_refl _)).1.ok.bef m hm
  rw [mvK_bef ok h hm _ (Nat.le_refl _)] at this; exact this
def binT (p : Pl) (s : Sy) (x : Nat) : Int:=sm p.ms.length fun m=>if outsN (p.ms.getD m [])=0 then (s.bef m).getD x 0 else 0
theorem tot_ins (p : Pl) (s : Sy) (x : Nat) : tot p s x=insT p s x+binT p s x:=by
  unfold tot insT binT befT
  have h1 : (sm p.ms.length fun m=>(s.bef m).getD x 0)=sm p.ms.length (inM p s x)+sm p.ms.length fun m=>if outsN (p.ms.getD m [])=0 then (s.bef m).getD x 0 else 0:=by
    rw [← sm_add]
    refine sm_congr fun m hm=>?_
    unfold inM; split<;>omega
  have h2 : fstT p s x+rngT p s x=sm p.bs.length (inB p s x):=by
    unfold fstT rngT; rw [← sm_add]; exact sm_congr fun i _=>rfl
  omega
theorem bin_stp {p : Pl} (ok : POk p) {s : Sy} (h : Gd p s) (x : Nat) : binT p (stpS p s) x=binT p s x+sm p.ms.length fun m=>if outsN (p.ms.getD m [])=0 then rcv p s m x else 0:=by
  unfold binT
  rw [← sm_add]
  refine sm_congr fun m hm=>?_
  split
  · rename_i hb
    rw [stp_bef ok h hm,if_neg (fun hr=>hr (.inl hb)),arr_get h hm]
  · rfl
theorem bin_nn {p : Pl} {s : Sy} (h : Gd p s) (x m : Nat) : 0≤(if outsN (p.ms.getD m [])=0 then rcv p s m x else 0):=by
  split
  · exact sm_nn fun i hi=>rcv_nn h m x i hi
  · omega
theorem ins_stp {p : Pl} (hp : pcheck p=0) {s : Sy} (h : Gd p s) (x : Nat) : insT p (stpS p s) x≤insT p s x∧∀ b,b < p.ms.length→binN p b→insT p (stpS p s) x≤insT p s x - rcv p s b x:=by
  have h1:=(h.stp hp).2.1 x
  rw [tot_ins,tot_ins,bin_stp (pcheck_ok hp) h] at h1
  have h2:=sm_nn (n:=p.ms.length) (f:=fun m=>if outsN (p.ms.getD m [])=0 then rcv p s m x else 0) fun m _=>bin_nn h x m
  refine ⟨by omega,fun b hb hbin=>?_⟩
  have h3:=sm_le (f:=fun m=>if outsN (p.ms.getD m [])=0 then rcv p s m x else 0) (fun m _=>bin_nn h x m) hb
  rw [if_pos (show outsN (p.ms.getD b [])=0 from hbin)] at h3
  omega
theorem ins_it {p : Pl} (hp : pcheck p=0) {s : Sy} (h : Gd p s) (x : Nat) : ∀ k j,insT p (itS p s (j+k)) x≤insT p (itS p s j) x
  | 0,j=>Int.le_refl _
  | k+1,j=>Int.le_trans (ins_stp hp (h.it hp (j+k)).1 x).1 (ins_it hp h x k j)
theorem posR_next (p : Pl) (mt : Int) (i : Nat) : ∀ j,posR p mt (nx p mt i) j=posR p mt i (j+1)
  | 0=>rfl
  | j+1=>by simp only [posR,posR_next p mt i j]
theorem farR_next (p : Pl) (mt : Int) (i : Nat) : ∀ j,farR p mt i (j+1)=lx p mt i+farR p mt (nx p mt i) j
  | 0=>by simp [farR,posR]
  | j+1=>by
    have:=farR_next p mt i j
    simp only [farR] at this ⊢
    rw [posR_next,Int.add_assoc,← Int.add_assoc,← Int.add_assoc]
    simp only [posR] at this ⊢
    omega
theorem way_next {p : Pl} (h : POk p) {mt : Int} (h0 : 0 ≤ mt) (h1 : mt < p.mat) {i : Nat} (hi : i < p.ms.length) (hb : ¬ binN p i) (hw : (wayV p mt i).2 = true) :
    (wayV p mt (nx p mt i)).2=true∧(wayV p mt i).1=(wayV p mt (nx p mt i)).1+lx p mt i∧0≤(wayV p mt (nx p mt i)).1:=by
  have hn:=(out_ok h h0 h1 hi hb).2.2.2.1
  have hn2:=h.n2
  rcases wayR_cases h h0 h1 hi with ⟨k,k1,k2,k3,k4⟩ | ⟨k1,k2⟩
  · match k,k1,k2,k3,k4 with
    | 0,_,_,k3,_=>exact (hb k3).elim
    | k+1,k1,k2,k3,k4 =>
      have c1 : ∀ j,j < k→¬ binN p (posR p mt (nx p mt i) j):=fun j hj=>by rw [posR_next]; exact k2 (j+1) (by omega)
      have c2 : binN p (posR p mt (nx p mt i) k):=by rw [posR_next]; exact k3
      have c3:=wayR_of (f:=p.ms.length) (by omega) c1 c2
      have c4:=farR_bd h h0 h1 hn k c1
      unfold wayV
      rw [k4,c3,farR_next]
      exact ⟨rfl,by simp only; omega,c4.1⟩
  · unfold wayV at hw
    rw [k2] at hw; cases hw
theorem way_far {p : Pl} (h : POk p) {mt : Int} (h0 : 0≤mt) (h1 : mt < p.mat) {i : Nat} (hi : i < p.ms.length) (hw : (wayV p mt i).2=true) : 0≤(wayV p mt i).1∧(wayV p mt i).1≤16*p.ms.length:=by
  rcases wayR_cases h h0 h1 hi with ⟨k,k1,k2,k3,k4⟩ | ⟨k1,k2⟩
  · have:=farR_bd h h0 h1 hi k k2
    unfold wayV
    rw [k4]
    simp only; omega
  · unfold wayV at hw
    rw [k2] at hw; cases hw
theorem belt_way {p : Pl} {s : Sy} {i : Nat} (hi : i < p.bs.length) (j k : Nat) : ∀ d,k+d≤p.rl i→slt p (itS p s (j+d)) i (k+d)=slt p (itS p s j) i k
  | 0,_=>rfl
  | d+1,hd=>by
    rw [← Nat.add_assoc,← Nat.add_assoc]
    simp only [itS]
    rw [stp_sltS hi (by omega)]; exact belt_way hi j k d (by omega)
theorem belt_end {p : Pl} {s : Sy} {i k : Nat} (hi : i < p.bs.length) (hk : k≤p.rl i) (j : Nat) : outM p (itS p s (j+(p.rl i - k))) i=slt p (itS p s j) i k:=by
  have:=belt_way (p:=p) (s:=s) hi j k (p.rl i - k) (by omega)
  rw [show k+(p.rl i - k)=p.rl i by omega] at this
  rw [out_slt,this]
theorem prt_main {p : Pl} (hp : pcheck p=0) {m x : Nat} (hm : m < p.ms.length) (hb : ¬ binN p m) {l : List Int} (hl : MixOk p.mt l) (hx : x < p.mt) (h1 : 1≤l.getD x 0) : 1≤(prtL p m l (mainN (p.ms.getD m []) x).toNat).getD x 0:=by
  obtain ⟨z1,z2,z3⟩:=msE_zero (msE_good hp hm hb hl)
  have ok:=pcheck_ok hp
  obtain ⟨m1,m2,m3⟩:=ok.mt1
  have hxl : x < l.length:=by rw [hl.1]; exact hx
  have hk : x < (p.ms.getD m []).length:=by have:=z1.len; omega
  have d:=divM_ok z1 z2 hk (z3 x hxl)
  obtain ⟨g1,g2,g3⟩:=mainN_ok (ok.mc _ (mem_get [] hm)) hb (k:=x) (by omega) (by omega)
  unfold prtL
  rw [msM_at _ _ (by omega) hxl]
  exact d.first (by omega)
def noH (s : Sy) : Prop:=∀ m : Nat,s.hal.getD m false=false
theorem noH_it {p : Pl} (hp : pcheck p=0) {s : Sy} (h : Gd p s) (hh : noH s) (k : Nat) : noH (itS p s k):=fun m=>by rw [(h.it hp k).2.2.1]; exact hh m
theorem way_out {p : Pl} (hc : chkP p = 0) {s : Sy} (h : Gd p s) (hh : noH s) {x : Nat} (hx : x < p.mt) : ∀ (n m j : Nat), m < p.ms.length → ¬ binN p m → (wayV p x m).1 = n → 1 ≤ (arrL p (itS p s j) m).getD x 0 →
    ∃ t b,t≤j+n∧b < p.ms.length∧binN p b∧1≤rcv p (itS p s t) b x:=by
  obtain ⟨hp,hd⟩:=chkP_ok hc
  have ok:=pcheck_ok hp
  obtain ⟨m1,m2,m3⟩:=ok.mt1
  have hdr:=(drB_iff ok).1 hd
  intro n
  induction n using Nat.strongRecOn with
  | ind n ih =>
    intro m j hm hb hn ha
    obtain ⟨o1,o2,o3,o4,o5,o6,o7⟩:=out_ok ok (mt:=x) (by omega) (by omega) hm hb
    obtain ⟨w1,w2,w3⟩:=way_next ok (mt:=x) (by omega) (by omega) hm hb (hdr m hm x (by omega))
    obtain ⟨f1,f2,f3⟩:=findB_ok o1
    have hgj:=(h.it hp j).1
    have hrl : (p.rl (outB p x m) : Int)+1=lx p x m:=by
      have : lx p x m=(p.bs.getD (outB p x m) b0).ln:=rfl
      unfold Pl.rl; omega
    have hfr : frS p (outB p x m)=m:=by unfold frS; rw [o3]; rfl
    have hot : otS p (outB p x m)=(mainN (p.ms.getD m []) x).toNat:=by
      unfold otS outB; rw [f3]
    have hto : tpS p (outB p x m)=nx p x m:=rfl
    have hs0 : 1≤(slt p (itS p s (j+1)) (outB p x m) 0).getD x 0:=by
      show 1≤(slt p (stpS p (itS p s j)) (outB p x m) 0).getD x 0
      rw [stp_slt0 ok hgj o2,hfr,if_pos,hot]
      · exact prt_main hp hm hb (arr_ok ok hgj hm) hx ha
      · rintro (h1 | h1)
        · exact hb h1
        · rw [noH_it hp h hh j m] at h1; cases h1
    have he:=belt_end (p:=p) (s:=s) o2 (Nat.zero_le _) (j+1)
    rw [← he] at hs0
    have hg2:=(h.it hp (j+1+(p.rl (outB p x m) - 0))).1
    have hr:=rcv_ge hg2 x o2
    rw [hto] at hr
    by_cases hbn : binN p (nx p x m)
    · exact ⟨j+1+(p.rl (outB p x m) - 0),nx p x m,by omega,o4,hbn,by omega⟩
    · have hq:=out_ok ok (mt:=x) (by omega) (by omega) o4 hbn
      have ha2:=arr_get hg2 o4 x
      have hbb:=(hg2.bl _ o4).2 x
      obtain ⟨t,b,t1,t2,t3,t4⟩:=ih (wayV p x (nx p x m)).1.toNat (by omega) (nx p x m) _ o4 hbn (by omega) (by omega : 1≤(arrL p (itS p s (j+1+(p.rl (outB p x m) - 0))) (nx p x m)).getD x 0)
      exact ⟨t,b,by omega,t2,t3,t4⟩
theorem mxN_ge {n : Nat} {f : Nat→Int} : ∀ {i : Nat},i < n→f i≤mxN n f:=by
  induction n with
  | zero=>intro i hi; omega
  | succ n ih =>
    intro i hi
    simp only [mxN]
    by_cases e : i=n
    · subst e; exact Int.le_max_right _ _
    · exact Int.le_trans (ih (by omega)) (Int.le_max_left _ _)
theorem hgI_ge (p : Pl) (m : Nat) (h0 : Int) : ∀ k,h0≤hgI p m h0 k∧∀ x,x < k→(heightR p m x).1≤hgI p m h0 k
  | 0=>⟨Int.le_refl _,fun x hx=>by omega⟩
  | k+1=>by
    have ih:=hgI_ge p m h0 k
    simp only [hgI]
    refine ⟨Int.le_trans ih.1 (Int.le_max_left _ _),fun x hx=>?_⟩
    by_cases e : x=k
    · subst e; exact Int.le_max_right _ _
    · exact Int.le_trans (ih.2 x (by omega)) (Int.le_max_left _ _)
theorem hgO_ge (p : Pl) {x : Nat} (hx : x < p.mt) : ∀ (n m : Nat),m < n→(heightR p m x).1≤hgO p n
  | 0,m,h=>by omega
  | n+1,m,h=>by
    simp only [hgO]
    by_cases e : m=n
    · subst e; exact (hgI_ge p m _ _).2 x hx
    · exact Int.le_trans (hgO_ge p hx n m (by omega)) (hgI_ge p n _ _).1
theorem height_way {p : Pl} (hp : pcheck p=0) {m x : Nat} (hm : m < p.ms.length) (hx : x < p.mt) (hw : (wayV p x m).2=true) : (heightR p m x).1=(wayV p x m).1:=by
  obtain ⟨m1,m2,m3⟩:=(pcheck_ok hp).mt1
  unfold heightR
  rw [if_neg (fun hc=>hc hp),if_neg (by omega),if_neg (by omega),Int.toNat_natCast,hw,if_neg (by decide)]
theorem hgI_le {p : Pl} (hc : chkP p=0) {m : Nat} (hm : m < p.ms.length) {h0 : Int} (hh : h0≤16*p.ms.length) : ∀ k,k≤p.mt→hgI p m h0 k≤16*p.ms.length
  | 0,_=>hh
  | k+1,hk=>by
    obtain ⟨hp,hd⟩:=chkP_ok hc
    have ok:=pcheck_ok hp
    obtain ⟨m1,m2,m3⟩:=ok.mt1
    have ih:=hgI_le hc hm hh k (by omega)
    have hw:=(drB_iff ok).1 hd m hm k (by omega)
    have h1:=height_way hp hm (x:=k) (by omega) hw
    have h2:=way_far ok (mt:=k) (by omega) (by omega) hm hw
    simp only [hgI]
    omega
theorem per_le {p : Pl} (hc : chkP p=0) : 0≤perP p∧perP p≤16*p.ms.length+16:=by
  have q1:=lng_bd (pcheck_ok (chkP_ok hc).1) p.bs.length (Nat.le_refl _)
  have q2 : ∀ n,n≤p.ms.length→0≤hgO p n∧hgO p n≤16*p.ms.length:=by
    intro n
    induction n with
    | zero=>intro _; simp [hgO]; omega
    | succ n ih =>
      intro hn
      exact ⟨(hgO_bd hc (n+1) hn).1,hgI_le hc (by omega) (ih (by omega)).2 _ (Nat.le_refl _)⟩
  have:=q2 p.ms.length (Nat.le_refl _)
  unfold perP; omega
theorem sm_pos {n : Nat} {f : Nat→Int} (h : ∀ i,i < n→0≤f i) (hp : 0 < sm n f) : ∃ i,i < n∧0 < f i:=by
  apply Classical.byContradiction
  intro hc
  have : sm n f=0:=by
    rw [sm_congr (g:=fun _=>0) fun i hi=>by
      have:=h i hi
      have : ¬ 0 < f i:=fun h1=>hc ⟨i,hi,h1⟩
      omega,sm_zero]
  omega
theorem per_out {p : Pl} (hc : chkP p=0) {s : Sy} (h : Gd p s) (hh : noH s) {x : Nat} (hx : 0 < insT p s x) : insT p (itS p s (perP p).toNat) x+1≤insT p s x:=by
  obtain ⟨hp,hd⟩:=chkP_ok hc
  have ok:=pcheck_ok hp
  obtain ⟨m1,m2,m3⟩:=ok.mt1
  have hdr:=(drB_iff ok).1 hd
  have hper:=per_le hc
  have hlng:=lng_bd ok p.bs.length (Nat.le_refl _)
  have hxm : x < p.mt:=by
    apply Classical.byContradiction
    intro hcx
    have e1 : sm p.ms.length (inM p s x)=0:=by
      rw [sm_congr (g:=fun _=>0) fun m hm=>by unfold inM; split; rfl; exact get_out (h.bl m hm).1 (by omega),sm_zero]
    have e2 : sm p.bs.length (inB p s x)=0:=by
      rw [sm_congr (g:=fun _=>0) fun i hi=>by
        rw [inB_slt,sm_congr (g:=fun _=>0) fun k hk=>get_out (slt_ok h hi (by omega)).1 (by omega),sm_zero],sm_zero]
    unfold insT at hx; omega
  have hhg : ∀ m,m < p.ms.length→0≤(wayV p x m).1∧(wayV p x m).1≤hgO p p.ms.length:=fun m hm=>by
    have hw:=hdr m hm x (by omega)
    have h1:=height_way hp hm hxm hw
    have h2:=hgO_ge p hxm p.ms.length m hm
    have h3:=way_far ok (mt:=x) (by omega) (by omega) hm hw
    omega
  have hln : ∀ i,i < p.bs.length→(p.rl i : Int)+1≤lngP p p.bs.length:=fun i hi=>by
    have h1:=mxN_ge (f:=fun i=>(p.bs.getD i b0).ln) hi
    have h2:=ok.bt _ (mem_get b0 hi)
    unfold lngP Pl.rl; omega
  have key : ∃ t b : Nat,(t : Int) < perP p∧b < p.ms.length∧binN p b∧1≤rcv p (itS p s t) b x:=by
    unfold insT at hx
    by_cases h1 : 0 < sm p.ms.length (inM p s x)
    · obtain ⟨m,hm,h2⟩:=sm_pos (inM_nn h x) h1
      unfold inM at h2
      by_cases hb : outsN (p.ms.getD m [])=0
      · rw [if_pos hb] at h2; omega
      · rw [if_neg hb] at h2
        have ha:=arr_get h hm x
        have hr : 0≤rcv p s m x:=sm_nn fun i hi=>rcv_nn h m x i hi
        obtain ⟨t,b,t1,t2,t3,t4⟩:=way_out hc h hh hxm (wayV p x m).1.toNat m 0 hm hb (by have:=hhg m hm; omega) (by show 1≤(arrL p s m).getD x 0; omega)
        have h3:=hhg m hm
        have h4:=out_ok ok (mt:=x) (by omega) (by omega) hm hb
        have h5:=hln _ h4.2.1
        exact ⟨t,b,by unfold perP; omega,t2,t3,t4⟩
    · have h2:=sm_nn (inM_nn h x)
      obtain ⟨i,hi,h3⟩:=sm_pos (inB_nn h x) (by omega)
      rw [inB_slt] at h3
      obtain ⟨k,hk,h4⟩:=sm_pos (fun k hk=>(slt_ok h hi (by omega)).2 x) h3
      have he:=belt_end (p:=p) (s:=s) hi (k:=k) (by omega) 0
      have hg2:=(h.it hp (0+(p.rl i - k))).1
      have hr:=rcv_ge hg2 x hi
      rw [he] at hr
      have hr1 : (slt p (itS p s 0) i k).getD x 0=(slt p s i k).getD x 0:=rfl
      have ht:=tp_lt ok hi
      have hl:=hln i hi
      by_cases hb : binN p (tpS p i)
      · exact ⟨0+(p.rl i - k),tpS p i,by have:=hhg _ ht; unfold perP; omega,ht,hb,by omega⟩
      · have ha:=arr_get hg2 ht x
        have hbb:=(hg2.bl _ ht).2 x
        have h5:=hhg _ ht
        obtain ⟨t,b,t1,t2,t3,t4⟩:=way_out hc h hh hxm (wayV p x (tpS p i)).1.toNat (tpS p i) (0+(p.rl i - k)) ht hb (by omega) (by omega)
        exact ⟨t,b,by unfold perP; omega,t2,t3,t4⟩
  obtain ⟨t,b,t1,t2,t3,t4⟩:=key
  have h1:=(ins_stp hp (h.it hp t).1 x).2 b t2 t3
  have h2:=ins_it hp h x t 0
  rw [Nat.zero_add] at h2
  have h3:=ins_it hp h x ((perP p).toNat - (t+1)) (t+1)
  rw [show t+1+((perP p).toNat - (t+1))=(perP p).toNat by omega] at h3
  have h4 : insT p (itS p s (t+1)) x=insT p (stpS p (itS p s t)) x:=rfl
  have h5 : insT p (itS p s 0) x=insT p s x:=rfl
  omega
def sumI (p : Pl) (s : Sy) : Int:=sm p.mt (insT p s)
theorem sumI_nn {p : Pl} {s : Sy} (h : Gd p s) : 0≤sumI p s:=sm_nn fun x _=>(ins_tot h x).2
theorem sm_mono {n : Nat} {f g : Nat→Int} (h : ∀ i,i < n→f i≤g i) : sm n f≤sm n g:=by
  induction n with
  | zero=>exact Int.le_refl _
  | succ n ih=>simp only [sm]; have:=ih fun i hi=>h i (by omega); have:=h n (by omega); omega
theorem sm_less {n : Nat} {f g : Nat→Int} (h : ∀ i,i < n→f i≤g i) {i : Nat} (hi : i < n) (hl : f i+1≤g i) : sm n f+1≤sm n g:=by
  induction n with
  | zero=>omega
  | succ n ih =>
    simp only [sm]
    by_cases e : i=n
    · subst e
      have:=sm_mono (n:=i) fun j hj=>h j (by omega)
      omega
    · have:=ih (fun j hj=>h j (by omega)) (by omega)
      have:=h n (by omega)
      omega
theorem sumI_it {p : Pl} (hp : pcheck p=0) {s : Sy} (h : Gd p s) (k : Nat) : sumI p (itS p s k)≤sumI p s:=sm_mono fun x _=>by
  have:=ins_it hp h x k 0
  rw [Nat.zero_add] at this; exact this
theorem sumI_per {p : Pl} (hc : chkP p=0) {s : Sy} (h : Gd p s) (hh : noH s) (hx : 0 < sumI p s) : sumI p (itS p s (perP p).toNat)+1≤sumI p s:=by
  obtain ⟨hp,_⟩:=chkP_ok hc
  obtain ⟨x,h1,h2⟩:=sm_pos (fun x _=>(ins_tot h x).2) hx
  refine sm_less (fun y _=>?_) h1 (per_out hc h hh h2)
  have:=ins_it hp h y (perP p).toNat 0
  rw [Nat.zero_add] at this; exact this
theorem sumI_bnd {p : Pl} (hc : chkP p=0) : ∀ (g : Nat) {s : Sy},Gd p s→noH s→sumI p s≤g→sumI p (itS p s (g*(perP p).toNat))=0
  | 0,s,h,hh,hg=>by
    have:=sumI_nn h
    rw [Nat.zero_mul]
    show sumI p s=0
    omega
  | g+1,s,h,hh,hg=>by
    obtain ⟨hp,_⟩:=chkP_ok hc
    rw [Nat.succ_mul,Nat.add_comm,it_add]
    have h1:=(h.it hp (perP p).toNat).1
    refine sumI_bnd hc g h1 (noH_it hp h hh _) ?_
    by_cases hx : 0 < sumI p s
    · have:=sumI_per hc h hh hx; omega
    · have:=sumI_it hp h (perP p).toNat; omega
end Go.Proofs.Ytdkoindoljngmaa
namespace Go.Proofs.Ytdkoindoljngmaa
open Go Go.Lft
set_option linter.unusedSimpArgs false
set_option linter.unusedVariables false
attribute [local congr] ob_congr bw_congr ib_congr ck_congr iwA_congr itA_congr aw_congr awp_congr sqA_congr bkA_congr vr_congr gd_congr
theorem fitE_ok {mt : Nat} {fed xs : List Int} (h : fitE mt fed xs=0) : MixOk mt xs∧∀ x,fed.getD x 0+xs.getD x 0≤1073741824∨mt≤x:=by
  have h1:=(fitE_zero h).2
  have hl:=(fitE_zero h).1
  refine ⟨h1,fun x=>?_⟩
  by_cases hx : x < mt
  · left
    unfold fitE at h
    split at h
    · cases h
    split at h
    · cases h
    split at h
    · cases h
    rename_i h3
    apply Classical.byContradiction
    intro hc
    exact h3 ⟨x,by omega,by omega⟩
  · right; omega
theorem feed_tot {p : Pl} (ok : POk p) {s : Sy} (h : Gd p s) {xs : List Int} (hx : xs.length=p.mt) (x : Nat) : tot p (feedS p s xs) x=tot p s x+xs.getD x 0:=by
  have hfd:=ok.fd
  have ht : p.fd.toNat < p.ms.length:=by omega
  have h1 : befT p (feedS p s xs) x=befT p s x+xs.getD x 0:=by
    unfold befT
    rw [sm_upd (fun m=>(s.bef m).getD x 0) (fun m=>((feedS p s xs).bef m).getD x 0) ht fun j hj _=>by simp only [feedS]; rw [updF_ne _ _ hj]]
    simp only [feedS,updF_same]
    rw [plus_get (h.bl _ ht).1 hx]; omega
  have h2 : fstT p (feedS p s xs) x=fstT p s x:=rfl
  have h3 : rngT p (feedS p s xs) x=rngT p s x:=rfl
  unfold tot; omega
def Iv (p : Pl) (s : Sy) : Prop:=Gd p s∧∀ x,tot p s x≤s.fed.getD x 0
theorem Iv.new (p : Pl) : Iv p (newS p):=⟨Gd.new p,fun x=>by rw [new_tot]; show (0 : Int)≤(zeros p.mt).getD x 0; rw [zeros_get]; exact Int.le_refl _⟩
theorem Iv.feed {p : Pl} (ok : POk p) {s : Sy} (h : Iv p s) {xs : List Int} (he : fitE p.mt s.fed xs=0) : Iv p (feedS p s xs):=by
  obtain ⟨g,hf⟩:=h
  obtain ⟨e1,e2⟩:=fitE_ok he
  have hfd:=ok.fd
  have ht : p.fd.toNat < p.ms.length:=by omega
  have hfed : ∀ x,(plusM s.fed xs).getD x 0=s.fed.getD x 0+xs.getD x 0:=fun x=>plus_get g.fd.1 e1.1 x
  have hbd : ∀ x,s.fed.getD x 0+xs.getD x 0≤1073741824:=fun x=>by
    rcases e2 x with h1 | h1
    · exact h1
    · rw [get_out g.fd.1 h1,get_out e1.1 h1]; omega
  refine ⟨⟨fun m hm=>?_,g.fl,g.rl,g.ps,g.hl,⟨by show (plusM s.fed xs).length=_; rw [plusM_len]; exact g.fd.1,fun x=>?_⟩,fun x=>?_⟩,fun x=>?_⟩
  · simp only [feedS]
    by_cases e : m=p.fd.toNat
    · rw [e,updF_same]
      have hb:=g.bl _ ht
      refine ⟨by rw [plusM_len]; exact hb.1,fun x=>?_⟩
      rw [plus_get hb.1 e1.1]
      have:=hb.2 x
      have:=(e1.2 x).1
      omega
    · rw [updF_ne _ _ e]; exact g.bl m hm
  · simp only [feedS]; rw [hfed]
    have:=hbd x
    have:=(g.fd.2 x).1
    have:=(e1.2 x).1
    omega
  · rw [feed_tot ok g e1.1]
    have:=hf x
    have:=hbd x
    omega
  · rw [feed_tot ok g e1.1]
    show _≤(plusM s.fed xs).getD x 0
    rw [hfed]
    have:=hf x
    omega
theorem take_tot {p : Pl} {s : Sy} (h : Gd p s) {m : Int} {xs : List Int} (he : takE p s m xs=0) (x : Nat) : tot p (takS s m xs) x=tot p s x - xs.getD x 0∧xs.length=p.mt∧0≤xs.getD x 0∧xs.getD x 0≤(s.bef m.toNat).getD x 0∧(m.toNat < p.ms.length∧0≤m)∧(dnM (s.bef m.toNat) xs xs.length).getD x 0=(s.bef m.toNat).getD x 0 - xs.getD x 0:=by
  unfold takE at he
  split at he
  · contradiction
  rename_i h1
  split at he
  · cases he
  rename_i h2
  split at he
  · cases he
  rename_i h3
  have hm : 0≤m∧m.toNat < p.ms.length:=by
    have h0:=Classical.not_not.1 h1
    unfold fndE at h0
    split at h0
    · cases h0
    · omega
  have hl : xs.length=p.mt:=by omega
  have hb:=h.bl _ hm.2
  have hd : (dnM (s.bef m.toNat) xs xs.length).getD x 0=(s.bef m.toNat).getD x 0 - xs.getD x 0:=by
    by_cases hx : x < p.mt
    · rw [dnM_get _ _ _ _ (by omega),if_pos (by omega)]
    · rw [get_out (n:=p.mt) (by rw [dnM_len]; exact hb.1) (by omega),get_out hb.1 (by omega),get_out hl (by omega)]; rfl
  have hxs : 0≤xs.getD x 0∧xs.getD x 0≤(s.bef m.toNat).getD x 0:=by
    by_cases hx : x < xs.length
    · have : ¬ badT (s.bef m.toNat) xs x:=fun hc=>h3 ⟨x,hx,hc⟩
      unfold badT at this; omega
    · rw [get_out rfl (by omega)]
      have:=hb.2 x
      omega
  refine ⟨?_,hl,hxs.1,hxs.2,⟨hm.2,hm.1⟩,hd⟩
  have h1 : befT p (takS s m xs) x=befT p s x - xs.getD x 0:=by
    unfold befT
    rw [sm_upd (fun m=>(s.bef m).getD x 0) (fun j=>((takS s m xs).bef j).getD x 0) hm.2 fun j hj _=>by simp only [takS]; rw [updF_ne _ _ hj]]
    simp only [takS,updF_same]
    rw [hd]; omega
  have h2 : fstT p (takS s m xs) x=fstT p s x:=rfl
  have h3 : rngT p (takS s m xs) x=rngT p s x:=rfl
  unfold tot; omega
theorem Iv.take {p : Pl} {s : Sy} (h : Iv p s) {m : Int} {xs : List Int} (he : takE p s m xs=0) : Iv p (takS s m xs):=by
  obtain ⟨g,hf⟩:=h
  have ht:=fun x=>take_tot g he x
  refine ⟨⟨fun j hj=>?_,g.fl,g.rl,g.ps,g.hl,g.fd,fun x=>?_⟩,fun x=>?_⟩
  · simp only [takS]
    by_cases e : j=m.toNat
    · rw [e,updF_same]
      have hb:=g.bl _ (ht 0).2.2.2.2.1.1
      refine ⟨by rw [dnM_len]; exact hb.1,fun x=>?_⟩
      have:=ht x
      rw [this.2.2.2.2.2]; omega
    · rw [updF_ne _ _ e]; exact g.bl j hj
  · have:=ht x
    have:=g.tt x
    omega
  · have:=ht x
    have:=hf x
    show _≤s.fed.getD x 0
    omega
theorem Iv.halt {p : Pl} {s : Sy} (h : Iv p s) (m : Int) (b : Bool) : Iv p (hltS s m b):=⟨⟨h.1.bl,h.1.fl,h.1.rl,h.1.ps,by simp only [hltS,List.length_set]; exact h.1.hl,h.1.fd,h.1.tt⟩,h.2⟩
theorem Iv.it {p : Pl} (hp : pcheck p=0) {s : Sy} (h : Iv p s) (k : Nat) : Iv p (itS p s k):=by
  obtain ⟨g1,g2,g3,g4⟩:=h.1.it hp k
  exact ⟨g1,fun x=>by rw [g2,g4]; exact h.2 x⟩
theorem run_e {H : List Blk} {p : Pl} {ad : Ad} {s : Sy} (hp : pcheck p = 0) (h : PM H p ad s) (hg : Iv p s) (n : Nat) (hn : n ≤ 100000) :
    VR P false n_plant_Plant_Run [.lp (ad .root).1 0 0,.v (.int .i64 n)] H (fun r H'=>r=.v (.int .i64 0)∧∃ (s' : Sy) (ad' : Ad),PM H' p ad' s'∧Tr p H ad H' ad'∧Iv p s'∧Eqv p s' (itS p s n)) :=
  (run_m hp h hg.1 n hn).mono fun r H' ⟨h1,k,ad',h2,h3,h4,h5⟩=>⟨h1,itS p s k,ad',h3,h4,hg.it hp k,run_eqv hp hg.1 h2 h5⟩
def feedR (p : Pl) (s : Sy) (xs : List Int) : Sy:=if fitE p.mt s.fed xs=0 then feedS p s xs else s
theorem Iv.feedR {p : Pl} (ok : POk p) {s : Sy} (h : Iv p s) (xs : List Int) : Iv p (feedR p s xs):=by
  unfold Go.Proofs.Ytdkoindoljngmaa.feedR
  split
  · rename_i he; exact h.feed ok he
  · exact h
theorem feed_s {j v : Nat} {H : List Blk} {p : Pl} {ad : Ad} {s : Sy} (hp : pcheck p = 0) (h : PM H p ad s) (hg : Iv p s) {xs : List Int} (hj : blkAt H j v = some (ints xs)) (hj2 : ¬ ftp p ad j) :
    VR P false n_plant_Plant_Feed [.lp (ad .root).1 0 0,.sl j v 1 0 xs.length] H (fun r H'=>r=.v (.int .i64 (fitE p.mt s.fed xs))∧PM H' p ad (feedR p s xs)∧Tr p H ad H' ad):=by
  unfold feedR
  by_cases he : fitE p.mt s.fed xs=0
  · rw [if_pos he,he]; exact feed_sl hp h hg.1 hj hj2 he
  · rw [if_neg he]
    exact (feed_sl_err hp h hg.1 hj hj2 he).mono fun r H' ⟨h1,h2⟩=>⟨h1,h2▸h,h2▸Tr.refl _ _⟩
def loopP : Pl:=⟨1,[[[600,400]],[[]]],[⟨0,0,1,1⟩,⟨0,1,0,2⟩],0⟩
theorem PM.nftp {H : List Blk} {p : Pl} {ad : Ad} {s : Sy} (h : PM H p ad s) {j : Nat} (hj : H.length≤j) : ¬ ftp p ad j:=by
  rintro ⟨c,hc,he⟩
  have:=h.lt hc
  omega
theorem nftp_lo {p : Pl} {ad : Ad} {n j : Nat} (h : ∀ c,usd p c=true→n≤(ad c).1) (hj : j < n) : ¬ ftp p ad j:=by
  rintro ⟨c,hc,he⟩
  have:=h c hc
  omega
def litP (p : Pl) : Prop:=p.ms.length≤12∧p.bs.length≤24
instance (p : Pl) : Decidable (litP p):=inferInstanceAs (Decidable (_∧_))
theorem sum35_vr {w : Bool} (xs : List Int) (hl : xs.length≤1000) (hb : ∀ x,0≤xs.getD x 0∧xs.getD x 0≤1073741824) : VR P false n_ref35_Total [.fs w (ints xs)] [] (isR (.v (.int .i64 (sm xs.length fun x=>xs.getD x 0)))):=by
  refine vr_ref35_Total (by simp) (.inr rfl) fun _ _=>?_
  have bd : ∀ k,k≤xs.length→0≤sm k (fun x=>xs.getD x 0)∧sm k (fun x=>xs.getD x 0)≤k*1073741824:=by
    intro k
    induction k with
    | zero=>intro _; simp [sm]
    | succ k ih =>
      intro hk
      have h1:=ih (by omega)
      have h2:=hb k
      simp only [sm]; omega
  simp (disch:=((try simp only [lZ]); omega)) only [aZ,aM,s_ref35_Total,v_ref35_Total]
  refine AWP.loopP g_ref35_Total_0 (fun k : Nat=>k≤xs.length) (fun k=>[(2,.v (.int .i64 (sm k fun x=>xs.getD x 0))),(3,.v (.int .i64 k))]) (fun _=>[]) (fun k=>xs.length - k) 0 (by omega) ?_ ?_
  · exact Cut.fg (by simp (disch:=first | omega | simp (disch:=omega) only [aG,aM]) only [fZ,aM,fgl_nil,fgl_cons,or_true,true_or,sm])
  rintro k hk
  have h1:=bd k hk
  by_cases hlt : k < xs.length
  · have h2:=hb k
    simp (disch:=((try simp only [lZ]); omega)) only [aZ,aM]
    refine ⟨k+1,by omega,by omega,?_⟩
    simp only [sm]
    try simp (disch:=((try simp only [lZ]); omega)) only [aZ,aM]
    exact Cut.fg (by simp (disch:=first | omega | simp (disch:=omega) only [aG,aM]) only [fZ,aM,fgl_nil,fgl_cons,or_true,true_or])
  · have hke : k=xs.length:=by omega
    subst hke
    simp (disch:=((try simp only [lZ]); omega)) only [aZ,aM,r_ref35_Total]
    exact post_v ⟨rfl,rfl⟩
theorem insL_len (p : Pl) (s : Sy) : (insL p s).length=p.mt:=tb_len _ _
theorem insL_sum (p : Pl) (s : Sy) : sm (insL p s).length (fun x=>(insL p s).getD x 0)=sumI p s:=by
  rw [insL_len]
  exact sm_congr fun x hx=>tb_get _ _ _ hx
theorem insL_bd {p : Pl} {s : Sy} (h : Gd p s) (x : Nat) : 0≤(insL p s).getD x 0∧(insL p s).getD x 0≤1073741824:=by
  by_cases hx : x < p.mt
  · rw [show (insL p s).getD x 0=insT p s x from tb_get _ _ _ hx]
    have:=ins_tot h x
    have:=h.tt x
    omega
  · rw [get_out (insL_len p s) (by omega)]; omega
theorem sumI_vr {w : Bool} {p : Pl} {s : Sy} (hm : p.mt≤16) (h : Gd p s) : VR P false n_ref35_Total [.fs w (ints (insL p s))] [] (isR (.v (.int .i64 (sumI p s)))):=by
  have:=sum35_vr (w:=w) (insL p s) (by rw [insL_len]; omega) (insL_bd h)
  rwa [insL_sum] at this
theorem Eqv.sumI {p : Pl} {s t : Sy} (h : Eqv p s t) : sumI p s=sumI p t:=sm_congr fun x _=>h.ins x
theorem noH_new (p : Pl) : noH (newS p):=fun m=>by
  simp only [newS,List.getD_eq_getElem?_getD,List.getElem?_replicate]
  split<;>rfl
theorem noH_eqv {p : Pl} {s t : Sy} (h : Eqv p s t) (ht : noH t) : noH s:=fun m=>by rw [h.hal]; exact ht m
theorem noH_feed {p : Pl} {s : Sy} (xs : List Int) (h : noH s) : noH (feedR p s xs):=by
  unfold feedR; split<;>exact h

structure Two (K : List Blk) (p : Pl) (a : Ad) (s : Sy) (b : Ad) (t : Sy) : Prop where
  l : PM K p a s
  r : PM K p b t
  d : ∀ i,ftp p a i→¬ ftp p b i
theorem ftp_lt {K : List Blk} {p : Pl} {a : Ad} {s : Sy} (h : PM K p a s) {i : Nat} (hi : ftp p a i) : i < K.length:=by
  obtain ⟨c,hc,rfl⟩:=hi; exact h.lt hc
theorem Two.swap {K : List Blk} {p : Pl} {a b : Ad} {s t : Sy} (h : Two K p a s b t) : Two K p b t a s:=⟨h.r,h.l,fun i hb ha=>h.d i ha hb⟩
theorem Two.left {K K' : List Blk} {p : Pl} {a b a' : Ad} {s t s' : Sy} (h : Two K p a s b t) (hP : PM K' p a' s') (hT : Tr p K a K' a') : Two K' p a' s' b t :=
  ⟨hP,h.r.gr hT.1 fun c hc hf=>h.d _ hf ⟨c,hc,rfl⟩,fun i ha hb=>by
    rcases hT.2.1 i ha with h1 | h1
    · have:=ftp_lt h.r hb; omega
    · exact h.d i h1 hb⟩
theorem Two.right {K K' : List Blk} {p : Pl} {a b b' : Ad} {s t t' : Sy} (h : Two K p a s b t) (hP : PM K' p b' t') (hT : Tr p K b K' b') : Two K' p a s b' t':=(h.swap.left hP hT).swap
theorem Two.gr {K K' : List Blk} {p : Pl} {a b : Ad} {s t : Sy} (h : Two K p a s b t) (g : Gr nof K K') : Two K' p a s b t:=⟨h.l.gr g fun _ _ h=>h,h.r.gr g fun _ _ h=>h,h.d⟩
theorem Eqv.feedR {p : Pl} (ok : POk p) {s t : Sy} (h : Eqv p s t) (xs : List Int) : Eqv p (feedR p s xs) (feedR p t xs):=by
  unfold Go.Proofs.Ytdkoindoljngmaa.feedR
  rw [h.fed]
  split
  · have hfd:=ok.fd
    refine ⟨fun m hm=>?_,h.slt,h.hal,?_⟩
    · simp only [feedS]
      by_cases e : m=p.fd.toNat
      · rw [e,updF_same,updF_same,h.bef _ (by omega)]
      · rw [updF_ne _ _ e,updF_ne _ _ e]; exact h.bef m hm
    · simp only [feedS,h.fed]
  · exact h
structure Op where
  k : Int
  m : Int
  n : Int
  mx : List Int
def opC (o : Op) : List A:=[.v (.int .i64 o.k),.v (.int .i64 o.m),.v (.int .i64 o.n),.fs true (ints o.mx)]
def opA (o : Op) : A:=.agg (opC o)
def ops (l : List Op) : List A:=l.map opA
end Go.Proofs.Ytdkoindoljngmaa
namespace Go.Proofs.Ytdkoindoljngmaa
open Go Go.Lft
set_option linter.unusedSimpArgs false
set_option linter.unusedVariables false
def tyMixes : Ty:=(.sl (.sl (.int .i64)))
theorem tyMixes_is : tyMixes.Is Try.prog 41:=by
  unfold tyMixes
  simp only [Ty.Is]
  refine ⟨27,Try.underlying41,by kernel_rfl,by decide,?_⟩
  refine ⟨3,Try.underlying27,by kernel_rfl,by decide,?_⟩
  exact Try.underlying3
theorem mixes_of {es : List A} (h : tyMixes.Sh true es) : ∃ l : List (List Int),tyMixes.pk es=.fs true (rows true l)∧l.length≤maxLen∧∀ r∈l,r.length≤maxLen∧∀ x∈r,fit x:=by
  unfold tyMixes at h ⊢; exact rows_of h
end Go.Proofs.Ytdkoindoljngmaa
namespace Go.Proofs.Ytdkoindoljngmaa
open Go Go.Lft
set_option linter.unusedSimpArgs false
set_option linter.unusedVariables false
attribute [local congr] ob_congr bw_congr ib_congr ck_congr iwA_congr itA_congr aw_congr awp_congr sqA_congr bkA_congr vr_congr gd_congr
def tbK (n : Nat) (f : Nat→Int) (k : Nat) : List Int:=tb n fun x=>if x < k then f x else 0
theorem tbK_len (n : Nat) (f : Nat→Int) (k : Nat) : (tbK n f k).length=n:=tb_len _ _
theorem tbK_zero (n : Nat) (f : Nat→Int) : tbK n f 0=zeros n:=by rw [tb_zero]; exact tb_ext fun x _=>by simp
theorem tbK_set (n : Nat) (f : Nat→Int) (k : Nat) (h : k < n) : (tbK n f k).set k (f k)=tbK n f (k+1):=by
  refine eq_of_getB 0 (by simp [tbK_len]) fun i hi=>?_
  simp only [List.length_set,tbK_len] at hi
  unfold tbK
  rw [getD_seti,tb_get _ _ _ hi,tb_get _ _ _ hi,tb_len]
  by_cases hik : i=k
  · subst hik; rw [if_pos ⟨rfl,h⟩,if_pos (by omega)]
  · rw [if_neg (fun hc=>hik hc.1.symm)]
    by_cases hlt : i < k
    · rw [if_pos hlt,if_pos (by omega)]
    · rw [if_neg hlt,if_neg (by omega)]
theorem tbK_same (n : Nat) (f : Nat→Int) (k : Nat) (h : k < n) (hz : f k=0) : tbK n f k=tbK n f (k+1):=by
  refine tb_ext fun x _=>?_
  by_cases hx : x=k
  · subst hx; rw [if_neg (by omega),if_pos (by omega),hz]
  · by_cases hlt : x < k
    · rw [if_pos hlt,if_pos (by omega)]
    · rw [if_neg hlt,if_neg (by omega)]
theorem tbK_all (n : Nat) (f : Nat→Int) : tbK n f n=tb n f:=tb_ext fun x hx=>by rw [if_pos hx]
theorem fit_small {mt : Nat} (h16 : mt≤16) {fed : List Int} {f : Nat→Int} {c bd : Int} (hf : ∀ x,x < mt→0≤f x∧f x≤c) (hb : ∀ x,fed.getD x 0≤bd) (h : bd+c≤1073741824∧c≤1073741824) : fitE mt fed (tb mt f)=0:=by
  unfold fitE
  rw [if_neg (by rw [tb_len]; omega),if_neg,if_neg]
  · rintro ⟨i,hi,h3⟩
    rw [tb_len] at hi
    rw [tb_get _ _ _ hi] at h3
    have:=hf i hi
    have:=hb i
    omega
  · refine fun hc=>hc (mixE_ok.2 ⟨by rw [tb_len]; exact h16,fun x hx=>?_⟩)
    obtain ⟨i,hi,rfl⟩:=get_mem 0 hx
    rw [tb_len] at hi
    rw [tb_get _ _ _ hi]
    have:=hf i hi
    omega
structure DInv (p : Pl) (a : Ad) (s : Sy) (bd : Int) (K : List Blk) : Prop where
  pm : PM K p a s
  iv : Iv p s
  nh : noH s
  b0 : blkAt K 0 0=some [.v (.int .i64 p.mt),.fs true (mcs true p.ms),.fs true (bts p.bs),.v (.int .i64 p.fd)]
  n0 : ¬ ftp p a 0
  eq : ∀ x,tot p s x=s.fed.getD x 0
  fd : ∀ x,s.fed.getD x 0≤bd
theorem DInv.gr {p : Pl} {a : Ad} {s : Sy} {bd : Int} {K K' : List Blk} (h : DInv p a s bd K) (g : Gr nof K K') : DInv p a s bd K' :=
  ⟨h.pm.gr g fun _ _ h=>h,h.iv,h.nh,g.at h.b0 fun h=>h,h.n0,h.eq,h.fd⟩
theorem feedR_dif' {p : Pl} (ok : POk p) {s : Sy} (h : Iv p s) (xs : List Int) (x : Nat) : tot p (feedR p s xs) x - (feedR p s xs).fed.getD x 0=tot p s x - s.fed.getD x 0:=by
  unfold feedR
  split
  · rename_i he
    obtain ⟨e1,e2⟩:=fitE_ok he
    rw [feed_tot ok h.1 e1.1]
    show _ - (plusM s.fed xs).getD x 0=_
    rw [plus_get h.1.fd.1 e1.1]; omega
  · rfl
theorem DInv.feed {p : Pl} (ok : POk p) {a : Ad} {s : Sy} {bd c : Int} {K K' : List Blk} (h : DInv p a s bd K) {xs : List Int} (he : fitE p.mt s.fed xs=0) (hx : ∀ x,xs.getD x 0≤c) (hP : PM K' p a (feedR p s xs)) (hT : Tr p K a K' a) : DInv p a (feedR p s xs) (bd+c) K':=by
  have k:=hT.keep h.b0 h.n0
  refine ⟨hP,h.iv.feedR ok xs,noH_feed xs h.nh,k.1,k.2,fun x=>by have:=feedR_dif' ok h.iv xs x; have:=h.eq x; omega,fun x=>?_⟩
  unfold feedR
  rw [if_pos he]
  show (plusM s.fed xs).getD x 0≤_
  rw [plus_get h.iv.1.fd.1 (fitE_ok he).1.1]
  have:=h.fd x
  have:=hx x
  omega
theorem DInv.run {p : Pl} (hp : pcheck p=0) {a a' : Ad} {s s' : Sy} {bd : Int} {K K' : List Blk} (h : DInv p a s bd K) {n : Nat} (hP : PM K' p a' s') (hT : Tr p K a K' a') (hI : Iv p s') (hE : Eqv p s' (itS p s n)) : DInv p a' s' bd K':=by
  have k:=hT.keep h.b0 h.n0
  obtain ⟨g1,g2,g3,g4⟩:=h.iv.1.it hp n
  have ef : s'.fed=s.fed:=hE.fed.trans g4
  exact ⟨hP,hI,noH_eqv hE (noH_it hp h.iv.1 h.nh n),k.1,k.2,fun x=>by rw [hE.tot x,g2 x,ef]; exact h.eq x,fun x=>by rw [ef]; exact h.fd x⟩
theorem sumI_le {p : Pl} {s : Sy} {bd : Int} (hg : Gd p s) (he : ∀ x,tot p s x=s.fed.getD x 0) (hf : ∀ x,s.fed.getD x 0≤bd) (h0 : 0≤bd) (h16 : p.mt≤16) : 0≤sumI p s∧sumI p s≤16*bd:=by
  refine ⟨sumI_nn hg,?_⟩
  have : ∀ n,sm n (insT p s)≤n*bd:=by
    intro n
    induction n with
    | zero=>simp [sm]
    | succ n ih =>
      simp only [sm]
      have h1:=(ins_tot hg n).1
      have h2:=he n
      have h3:=hf n
      have h4 : ((n+1 : Nat) : Int)*bd=n*bd+bd:=by rw [Int.natCast_add,Int.add_mul]; simp
      omega
  have h1:=this p.mt
  have h2 : (p.mt : Int)*bd≤16*bd:=Int.mul_le_mul_of_nonneg_right (by omega) h0
  unfold sumI; omega
theorem bins_fed {p : Pl} {s : Sy} (hg : Gd p s) (he : ∀ x,tot p s x=s.fed.getD x 0) (hz : sumI p s=0) {x : Nat} (hx : x < p.mt) : binT p s x=s.fed.getD x 0:=by
  have h1:=sm_zero_all (fun x _=>(ins_tot hg x).2) hz hx
  have h2:=tot_ins p s x
  have:=he x
  omega
theorem fnd_bin {p : Pl} {m : Nat} (hm : m < p.ms.length) : fndE p m=0↔outsN (p.ms.getD m [])=0:=by
  unfold fndE
  rw [if_neg (by omega),Int.toNat_natCast]
  by_cases h : binN p m
  · rw [if_neg (fun hc=>hc h)]; exact ⟨fun _=>h,fun _=>rfl⟩
  · rw [if_pos h]; exact ⟨fun hc=>(by cases hc),fun hc=>absurd hc h⟩
structure CInv (p : Pl) (a : Ad) (s : Sy) (tk : List Int) (T : Nat) (K : List Blk) : Prop where
  pm : PM K p a s
  iv : Iv p s
  b0 : blkAt K 0 0=some [.v (.int .i64 p.mt),.fs true (mcs true p.ms),.fs true (bts p.bs),.v (.int .i64 p.fd)]
  n0 : ¬ ftp p a 0
  bT : blkAt K T 0=some (ints tk)
  nT : ¬ ftp p a T
  T0 : 0 < T
  len : tk.length=p.mt
  sum : ∀ x,tot p s x+tk.getD x 0=s.fed.getD x 0
  nn : ∀ x,0≤tk.getD x 0
theorem CInv.grow {p : Pl} {a : Ad} {s : Sy} {tk : List Int} {T : Nat} {K : List Blk} (h : CInv p a s tk T K) (G : List Blk) : CInv p a s tk T (K++G) :=
  ⟨h.pm.grow G,h.iv,by rw [blkAt_app _ _ _ _ (blkAt_lt h.b0)]; exact h.b0,h.n0,by rw [blkAt_app _ _ _ _ (blkAt_lt h.bT)]; exact h.bT,h.nT,h.T0,h.len,h.sum,h.nn⟩
theorem CInv.step {p : Pl} {a a' : Ad} {s s' : Sy} {tk : List Int} {T : Nat} {K K' : List Blk} (h : CInv p a s tk T K) (hP : PM K' p a' s') (hI : Iv p s') (hT : Tr p K a K' a') (hd : ∀ x,tot p s' x - s'.fed.getD x 0=tot p s x - s.fed.getD x 0) : CInv p a' s' tk T K':=by
  have h1:=hT.keep h.b0 h.n0
  have h2:=hT.keep h.bT h.nT
  exact ⟨hP,hI,h1.1,h1.2,h2.1,h2.2,h.T0,h.len,fun x=>by have:=h.sum x; have:=hd x; omega,h.nn⟩
def binM (p : Pl) (s : Sy) (x m : Nat) : Int:=if outsN (p.ms.getD m [])=0 then (s.bef m).getD x 0 else 0
end Go.Proofs.Ytdkoindoljngmaa
namespace Go.Lft
open Go
theorem AWP.seq {P : Program} {n0 : Nat} {a b : S} {Q : QA} {e : List A} {H : List Blk} (h : AWP P n0 a (fun x e H=>match x with | .nxt=>AWP P n0 b Q e H | x=>Q x e H) e H) : AWP P n0 (.seq a b) Q e H:=fun c ev hH hn hs he=>by
  subst hH
  refine S.wp_mono a (fun x e' h' hq=>?_) (h c ev rfl hn hs he)
  obtain ⟨e2,d,rfl,h2,h3,h4,h5⟩:=hq
  cases x with
  | nxt=>exact S.wp_mono b (fun x e' h'' hq=>hq.up h3) (h2 d _ rfl (h3.len hn) h4 h5)
  | exit i=>exact ⟨e2,d,rfl,h2,h3,h4,h5⟩
  | ret=>exact ⟨e2,d,rfl,h2,h3,h4,h5⟩
def S.pre : Nat→S→S
  | n+1,.set i x k=>.set i x (k.pre n)
  | n+1,.chk x k=>.chk x (k.pre n)
  | n+1,.eff kp d f k=>.eff kp d f (k.pre n)
  | _,_=>.nxt
def S.post : Nat→S→S
  | n+1,.set _ _ k=>k.post n
  | n+1,.chk _ k=>k.post n
  | n+1,.eff _ _ _ k=>k.post n
  | _,s=>s
theorem wp_chain {P : Program} : ∀ (n : Nat) (s : S) {Q : Ex→List Value→Heap→Prop} {e : List Value} {h : Heap},(S.seq (s.pre n) (s.post n)).wp P Q e h→s.wp P Q e h
  | 0,s,Q,e,h,hw=>by cases s<;>exact hw
  | n+1,s,Q,e,h,hw=>by
    cases s with
    | set i x k=>obtain ⟨v,h1,h2⟩:=hw; exact ⟨v,h1,wp_chain n k h2⟩
    | chk x k=>obtain ⟨v,h1,h2⟩:=hw; exact ⟨v,h1,wp_chain n k h2⟩
    | eff kp d f k=>exact E.ok_mono (R:=fun v h'=>(kp=true→Ext h h')∧(S.seq (k.pre n) (k.post n)).wp P Q (put e d v) h') (fun v h' hh=>⟨hh.1,wp_chain n k hh.2⟩) hw
    | _=>exact hw
theorem AWP.chain {P : Program} {n0 : Nat} {s : S} {Q : QA} {e : List A} {H : List Blk} (n : Nat) (h : (s.pre n).aw P n0 (fun x e H=>match x with | .nxt=>AWP P n0 (s.post n) Q e H | x=>Q x e H) e H) : AWP P n0 s Q e H :=
  fun c ev a1 a2 a3 a4=>wp_chain n s (AWP.seq (aw_sound h) c ev a1 a2 a3 a4)
theorem fzL_all {H : List Blk} {l r : List A} (h : frzL (frzP H 9) l r) : FzL 0 H l r:=frzL_sound (frzP_sound 9) h
end Go.Lft
namespace Go.Proofs.Ytdkoindoljngmaa
open Go Go.Lft
set_option linter.unusedSimpArgs false
set_option linter.unusedVariables false
attribute [local congr] ob_congr bw_congr ib_congr ck_congr iwA_congr itA_congr aw_congr awp_congr sqA_congr bkA_congr vr_congr gd_congr
theorem voA {f : Nat} {fn : Func} {V : List Nat} {F : Fun} {nt : Nat} (hf : P.funcs[f]? = some fn) (hc : compF P fn V false = some F) (hn : fn.ntmps = nt) {kp : Bool} {args : List A} {H : List Blk} {R : A → List Blk → Prop} (hlen : args.length ≤ nt) (hk : kp = false ∨ H = [])
    (hw : AWP P H.length F.body (postA H.length F R) (envA V args) H) : VR P kp f args H R :=
  VR.of (F:=F) (V:=V) (fun hl _ _ hs=>fn_of P_mixed hf hc (by rw [hn]; exact hl) hs) hlen hk fun _ _=>hw
def awP : Pl:=⟨1,[[[1000]],[[]]],[⟨0,0,1,1⟩],0⟩
theorem aw_chk : chkP awP=0:=by decide +kernel
theorem aw_fit : fitE awP.mt (newS awP).fed [7]=0:=by decide +kernel
theorem aw_bin : (itS awP (feedS awP (newS awP) [7]) 2).bef 1=[7]:=by decide +kernel
theorem awake35_vr : VR P false n_top_awake35 [] [] (isR (.v (.bool true))):=by
  refine voA (V:=v_top_awake35) (F:=f_top_awake35) Try.func29 (by kernel_rfl) Try.ntmps29 (by simp) (.inl rfl) ?_
  have hpc:=(chkP_ok aw_chk).1
  have ok:=pcheck_ok hpc
  have hnw:=new_vr (H:=[]) (w:=true) (v:=true) awP aw_chk
  show AWP P 0 s_top_awake35 _ _ _
  refine AWP.chain 13 ?_
  conv=>arg 3; simp only [s_top_awake35,S.pre]
  simp (disch:=((try simp only [lZ]); omega)) only [aZ,aM,v_top_awake35]
  conv=>arg 3; simp only [s_top_awake35,S.post]
  refine AWP.cut (e':=[.v (.bool false),.fp true [.v (.int .i64 awP.mt),.fs true (mcs true awP.ms),.fs true (bts awP.bs),.v (.int .i64 awP.fd)],.any,.any,.any,.any,.any,.any,.any,.any,.any,.any,.any,.any,.any,.any,.any]) (H':=[]) (Cut.of' 0 rfl (Nat.le_refl _) (by simp [FzB]) (fzL_all ?_)) ?_
  · simp [zZ,blkAt,flatA,A.cells,A.one,Lft.one,retA,A.bdL,A.bd,awP,mcs,mcA,mcC,bts,btA,btC,rows,ints,Pl.mt]
  refine aw_sound ?_
  unfold plA plC at hnw
  rw [ok.mt1.2.2] at hnw
  simp (disch:=((try simp only [lZ]); omega)) only [aZ,aM]
  refine hnw.mono ?_
  rintro r H1 ⟨ad,rfl,P1,G1,L1⟩
  refine aret_of ?_
  simp (disch:=((try simp only [lZ]); omega)) only [aZ,aM]
  have I1:=Iv.new awP
  have hf:=feed_s (s:=newS awP) (j:=H1.length) (v:=0) (xs:=[7]) hpc (P1.grow [⟨0,ints [7]⟩]) I1 (by rw [blkAt_new0]; rfl) (P1.nftp (Nat.le_refl _))
  rw [aw_fit] at hf
  unfold feedR at hf
  rw [if_pos aw_fit] at hf
  refine hf.mono ?_
  rintro r H2 ⟨rfl,P2,T2⟩
  refine aret_of ?_
  simp (disch:=((try simp only [lZ]); omega)) only [aZ,aM]
  have I2:=I1.feed ok aw_fit
  have hr:=run_e hpc P2 I2 2 (by omega)
  refine hr.mono ?_
  rintro r H3 ⟨rfl,s3,ad3,P3,T3,I3,E3⟩
  refine aret_of ?_
  have hb:=bin_ok ok P3 I3.1.ok 1 (by decide +kernel)
  rw [T3.2.2] at hb
  simp (disch:=((try simp only [lZ]); omega)) only [aZ,aM]
  refine hb.mono ?_
  rintro r H4 ⟨rfl,hH⟩
  rw [hH]
  have e1 : s3.bef (1 : Int).toNat=[7]:=by rw [← aw_bin]; exact E3.bef 1 (by decide)
  have e3 : awP.mt=1:=rfl
  have g7 : ([7] : List Int).getD 0 0=7:=rfl
  rw [e1,e3]
  refine aret_of ?_
  simp (disch:=((try simp only [lZ]); omega)) only [aZ,aM,g7,r_top_awake35]
  exact post_v ⟨rfl,rfl⟩
theorem blk_tb {K T : List Blk} {i j l : Nat} {B : Blk} : blkAt (K.set i B++T) (K.length+j) l=blkAt T j l:=by
  have:=blkAt_new (K.set i B) T j l
  simpa using this
theorem set_tb {K T : List Blk} {i : Nat} {B C : Blk} : (K.set i B++T).set K.length C=K.set i B++T.set 0 C:=by
  rw [List.set_append_right _ _ (by rw [List.length_set]; exact Nat.le_refl _),List.length_set,Nat.sub_self]
theorem clamp_natR (st : Int) (b : Nat) : ∃ n : Nat,max 0 (min (b : Int) st)=(n : Int)∧n≤b:=⟨(max 0 (min (b : Int) st)).toNat,by omega,by omega⟩
set_option maxHeartbeats 4000000 in
theorem topDrains_vr (p : Pl) (L : List (List Int)) (st : List Int) : VR P false n_top_TopDrains [plA true true p,.fs true (rows true L),.fs true (ints st)] [] (isR (.v (.bool true))):=by
  refine vr_top_TopDrains (by simp) (.inr rfl) fun _ _=>?_
  have hck:=ref34Check_vr (w:=true) (v:=true) p
  have hdr:=layoutDrains_vr (w:=true) (v:=true) p
  have hnw:=fun H=>new_vr (H:=H) (w:=true) (v:=true) p
  have hne:=fun H=>new_err (H:=H) (w:=true) (v:=true) p
  have hbd:=fun g=>plantBound_vr (w:=true) (v:=true) p g
  have hex:=awake35_vr
  unfold plA plC at *
  by_cases h1 : (p.ms.length : Int) > 12
  case pos =>
    simp (disch:=((try simp only [lZ]); omega)) only [aZ,aM,s_top_TopDrains,v_top_TopDrains,decide_eq_true h1]
    refine hex.same rfl rfl (aret_of ?_)
    simp (disch:=((try simp only [lZ]); omega)) only [aZ,aM,r_top_TopDrains]
    exact post_v ⟨rfl,rfl⟩
  by_cases h2 : (p.bs.length : Int) > 24
  case pos =>
    simp (disch:=((try simp only [lZ]); omega)) only [aZ,aM,s_top_TopDrains,v_top_TopDrains,decide_eq_false h1,decide_eq_true h2]
    refine hex.same rfl rfl (aret_of ?_)
    simp (disch:=((try simp only [lZ]); omega)) only [aZ,aM,r_top_TopDrains]
    exact post_v ⟨rfl,rfl⟩
  by_cases h3 : (L.length : Int) > 6
  case pos =>
    simp (disch:=((try simp only [lZ]); omega)) only [aZ,aM,s_top_TopDrains,v_top_TopDrains,decide_eq_false h1,decide_eq_false h2,decide_eq_true h3]
    refine hex.same rfl rfl (aret_of ?_)
    simp (disch:=((try simp only [lZ]); omega)) only [aZ,aM,r_top_TopDrains]
    exact post_v ⟨rfl,rfl⟩
  by_cases h4 : (st.length : Int)≠L.length
  case pos =>
    simp (disch:=((try simp only [lZ]); omega)) only [aZ,aM,s_top_TopDrains,v_top_TopDrains,decide_eq_false h1,decide_eq_false h2,decide_eq_false h3,decide_eq_true h4]
    refine hex.same rfl rfl (aret_of ?_)
    simp (disch:=((try simp only [lZ]); omega)) only [aZ,aM,r_top_TopDrains]
    exact post_v ⟨rfl,rfl⟩
  have hLst : st.length=L.length:=by omega
  simp (disch:=((try simp only [lZ]); omega)) only [aZ,aM,s_top_TopDrains,v_top_TopDrains,decide_eq_false h1,decide_eq_false h2,decide_eq_false h3,decide_eq_false h4]
  refine hck.same (by simp (disch:=first | omega | simp (disch:=omega) only [aG,aM]) only [fZ,aM]) rfl (aret_of ?_)
  by_cases hp : pcheck p=0
  case neg =>
    simp (disch:=((try simp only [lZ]); omega)) only [aZ,aM,decide_eq_true (show ¬ pcheck p=0 from hp)]
    refine hex.same rfl rfl (aret_of ?_)
    simp (disch:=((try simp only [lZ]); omega)) only [aZ,aM,r_top_TopDrains]
    exact post_v ⟨rfl,rfl⟩
  have hdR : drainR p=(drB p,0):=by unfold drainR; rw [if_neg (fun hc=>hc hp)]
  rw [hdR] at hdr
  simp (disch:=((try simp only [lZ]); omega)) only [aZ,aM,hp]
  refine hdr.same (by simp (disch:=first | omega | simp (disch:=omega) only [aG,aM]) only [fZ,aM]) rfl (aret_of ?_)
  simp (disch:=((try simp only [lZ]); omega)) only [aZ,aM]
  by_cases hdb : drB p=true
  case neg =>
    have hdb' : drB p=false:=by cases h : drB p<;>simp_all
    have hck2 : chkP p=23:=by unfold chkP; rw [hdR]; simp [hdb']
    refine (hne _ (by omega)).mono ?_
    rintro r K ⟨rfl,G⟩
    refine aret_of ?_
    rw [hdb',hck2]
    simp (disch:=((try simp only [lZ]); omega)) only [aZ,aM]
    refine hex.same rfl rfl (aret_of ?_)
    simp (disch:=((try simp only [lZ]); omega)) only [aZ,aM,r_top_TopDrains]
    exact post_v ⟨rfl,rfl⟩
  have hc : chkP p=0:=by unfold chkP; rw [hdR]; simp [hdb]
  rw [hdb]
  have ok:=pcheck_ok hp
  obtain ⟨m1,m2,m3⟩:=ok.mt1
  have n2:=ok.n2
  refine (hnw _ hc).mono ?_
  rintro r K0 ⟨a0,rfl,P0,G0,L0⟩
  rw [m3] at hbd hck ⊢
  have B0 : blkAt K0 0 0=some [.v (.int .i64 p.mt),.fs true (mcs true p.ms),.fs true (bts p.bs),.v (.int .i64 p.fd)]:=by rw [← m3]; exact G0.at rfl (fun h=>h)
  have D0 : DInv p a0 (newS p) 0 (K0++[⟨0,ints (zeros p.mt)⟩]):=⟨P0.grow _,Iv.new p,noH_new p,(blkAt_app _ _ _ _ (blkAt_lt B0)).trans B0,nftp_lo L0 (by simp),fun x=>by rw [new_tot]; exact (zeros_get _ _).symm,fun x=>by rw [show (newS p).fed.getD x 0=0 from zeros_get _ _]; exact Int.le_refl _⟩
  refine aret_of ?_
  simp (disch:=((try simp only [lZ]); omega)) only [aZ,aM,B0]
  obtain ⟨F,hF⟩ : ∃ F,F=K0.length:=⟨_,rfl⟩
  have hF0 : 0 < F:=by rw [hF]; exact blkAt_lt B0
  rw [← hF]
  refine AWP.loopM g_top_TopDrains_0 (fun x : Nat×Ad×Sy×List Blk=>x.1≤L.length∧DInv p x.2.1 x.2.2.1 (4*x.1) x.2.2.2∧(x.2.1 .root).1=(a0 .root).1∧blkAt x.2.2.2 F 0=some (ints x.2.2.1.fed)∧¬ ftp p x.2.1 F) (fun x=>[(10,.v (.int .i64 x.1))]) (fun x=>x.2.2.2) (fun x=>L.length - x.1) (0,a0,newS p,K0++[(⟨0,ints (zeros p.mt)⟩ : Blk)]) ⟨by omega,D0,rfl,by rw [hF,blkAt_new0]; rfl,by rw [hF]; exact P0.nftp (Nat.le_refl _)⟩ ?_ ?_
  · exact Cut.fg (by simp (disch:=first | omega | simp (disch:=omega) only [aG,aM]) only [fZ,aM,fgl_nil,fgl_cons,or_true,true_or])
  clear D0 B0 P0 L0 G0 hF
  rintro ⟨i,a,s,K⟩ ⟨hi,D,ra,kF,nF⟩
  simp only at hi D ra kF nF
  have b0:=D.b0
  have lb0:=blkAt_lt b0
  have lF:=blkAt_lt kF
  have sfl:=D.iv.1.fd.1
  by_cases hit : i < L.length
  · generalize hrow : L.getD i []=row
    obtain ⟨f,hf⟩ : ∃ f : Nat→Int,f=fun x=>if x < row.length then max 0 (min 4 (row.getD x 0)) else 0:=⟨_,rfl⟩
    have hf4 : ∀ x,0≤f x∧f x≤4:=fun x=>by rw [hf]; simp only; split<;>omega
    have hz : List.replicate p.mt (0 : Int)=tbK p.mt f 0:=(tbK_zero _ _).symm
    have hse:=blk_self kF
    simp (disch:=((try simp only [lZ]); omega)) only [aZ,aM,b0,hrow,hz]
    refine AWP.loopM g_top_TopDrains_1 (fun k : Nat=>k≤p.mt) (fun k=>[(17,.v (.int .i64 k))]) (fun k=>K.set F ⟨0,ints (upM s.fed (tb p.mt f) k)⟩++[⟨0,ints (tbK p.mt f k)⟩]) (fun k=>p.mt - k) 0 (by omega) ?_ ?_
    · rw [upM_zero,hse]
      exact Cut.fg (by simp (disch:=first | omega | simp (disch:=omega) only [aG,aM]) only [fZ,aM,fgl_nil,fgl_cons,or_true,true_or])
    rintro k hk
    have kl:=tbK_len p.mt f k
    have ul:=upM_len s.fed (tb p.mt f) k
    have tn:=fun (B : Blk) (T : List Blk)=>blk_tb (K:=K) (T:=T) (i:=F) (j:=0) (l:=0) (B:=B)
    have ts:=fun (B : Blk) (T : List Blk) (C : Blk)=>set_tb (K:=K) (T:=T) (i:=F) (B:=B) (C:=C)
    simp only [Nat.add_zero] at tn
    have aF : ∀ (T : List Blk),blkAt (K.set F ⟨0,ints (upM s.fed (tb p.mt f) k)⟩++T) F 0=some (ints (upM s.fed (tb p.mt f) k)):=fun T=>by rw [blkAt_app _ _ _ _ (by rw [List.length_set]; exact lF)]; exact blkAt_set_same _ _ _ _ lF
    by_cases hkt : k < p.mt
    · have e0 : (upM s.fed (tb p.mt f) k).getD k 0=s.fed.getD k 0:=by rw [upM_get _ _ _ _ (by omega),if_neg (by omega)]
      have e1:=upM_set s.fed (tb p.mt f) k (by omega)
      rw [tb_get _ _ _ hkt] at e1
      have ks:=tbK_set p.mt f k hkt
      have kg : (tbK p.mt f (k+1)).getD k 0=f k:=by unfold tbK; rw [tb_get _ _ _ hkt,if_pos (by omega)]
      have kl1:=tbK_len p.mt f (k+1)
      have q1:=hf4 k
      have q2:=D.fd k
      have q3:=D.iv.1.fd.2 k
      by_cases hkr : k < row.length
      · have fk : max 0 (min 4 (row.getD k 0))=f k:=by rw [hf]; simp only; rw [if_pos hkr]
        simp (disch:=((try simp only [lZ]); omega)) only [aZ,aM,hrow,decide_eq_true (show (k : Int) < row.length by omega),fk,ks,tn,ts,aF,e0,kg,e1]
        refine ⟨k+1,by omega,by omega,?_⟩
        try simp (disch:=((try simp only [lZ]); omega)) only [aZ,aM]
        exact Cut.fg (by simp (disch:=first | omega | simp (disch:=omega) only [aG,aM]) only [fZ,aM,fgl_nil,fgl_cons,or_true,true_or])
      · have fk : f k=0:=by rw [hf]; simp only; rw [if_neg hkr]
        have ks2:=tbK_same p.mt f k hkt fk
        rw [← ks2] at kg kl1
        simp (disch:=((try simp only [lZ]); omega)) only [aZ,aM,hrow,decide_eq_false (show ¬ (k : Int) < row.length by omega),tn,ts,aF,e0,kg,e1]
        refine ⟨k+1,by omega,by omega,?_⟩
        rw [← ks2]
        try simp (disch:=((try simp only [lZ]); omega)) only [aZ,aM]
        exact Cut.fg (by simp (disch:=first | omega | simp (disch:=omega) only [aG,aM]) only [fZ,aM,fgl_nil,fgl_cons,or_true,true_or])
    have hke : k=p.mt:=by omega
    subst hke
    rw [tbK_all,upM_all _ _ _ (by omega)]
    have gF : Gr (one F) K (K.set F ⟨0,ints (plusM s.fed (tb p.mt f))⟩++[⟨0,ints (tb p.mt f)⟩]):=(Gr.set (F:=one F) _ _ _ rfl).trans (Gr.app (F:=one F) _ _) fun _ _ h=>h
    have D1 : DInv p a s (4*i) (K.set F ⟨0,ints (plusM s.fed (tb p.mt f))⟩++[⟨0,ints (tb p.mt f)⟩]):=⟨D.pm.gr gF fun c hc hf=>nF ⟨c,hc,hf⟩,D.iv,D.nh,gF.at b0 (fun hf=>by have : 0=F:=hf; omega),D.n0,D.eq,D.fd⟩
    have hfit:=fit_small (c:=4) m2 (fed:=s.fed) (f:=f) (fun x _=>hf4 x) D.fd (by omega)
    have hfd:=feed_s (j:=K.length) (v:=0) (xs:=tb p.mt f) hp D1.pm D.iv (by have:=tn ⟨0,ints (plusM s.fed (tb p.mt f))⟩ [⟨0,ints (tb p.mt f)⟩]; rw [this]; rfl) (D.pm.nftp (Nat.le_refl _))
    rw [ra,tb_len,hfit] at hfd
    have F1 : blkAt (K.set F ⟨0,ints (plusM s.fed (tb p.mt f))⟩++[⟨0,ints (tb p.mt f)⟩]) F 0=some (ints (plusM s.fed (tb p.mt f))):=by rw [blkAt_app _ _ _ _ (by rw [List.length_set]; exact lF)]; exact blkAt_set_same _ _ _ _ lF
    simp (disch:=((try simp only [lZ]); omega)) only [aZ,aM]
    refine hfd.mono ?_
    rintro r K2 ⟨rfl,P2,T2⟩
    have F2:=T2.keep F1 nF
    have D2:=D1.feed ok (c:=4) hfit (fun x=>by
      by_cases hx : x < p.mt
      · rw [tb_get _ _ _ hx]; exact (hf4 x).2
      · rw [get_out (tb_len _ _) (by omega)]; omega) P2 T2
    have ef : (feedR p s (tb p.mt f)).fed=plusM s.fed (tb p.mt f):=by unfold feedR; rw [if_pos hfit]; rfl
    obtain ⟨n,hn,hn30⟩:=clamp_natR (st.getD i 0) 30
    have hn' : max 0 (min 30 (st.getD i 0))=(n : Int):=hn
    have hr:=run_e hp P2 D2.iv n (by omega)
    rw [ra] at hr
    refine aret_of ?_
    simp (disch:=((try simp only [lZ]); omega)) only [aZ,aM,hn']
    refine hr.mono ?_
    rintro r K3 ⟨rfl,s3,a3,P3,T3,I3,E3⟩
    have D3:=D2.run hp P3 T3 I3 E3
    have F3:=T3.keep F2.1 F2.2
    have ef3 : s3.fed=plusM s.fed (tb p.mt f):=by rw [E3.fed,(D2.iv.1.it hp n).2.2.2,ef]
    refine aret_of ?_
    simp (disch:=((try simp only [lZ]); omega)) only [aZ,aM]
    refine ⟨(i+1,a3,s3,K3),⟨by simp only; omega,⟨D3.pm,D3.iv,D3.nh,D3.b0,D3.n0,D3.eq,fun x=>by have:=D3.fd x; simp only; omega⟩,(congrArg Prod.fst T3.2.2).trans ra,by rw [ef3]; exact F3.1,F3.2⟩,by simp only; omega,?_⟩
    try simp (disch:=((try simp only [lZ]); omega)) only [aZ,aM]
    exact Cut.fg (by simp (disch:=first | omega | simp (disch:=omega) only [aG,aM]) only [fZ,aM,fgl_nil,fgl_cons,or_true,true_or])
  have hie : i=L.length:=by omega
  subst hie
  have hi1:=inside_m hp D.pm D.iv.1
  rw [ra] at hi1
  have hsi:=sumI_le D.iv.1 D.eq D.fd (by omega) m2
  have hsv:=sumI_vr (w:=false) m2 D.iv.1
  have hbn : bndR p (sumI p s)=(sumI p s*perP p,0):=by unfold bndR; rw [if_neg (fun h=>h hc),if_neg (by omega)]
  have hmul:=bnd_mul hc (g:=sumI p s) (by omega)
  have hbd1:=hbd (sumI p s)
  rw [hbn] at hbd1
  obtain ⟨g,hgn⟩ : ∃ g : Nat,sumI p s=g:=⟨(sumI p s).toNat,by omega⟩
  have hgp : sumI p s*perP p=((g*(perP p).toNat : Nat) : Int):=by rw [hgn,Int.natCast_mul,Int.toNat_of_nonneg hmul.2.2.1]
  have hz0:=sumI_bnd hc g D.iv.1 D.nh (by omega)
  generalize g*(perP p).toNat=N at *
  simp (disch:=((try simp only [lZ]); omega)) only [aZ,aM,b0]
  refine ⟨?_,?_,?_⟩<;>(
    refine hi1.mono ?_
    rintro r K2 ⟨rfl,G2,O2⟩
    have D2:=D.gr G2
    have b2:=D2.b0
    have F2:=G2.at kF fun h=>h
    refine aret_of ?_
    simp (disch:=((try simp only [lZ]); omega)) only [aZ,aM,b2]
    refine hsv.use ⟨ld_slI K2 _ _ _ _ (insL_len _ _).symm O2,trivial⟩ rfl (aret_of ?_)
    simp (disch:=((try simp only [lZ]); omega)) only [aZ,aM,b2]
    refine hbd1.same (by simp (disch:=first | omega | simp (disch:=omega) only [aG,aM]) only [fZ,aM]) rfl (aret_of ?_)
    by_cases hn2 : sumI p s*perP p > 3000
    case pos =>
      simp (disch:=((try simp only [lZ]); omega)) only [aZ,aM,decide_eq_true hn2]
      refine hex.same rfl rfl (aret_of ?_)
      simp (disch:=((try simp only [lZ]); omega)) only [aZ,aM,r_top_TopDrains]
      exact post_v ⟨rfl,rfl⟩
    have hr:=run_e hp D2.pm D2.iv N (by omega)
    rw [ra] at hr
    simp (disch:=((try simp only [lZ]); omega)) only [aZ,aM,decide_eq_false hn2]
    rw [hgp]
    refine hr.mono ?_
    rintro r K3 ⟨rfl,s3,a3,P3,T3,I3,E3⟩
    have D3:=D2.run hp P3 T3 I3 E3
    have F3:=T3.keep F2 nF
    have ef3 : s3.fed=s.fed:=by rw [E3.fed,(D2.iv.1.it hp N).2.2.2]
    have hz3 : sumI p s3=0:=E3.sumI.trans hz0
    have ra3:=(congrArg Prod.fst T3.2.2).trans ra
    have hi3:=inside_m hp D3.pm D3.iv.1
    rw [ra3] at hi3
    have hsv3:=sumI_vr (w:=false) m2 D3.iv.1
    rw [hz3] at hsv3
    refine aret_of ?_
    simp (disch:=((try simp only [lZ]); omega)) only [aZ,aM]
    refine hi3.mono ?_
    rintro r K4 ⟨rfl,G4,O4⟩
    have D4:=D3.gr G4
    have b4:=D4.b0
    have F4:=G4.at F3.1 fun h=>h
    refine aret_of ?_
    simp (disch:=((try simp only [lZ]); omega)) only [aZ,aM]
    refine hsv3.use ⟨ld_slI K4 _ _ _ _ (insL_len _ _).symm O4,trivial⟩ rfl (aret_of ?_)
    simp (disch:=((try simp only [lZ]); omega)) only [aZ,aM,b4]
    have sfl3:=I3.1.fd.1
    refine AWP.loopM g_top_TopDrains_2 (fun x : Nat×List Blk=>x.1≤p.ms.length∧PM x.2 p a3 s3∧blkAt x.2 0 0=some [.v (.int .i64 p.mt),.fs true (mcs true p.ms),.fs true (bts p.bs),.v (.int .i64 p.fd)]∧blkAt x.2 F 0=some (ints (tb p.mt fun y=>s3.fed.getD y 0 - sm x.1 (binM p s3 y)))) (fun x=>[(23,.v (.int .i64 x.1))]) (fun x=>x.2) (fun x=>p.ms.length - x.1) (0,K4) ⟨by omega,D4.pm,b4,by
      simp only [sm]
      rw [F4,← ef3]
      congr 2
      refine eq_of_getB 0 (by rw [tb_len]; exact sfl3) fun x hx=>?_
      rw [tb_get _ _ _ (by omega)]; omega⟩ ?_ ?_
    · exact Cut.fg (by simp (disch:=first | omega | simp (disch:=omega) only [aG,aM]) only [fZ,aM,fgl_nil,fgl_cons,or_true,true_or])
    rintro ⟨m,Q⟩ ⟨hm,qP,qB,qF⟩
    simp only at hm qP qB qF
    have lQF:=blkAt_lt qF
    by_cases hmt : m < p.ms.length
    · by_cases he : fndE p m=0
      · have hb:=bin_ok ok qP I3.1.ok m he
        rw [ra3,Int.toNat_natCast] at hb
        have hzo : outsN (p.ms.getD m [])=0:=(fnd_bin hmt).1 he
        have bl:=I3.1.bl m hmt
        have bll:=bl.1
        simp (disch:=((try simp only [lZ]); omega)) only [aZ,aM]
        refine hb.mono ?_
        rintro r Q2 ⟨rfl,hQ2⟩
        have P2 : PM Q2 p a3 s3:=by rw [hQ2]; exact qP.grow _
        have G2' : Gr nof Q Q2:=by rw [hQ2]; exact Gr.app _ _
        have x2 : blkAt Q2 Q.length 1=some (ints (s3.bef m)):=by rw [hQ2,blkAt_new0]; rfl
        have qB2:=G2'.at qB fun h=>h
        have qF2:=G2'.at qF fun h=>h
        clear hQ2
        obtain ⟨W,hW⟩ : ∃ W,W=tb p.mt fun y=>s3.fed.getD y 0 - sm m (binM p s3 y):=⟨_,rfl⟩
        have wl : W.length=p.mt:=by rw [hW,tb_len]
        rw [← hW] at qF2
        have lF2:=blkAt_lt qF2
        have hse:=blk_self qF2
        have wb : ∀ x,-1073741824*16≤W.getD x 0∧W.getD x 0≤1073741824:=fun x=>by
          by_cases hx : x < p.mt
          · rw [hW,tb_get _ _ _ hx]
            have q3:=I3.1.fd.2 x
            have q4:=tot_ins p s3 x
            have q5:=ins_tot I3.1 x
            have q6:=sm_part (n:=p.ms.length) (k:=m) (f:=binM p s3 x) (fun j hj=>by unfold binM; split<;>first | exact (I3.1.bl j hj).2 x | exact Int.le_refl _) (by omega)
            have q7 : binT p s3 x=sm p.ms.length (binM p s3 x):=rfl
            have q8:=I3.1.tt x
            have q9 : 0≤sm m (binM p s3 x):=sm_nn fun j hj=>by unfold binM; split<;>first | exact (I3.1.bl j (by omega)).2 x | exact Int.le_refl _
            omega
          · rw [get_out wl (by omega)]; omega
        refine aret_of ?_
        simp (disch:=((try simp only [lZ]); omega)) only [aZ,aM,qB2,decide_eq_false (show ¬ ((p.mt : Int)≠p.mt) by omega)]
        refine AWP.loopM g_top_TopDrains_3 (fun j : Nat=>j≤p.mt) (fun j=>[(29,.v (.int .i64 j))]) (fun j=>Q2.set F ⟨0,ints (dnM W (s3.bef m) j)⟩) (fun j=>p.mt - j) 0 (by omega) ?_ ?_
        · rw [dnM_zero,hse]
          exact Cut.fg (by simp (disch:=first | omega | simp (disch:=omega) only [aG,aM]) only [fZ,aM,fgl_nil,fgl_cons,or_true,true_or])
        rintro j hj
        have dl:=dnM_len W (s3.bef m) j
        have aT : blkAt (Q2.set F ⟨0,ints (dnM W (s3.bef m) j)⟩) F 0=some (ints (dnM W (s3.bef m) j)):=blkAt_set_same _ _ _ _ lF2
        have aX : blkAt (Q2.set F ⟨0,ints (dnM W (s3.bef m) j)⟩) Q.length 1=some (ints (s3.bef m)):=by rw [blkAt_set_ne _ _ _ _ _ (by omega)]; exact x2
        have aB : blkAt (Q2.set F ⟨0,ints (dnM W (s3.bef m) j)⟩) 0 0=some [.v (.int .i64 p.mt),.fs true (mcs true p.ms),.fs true (bts p.bs),.v (.int .i64 p.fd)]:=by rw [blkAt_set_ne _ _ _ _ _ (by omega)]; exact qB2
        by_cases hjt : j < p.mt
        · have e0 : (dnM W (s3.bef m) j).getD j 0=W.getD j 0:=by rw [dnM_get _ _ _ _ (by omega),if_neg (by omega)]
          have e1:=dnM_set W (s3.bef m) j (by omega)
          have q1:=wb j
          have q2:=(I3.1.ok.bef m hmt).2 j
          simp (disch:=((try simp only [lZ]); omega)) only [aZ,aM,aT,aX,e0,e1]
          refine ⟨j+1,by omega,by omega,?_⟩
          try simp (disch:=((try simp only [lZ]); omega)) only [aZ,aM]
          exact Cut.fg (by simp (disch:=first | omega | simp (disch:=omega) only [aG,aM]) only [fZ,aM,fgl_nil,fgl_cons,or_true,true_or])
        have hje : j=p.mt:=by omega
        subst hje
        have e1 : dnM W (s3.bef m) p.mt=tb p.mt fun y=>s3.fed.getD y 0 - sm (m+1) (binM p s3 y):=by
          refine eq_of_getB 0 (by rw [dl,wl,tb_len]) fun x hx=>?_
          rw [dl,wl] at hx
          rw [dnM_get _ _ _ _ (by omega),if_pos hx,hW,tb_get _ _ _ hx,tb_get _ _ _ hx]
          simp only [sm,binM]; rw [if_pos hzo]; omega
        have P3' : PM (Q2.set F ⟨0,ints (dnM W (s3.bef m) p.mt)⟩) p a3 s3:=P2.gr (Gr.set (F:=one F) _ _ _ rfl) fun c hc hf=>F3.2 ⟨c,hc,hf⟩
        rw [e1] at P3' aT aB ⊢
        simp (disch:=((try simp only [lZ]); omega)) only [aZ,aM]
        refine ⟨(m+1,_),⟨by simp only; omega,P3',aB,aT⟩,by simp only; omega,?_⟩
        try simp (disch:=((try simp only [lZ]); omega)) only [aZ,aM]
        exact Cut.fg (by simp (disch:=first | omega | simp (disch:=omega) only [aG,aM]) only [fZ,aM,fgl_nil,fgl_cons,or_true,true_or])
      · have hb:=bin_err ok qP m he
        rw [ra3] at hb
        have hzo : ¬ outsN (p.ms.getD m [])=0:=fun hc=>he ((fnd_bin hmt).2 hc)
        have e1 : (fun y=>s3.fed.getD y 0 - sm (m+1) (binM p s3 y))=fun y=>s3.fed.getD y 0 - sm m (binM p s3 y):=by
          funext y
          simp only [sm,binM]; rw [if_neg hzo]; omega
        generalize fndE p m=fe at *
        simp (disch:=((try simp only [lZ]); omega)) only [aZ,aM]
        refine hb.mono ?_
        rintro r Q2 ⟨rfl,hQ2⟩
        subst hQ2
        refine aret_of ?_
        simp (disch:=((try simp only [lZ]); omega)) only [aZ,aM,decide_eq_true he]
        refine ⟨(m+1,Q2),⟨by simp only; omega,qP,qB,by simp only; rw [e1]; exact qF⟩,by simp only; omega,?_⟩
        try simp (disch:=((try simp only [lZ]); omega)) only [aZ,aM]
        exact Cut.fg (by simp (disch:=first | omega | simp (disch:=omega) only [aG,aM]) only [fZ,aM,fgl_nil,fgl_cons,or_true,true_or])
    have hme : m=p.ms.length:=by omega
    subst hme
    have tl : (tb p.mt fun y=>s3.fed.getD y 0 - sm p.ms.length (binM p s3 y)).length=p.mt:=tb_len _ _
    simp (disch:=((try simp only [lZ]); omega)) only [aZ,aM]
    refine AWP.loopP g_top_TopDrains_4 (fun x : Nat=>x≤p.mt) (fun x=>[(33,.v (.int .i64 x))]) (fun _=>[]) (fun x=>p.mt - x) 0 (by omega) ?_ ?_
    · exact Cut.fg (by simp (disch:=first | omega | simp (disch:=omega) only [aG,aM]) only [fZ,aM,fgl_nil,fgl_cons,or_true,true_or])
    rintro x hx
    by_cases hxt : x < p.mt
    · have g1 : (tb p.mt fun y => s3.fed.getD y 0 - sm p.ms.length (binM p s3 y)).getD x 0 = 0 := by
        rw [tb_get _ _ _ hxt]
        have:=bins_fed I3.1 D3.eq hz3 hxt
        have q7 : binT p s3 x=sm p.ms.length (binM p s3 x):=rfl
        omega
      simp (disch:=((try simp only [lZ]); omega)) only [aZ,aM,qF,g1]
      refine ⟨x+1,by omega,by omega,?_⟩
      try simp (disch:=((try simp only [lZ]); omega)) only [aZ,aM]
      exact Cut.fg (by simp (disch:=first | omega | simp (disch:=omega) only [aG,aM]) only [fZ,aM,fgl_nil,fgl_cons,or_true,true_or])
    · simp (disch:=((try simp only [lZ]); omega)) only [aZ,aM]
      refine hex.same rfl rfl (aret_of ?_)
      simp (disch:=((try simp only [lZ]); omega)) only [aZ,aM,r_top_TopDrains]
      exact post_v ⟨rfl,rfl⟩)
end Go.Proofs.Ytdkoindoljngmaa
