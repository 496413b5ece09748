/- Lemmas and walks that the proof of SetpointConserves uses. No statement is claimed here. -/
import Derived.Test.YtcppaddgclkekaaSetpointConservesZas
namespace Go.Proofs.Ytcppaddgclkekaa
open Go Go.Lft
set_option linter.unusedSimpArgs false
set_option linter.unusedVariables false
attribute [local congr] ob_congr bw_congr ib_congr ck_congr iwA_congr itA_congr aw_congr awp_congr sqA_congr bkA_congr vr_congr gd_congr
def chN (L : List (List Og)) : Int:=if 256 < prd L then 257 else prd L
theorem refChoices_vr {u : Bool} (L : List (List Og)) (hl : L.length≤1000) (hb : ∀ l∈L,l.length≤100) : VR P false n_ref37_Choices [.fs u (ogL u L)] [] (isR (.v (.int .i64 (chN L)))):=by
  refine vr_ref37_Choices (by simp) (.inr rfl) fun _ _=>?_
  simp (disch:=((try simp only [lZ]); omega)) only [aZ,aM,aG37,s_ref37_Choices,v_ref37_Choices]
  refine AWP.loopP g_ref37_Choices_0 (fun k : Nat=>k≤L.length∧prd (L.take k)≤256) (fun k=>[(1,.v (.int .i64 0)),(2,.v (.int .i64 (prd (L.take k)))),(3,.v (.int .i64 k))]) (fun _=>[]) (fun k=>L.length - k) 0 ⟨by omega,by simp [prd]⟩ ?_ ?_
  · exact Cut.fg (by simp (disch:=first | omega | simp (disch:=omega) only [aG,aM,aG37]) only [fZ,aM,aG37,List.take_zero,show ((prd [] : Nat) : Int)=1 from rfl,fgl_nil,fgl_cons,or_true,true_or])
  rintro k ⟨hk,hp⟩
  by_cases hkt : k < L.length
  · have hs:=prd_succ L k hkt
    have hlk:=hb _ (mem_get [] hkt)
    have h1:=Nat.mul_le_mul hp (show max 1 (L.getD k []).length≤100 by omega)
    by_cases h1' : ((L.getD k []).length : Int) > 1
    · have h2 : ((prd (L.take k) : Nat) : Int)*((L.getD k []).length : Int)=((prd (L.take (k+1)) : Nat) : Int):=by rw [hs,Int.natCast_mul]; congr 1; omega
      have h3 : ((prd (L.take k) : Nat) : Int)*((L.getD k []).length : Int)≤25600:=by rw [h2,hs]; omega
      have h4 : 0≤((prd (L.take k) : Nat) : Int)*((L.getD k []).length : Int):=by rw [h2]; omega
      by_cases hm : ((prd (L.take (k+1)) : Nat) : Int) > 256
      · have:=prd_take L (k+1)
        rw [show chN L=257 from if_pos (show 256 < prd L by omega)]
        simp (disch:=((try simp only [lZ]); omega)) only [aZ,aM,aG37,decide_eq_true h1',h2,decide_eq_true hm,r_ref37_Choices]
        exact post_v ⟨rfl,rfl⟩
      · simp (disch:=((try simp only [lZ]); omega)) only [aZ,aM,aG37,decide_eq_true h1',h2,decide_eq_false hm]
        refine ⟨k+1,⟨by omega,by omega⟩,by omega,?_⟩
        exact Cut.fg (by simp (disch:=first | omega | simp (disch:=omega) only [aG,aM,aG37]) only [fZ,aM,aG37,fgl_nil,fgl_cons,or_true,true_or])
    · have e : prd (L.take (k+1))=prd (L.take k):=by rw [hs,show max 1 (L.getD k []).length=1 by omega,Nat.mul_one]
      simp (disch:=((try simp only [lZ]); omega)) only [aZ,aM,aG37,decide_eq_false h1',decide_eq_false (show ¬ ((prd (L.take k) : Nat) : Int) > 256 by omega)]
      refine ⟨k+1,⟨by omega,by omega⟩,by omega,?_⟩
      exact Cut.fg (by simp (disch:=first | omega | simp (disch:=omega) only [aG,aM,aG37]) only [fZ,aM,aG37,e,fgl_nil,fgl_cons,or_true,true_or])
  have hke : k=L.length:=by omega
  subst hke
  rw [List.take_length] at hp
  rw [show chN L=prd L from if_neg (by omega)]
  simp (disch:=((try simp only [lZ]); omega)) only [aZ,aM,aG37,List.take_length,r_ref37_Choices]
  exact post_v ⟨rfl,rfl⟩
theorem rows37b_vr {w : Bool} (r : Mc) : VR P false n_law37_rows [.fs w (rows w r)] [] (fun x G=>G=[]∧∃ b : Bool,x=.v (.bool b)∧(b=true→rwP r)):=by
  refine vr_law37_rows (by simp) (.inr rfl) fun _ _=>?_
  by_cases h1 : (r.length : Int) > 30
  · simp (disch:=((try simp only [lZ]); omega)) only [aZ,aM,aG37,s_law37_rows,v_law37_rows,decide_eq_true h1,r_law37_rows]
    exact post_v ⟨rfl,_,rfl,by simp⟩
  simp (disch:=((try simp only [lZ]); omega)) only [aZ,aM,aG37,s_law37_rows,v_law37_rows,decide_eq_false h1]
  refine AWP.loopP g_law37_rows_0 (fun k : Nat=>k≤r.length∧∀ i,i < k→(r.getD i []).length≤10) (fun k=>[(1,.v (.bool false)),(2,.v (.int .i64 k))]) (fun _=>[]) (fun k=>r.length - k) 0 ⟨by omega,by omega⟩ ?_ ?_
  · exact Cut.fg (by simp (disch:=first | omega | simp (disch:=omega) only [aG,aM,aG37]) only [fZ,aM,aG37,fgl_nil,fgl_cons,or_true,true_or])
  rintro k ⟨hk,hr⟩
  by_cases hlt : k < r.length
  · by_cases h2 : ((r.getD k []).length : Int) > 10
    · simp (disch:=((try simp only [lZ]); omega)) only [aZ,aM,aG37,decide_eq_true h2,r_law37_rows]
      exact post_v ⟨rfl,_,rfl,by simp⟩
    · simp (disch:=((try simp only [lZ]); omega)) only [aZ,aM,aG37,decide_eq_false h2]
      refine ⟨k+1,⟨by omega,fun i hi=>(Nat.lt_succ_iff_lt_or_eq.1 hi).elim (hr i) fun h=>by rw [h]; omega⟩,by omega,?_⟩
      exact Cut.fg (by simp (disch:=first | omega | simp (disch:=omega) only [aG,aM,aG37]) only [fZ,aM,aG37,fgl_nil,fgl_cons,or_true,true_or])
  · have hke : k=r.length:=by omega
    simp (disch:=((try simp only [lZ]); omega)) only [aZ,aM,aG37,decide_eq_false (show ¬ (k : Int) < r.length by omega),r_law37_rows]
    refine post_v ⟨rfl,_,rfl,fun _=>⟨by omega,fun x hx=>?_⟩⟩
    obtain ⟨i,hi,rfl⟩:=get_mem [] hx
    exact hr i (by omega)
theorem rows_c {m : Mc} (r : A) (G : List Blk) (h : G=[]∧∃ b : Bool,r=.v (.bool b)∧(b=true→rwP m)) : G=[]∧(r.cl && r.bd 0)=true:=by
  obtain ⟨rfl,b,rfl,_⟩:=h; exact ⟨rfl,rfl⟩
structure Light (p : Pl) (L : List (List Og)) (fd : List Int) (gs : List Bt) : Prop where
  hm : p.ms.length≤30
  hb : p.bs.length≤60
  hL : L.length≤40
  hf : fd.length≤40
  hg : gs.length≤60
  hr : ∀ i,i < p.ms.length→rwP (p.ms.getD i [])
  ho : ∀ i,i < L.length→(L.getD i []).length≤10∧∀ k,k < (L.getD i []).length→rwP ((L.getD i []).getD k og0).r
def caseA (w v u a b : Bool) (p : Pl) (L : List (List Og)) (fd : List Int) (gs : List Bt) : A:=.agg [.v (.int .i64 p.mat),.fs w (mcs w p.ms),.fs v (bts p.bs),.v (.int .i64 p.fd),.fs u (ogL u L),.fs a (ints fd),.fs b (bts gs)]
theorem rw_step {m : List Mc} {k : Nat} (h : ∀ i,i < k→rwP (m.getD i [])) (hk : rwP (m.getD k [])) : ∀ i,i < k+1→rwP (m.getD i []) :=
  fun i hi=>(Nat.lt_succ_iff_lt_or_eq.1 hi).elim (h i) fun e=>e▸hk
set_option maxHeartbeats 4000000 in
theorem light37_vr {w v u a b : Bool} (p : Pl) (L : List (List Og)) (fd : List Int) (gs : List Bt) : VR P false n_law37_light [caseA w v u a b p L fd gs] [] (fun x G=>G=[]∧∃ y : Bool,x=.v (.bool y)∧(y=true→Light p L fd gs)):=by
  refine vr_law37_light (by simp) (.inr rfl) fun _ _=>?_
  unfold caseA
  by_cases c0 : (p.ms.length : Int) > 30
  · simp (disch:=((try simp only [lZ]); omega)) only [aZ,aM,aG37,s_law37_light,v_law37_light,decide_eq_true c0,r_law37_light]
    exact post_v ⟨rfl,_,rfl,by simp⟩
  by_cases c1 : (p.bs.length : Int) > 60
  · simp (disch:=((try simp only [lZ]); omega)) only [aZ,aM,aG37,s_law37_light,v_law37_light,decide_eq_false c0,decide_eq_true c1,r_law37_light]
    exact post_v ⟨rfl,_,rfl,by simp⟩
  by_cases c2 : (L.length : Int) > 40
  · simp (disch:=((try simp only [lZ]); omega)) only [aZ,aM,aG37,s_law37_light,v_law37_light,decide_eq_false c0,decide_eq_false c1,decide_eq_true c2,r_law37_light]
    exact post_v ⟨rfl,_,rfl,by simp⟩
  by_cases c3 : (fd.length : Int) > 40
  · simp (disch:=((try simp only [lZ]); omega)) only [aZ,aM,aG37,s_law37_light,v_law37_light,decide_eq_false c0,decide_eq_false c1,decide_eq_false c2,decide_eq_true c3,r_law37_light]
    exact post_v ⟨rfl,_,rfl,by simp⟩
  by_cases c4 : (gs.length : Int) > 60
  · simp (disch:=((try simp only [lZ]); omega)) only [aZ,aM,aG37,s_law37_light,v_law37_light,decide_eq_false c0,decide_eq_false c1,decide_eq_false c2,decide_eq_false c3,decide_eq_true c4,r_law37_light]
    exact post_v ⟨rfl,_,rfl,by simp⟩
  simp (disch:=((try simp only [lZ]); omega)) only [aZ,aM,aG37,s_law37_light,v_law37_light,decide_eq_false c0,decide_eq_false c1,decide_eq_false c2,decide_eq_false c3,decide_eq_false c4]
  refine AWP.loopP g_law37_light_0 (fun k : Nat=>k≤p.ms.length∧∀ i,i < k→rwP (p.ms.getD i [])) (fun k=>[(1,.v (.bool false)),(3,.v (.int .i64 k))]) (fun _=>[]) (fun k=>p.ms.length - k) 0 ⟨by omega,by omega⟩ ?_ ?_
  · exact Cut.fg (by simp (disch:=first | omega | simp (disch:=omega) only [aG,aM,aG37]) only [fZ,aM,aG37,fgl_nil,fgl_cons,or_true,true_or])
  rintro k ⟨hk,hr⟩
  by_cases hlt : k < p.ms.length
  · simp (disch:=((try simp only [lZ]); omega)) only [aZ,aM,aG37]
    refine (rows37b_vr _).useE (LdL.refl (by simp (disch:=first | omega | simp (disch:=omega) only [aG,aM,aG37]) only [fZ,aM,aG37])) rows_c ?_
    rintro _ ⟨-,y,rfl,hy⟩
    refine aret_of ?_
    cases y
    · simp (disch:=((try simp only [lZ]); omega)) only [aZ,aM,aG37,r_law37_light]
      exact post_v ⟨rfl,_,rfl,by simp⟩
    · simp (disch:=((try simp only [lZ]); omega)) only [aZ,aM,aG37]
      refine ⟨k+1,⟨by omega,rw_step hr (hy rfl)⟩,by omega,?_⟩
      exact Cut.fg (by simp (disch:=first | omega | simp (disch:=omega) only [aG,aM,aG37]) only [fZ,aM,aG37,fgl_nil,fgl_cons,or_true,true_or])
  have hke : k=p.ms.length:=by omega
  subst hke
  simp (disch:=((try simp only [lZ]); omega)) only [aZ,aM,aG37]
  refine AWP.loopP g_law37_light_1 (fun k : Nat=>k≤L.length∧∀ i,i < k→(L.getD i []).length≤10∧∀ k,k < (L.getD i []).length→rwP ((L.getD i []).getD k og0).r) (fun k=>[(1,.v (.bool false)),(4,.v (.int .i64 k))]) (fun _=>[]) (fun k=>L.length - k) 0 ⟨by omega,by omega⟩ ?_ ?_
  · exact Cut.fg (by simp (disch:=first | omega | simp (disch:=omega) only [aG,aM,aG37]) only [fZ,aM,aG37,fgl_nil,fgl_cons,or_true,true_or])
  rintro k ⟨hk,ho⟩
  by_cases hlt : k < L.length
  · by_cases c6 : ((L.getD k []).length : Int) > 10
    · simp (disch:=((try simp only [lZ]); omega)) only [aZ,aM,aG37,decide_eq_true c6,r_law37_light]
      exact post_v ⟨rfl,_,rfl,by simp⟩
    simp (disch:=((try simp only [lZ]); omega)) only [aZ,aM,aG37,decide_eq_false c6]
    refine AWP.loopP g_law37_light_2 (fun j : Nat=>j≤(L.getD k []).length∧∀ i,i < j→rwP ((L.getD k []).getD i og0).r) (fun j=>[(1,.v (.bool false)),(5,.v (.int .i64 j))]) (fun _=>[]) (fun j=>(L.getD k []).length - j) 0 ⟨by omega,by omega⟩ ?_ ?_
    · exact Cut.fg (by simp (disch:=first | omega | simp (disch:=omega) only [aG,aM,aG37]) only [fZ,aM,aG37,fgl_nil,fgl_cons,or_true,true_or])
    rintro j ⟨hj,hw⟩
    by_cases hjt : j < (L.getD k []).length
    · simp (disch:=((try simp only [lZ]); omega)) only [aZ,aM,aG37]
      refine (rows37b_vr _).useE (LdL.refl (by simp (disch:=first | omega | simp (disch:=omega) only [aG,aM,aG37]) only [fZ,aM,aG37])) rows_c ?_
      rintro _ ⟨-,y,rfl,hy⟩
      refine aret_of ?_
      cases y
      · simp (disch:=((try simp only [lZ]); omega)) only [aZ,aM,aG37,r_law37_light]
        exact post_v ⟨rfl,_,rfl,by simp⟩
      · simp (disch:=((try simp only [lZ]); omega)) only [aZ,aM,aG37]
        refine ⟨j+1,⟨by omega,fun i hi=>(Nat.lt_succ_iff_lt_or_eq.1 hi).elim (hw i) fun e=>e▸hy rfl⟩,by omega,?_⟩
        exact Cut.fg (by simp (disch:=first | omega | simp (disch:=omega) only [aG,aM,aG37]) only [fZ,aM,aG37,fgl_nil,fgl_cons,or_true,true_or])
    have hje : j=(L.getD k []).length:=by omega
    simp (disch:=((try simp only [lZ]); omega)) only [aZ,aM,aG37,decide_eq_false (show ¬ (j : Int) < (L.getD k []).length by omega)]
    refine ⟨k+1,⟨by omega,fun i hi=>(Nat.lt_succ_iff_lt_or_eq.1 hi).elim (ho i) fun e=>by rw [e]; exact ⟨by omega,fun q hq=>hw q (by omega)⟩⟩,by omega,?_⟩
    exact Cut.fg (by simp (disch:=first | omega | simp (disch:=omega) only [aG,aM,aG37]) only [fZ,aM,aG37,fgl_nil,fgl_cons,or_true,true_or])
  have hke : k=L.length:=by omega
  subst hke
  have hL : Light p L fd gs:=⟨by omega,by omega,by omega,by omega,by omega,hr,ho⟩
  simp (disch:=((try simp only [lZ]); omega)) only [aZ,aM,aG37]
  refine AWP.loopP g_law37_light_3 (fun s : Nat×Nat=>s.1≤p.bs.length∧16≤s.2∧s.2≤16+16*s.1) (fun s=>[(6,.v (.int .i64 s.2)),(8,.v (.int .i64 s.1))]) (fun _=>[]) (fun s=>p.bs.length - s.1) (0,16) ⟨by simp only; omega,by simp only; omega,by simp only; omega⟩ ?_ ?_
  · exact Cut.fg (by simp (disch:=first | omega | simp (disch:=omega) only [aG,aM,aG37]) only [fZ,aM,aG37,fgl_nil,fgl_cons,or_true,true_or])
  rintro ⟨k,y⟩ ⟨hk,hy1,hy2⟩
  simp only at hk hy1 hy2
  by_cases hlt : k < p.bs.length
  · obtain ⟨z,hz,hz2⟩ : ∃ z : Nat,max 0 (min (p.bs.getD k b0).ln 16)=(z : Int)∧z≤16:=⟨(max 0 (min (p.bs.getD k b0).ln 16)).toNat,by omega,by omega⟩
    simp (disch:=((try simp only [lZ]); omega)) only [aZ,aM,aG37,hz]
    refine ⟨(k+1,y+z),⟨by simp only; omega,by simp only; omega,by simp only; omega⟩,by simp only; omega,?_⟩
    exact Cut.fg (by simp (disch:=first | omega | simp (disch:=omega) only [aG,aM,aG37]) only [fZ,aM,aG37,fgl_nil,fgl_cons,or_true,true_or])
  have hke : k=p.bs.length:=by omega
  subst hke
  simp (disch:=((try simp only [lZ]); omega)) only [aZ,aM,aG37]
  refine AWP.loopP g_law37_light_4 (fun s : Nat×Nat=>s.1≤fd.length∧s.2≤1073741824*s.1) (fun s=>[(1,.v (.bool false)),(7,.v (.int .i64 s.2)),(9,.v (.int .i64 s.1))]) (fun _=>[]) (fun s=>fd.length - s.1) (0,0) ⟨by simp only; omega,by simp only; omega⟩ ?_ ?_
  · exact Cut.fg (by simp (disch:=first | omega | simp (disch:=omega) only [aG,aM,aG37]) only [fZ,aM,aG37,fgl_nil,fgl_cons,or_true,true_or])
  rintro ⟨k,g⟩ ⟨hk,hg⟩
  simp only at hk hg
  by_cases hlt : k < fd.length
  · by_cases d1 : fd.getD k 0 < 0
    · simp (disch:=((try simp only [lZ]); omega)) only [aZ,aM,aG37,decide_eq_true d1,r_law37_light]
      exact post_v ⟨rfl,_,rfl,fun _=>hL⟩
    by_cases d2 : fd.getD k 0 > 1073741824
    · simp (disch:=((try simp only [lZ]); omega)) only [aZ,aM,aG37,decide_eq_false d1,decide_eq_true d2,r_law37_light]
      exact post_v ⟨rfl,_,rfl,fun _=>hL⟩
    obtain ⟨z,hz⟩ : ∃ z : Nat,fd.getD k 0=(z : Int):=⟨(fd.getD k 0).toNat,by omega⟩
    rw [hz] at d1 d2
    simp (disch:=((try simp only [lZ]); omega)) only [aZ,aM,aG37,hz,decide_eq_false d1,decide_eq_false d2]
    refine ⟨(k+1,g+z),⟨by simp only; omega,by simp only; omega⟩,by simp only; omega,?_⟩
    exact Cut.fg (by simp (disch:=first | omega | simp (disch:=omega) only [aG,aM,aG37]) only [fZ,aM,aG37,fgl_nil,fgl_cons,or_true,true_or])
  have hke : k=fd.length:=by omega
  subst hke
  simp (disch:=((try simp only [lZ]); omega)) only [aZ,aM,aG37]
  refine (refChoices_vr L (by omega) fun l hl=>?_).same (by simp (disch:=first | omega | simp (disch:=omega) only [aG,aM,aG37]) only [fZ,aM,aG37]) rfl (aret_of ?_)
  · obtain ⟨i,hi,rfl⟩:=get_mem [] hl
    exact Nat.le_trans (ho i hi).1 (by omega)
  obtain ⟨n,hn,hn2⟩ : ∃ n : Nat,max 1 (min (chN L) 256)=(n : Int)∧n≤256:=⟨(max 1 (min (chN L) 256)).toNat,by omega,by omega⟩
  obtain ⟨q,hq,hq2⟩ : ∃ q : Nat,(g : Int)*(y : Int)=(q : Int)∧q≤42949672960*976:=⟨g*y,by rw [Int.natCast_mul],Nat.mul_le_mul (by omega) (by omega)⟩
  obtain ⟨q',hq',hq2'⟩ : ∃ q' : Nat,(q : Int)*(n : Int)=(q' : Int)∧q'≤42949672960*976*256:=⟨q*n,by rw [Int.natCast_mul],Nat.mul_le_mul hq2 hn2⟩
  simp (disch:=((try simp only [lZ]); omega)) only [aZ,aM,aG37,hq,hn,hq',r_law37_light]
  exact post_v ⟨rfl,_,rfl,fun _=>hL⟩


end Go.Proofs.Ytcppaddgclkekaa
namespace Go.Proofs.Ytcppaddgclkekaa
open Go Go.Lft
set_option linter.unusedSimpArgs false
set_option linter.unusedVariables false

end Go.Proofs.Ytcppaddgclkekaa
namespace Go.Proofs.Ytcppaddgclkekaa
open Go Go.Lft
set_option linter.unusedSimpArgs false
set_option linter.unusedVariables false
attribute [local congr] ob_congr bw_congr ib_congr ck_congr iwA_congr itA_congr aw_congr awp_congr sqA_congr bkA_congr vr_congr gd_congr
theorem light_c37 {p : Pl} {L : List (List Og)} {fd : List Int} {gs : List Bt} (r : A) (G : List Blk) (h : G=[]∧∃ y : Bool,r=.v (.bool y)∧(y=true→Light p L fd gs)) : G=[]∧(r.cl && r.bd 0)=true:=by
  obtain ⟨rfl,b,rfl,_⟩:=h; exact ⟨rfl,rfl⟩
theorem yld_bin {p : Pl} (hc : chkP p = 0) {xs : List Int} (hf : fedE p xs = 0) {x : Nat} (hx : x < p.mt) :
    sm p.ms.length (fun m=>(yldM p xs m).getD x 0)=xs.getD x 0∧∀ m,m < p.ms.length→0≤(yldM p xs m).getD x 0∧(yldM p xs m).length=p.mt∧(outsN (p.ms.getD m [])≠0→(yldM p xs m).getD x 0=0):=by
  obtain ⟨hi,hn,hz⟩:=y_zero hc hf
  have hp:=(chkP_ok hc).1
  have ok:=pcheck_ok hp
  obtain ⟨h1,h2,h3⟩:=fedE_ok hf
  have it:=hi.1.it hp (yN p xs)
  have hg : Gd p (yS p xs):=it.1
  have ht : tot p (yS p xs) x=xs.getD x 0:=by
    have e : tot p (yS p xs) x=tot p (feedS p (newS p) xs) x:=it.2.1 x
    rw [e,feed_tot ok (Gd.new p) h1,new_tot]; omega
  have hin : insT p (yS p xs) x=0:=sm_zero_all (fun x _=>(ins_tot hg x).2) hz hx
  have hti:=tot_ins p (yS p xs) x
  have e : sm p.ms.length (fun m=>(yldM p xs m).getD x 0)=binT p (yS p xs) x:=sm_congr fun m hm=>by
    unfold yldM
    by_cases h : binN p m
    · rw [if_pos h,if_pos (show outsN (p.ms.getD m [])=0 from h)]
    · rw [if_neg h,if_neg (show ¬ outsN (p.ms.getD m [])=0 from h)]; exact zeros_get _ _
  refine ⟨by omega,fun m hm=>?_⟩
  unfold yldM
  by_cases h : binN p m
  · rw [if_pos h]; exact ⟨(hg.bl m hm).2 x,(hg.bl m hm).1,fun h2=>absurd h h2⟩
  · rw [if_neg h]; exact ⟨by rw [zeros_get]; omega,by simp [zeros],fun _=>zeros_get _ _⟩
theorem sm_pre {n : Nat} {f : Nat→Int} (h : ∀ i,i < n→0≤f i) {k : Nat} (hk : k≤n) : sm k f≤sm n f:=by
  induction n with
  | zero=>rw [show k=0 by omega]; exact Int.le_refl _
  | succ n ih =>
    by_cases e : k=n+1
    · rw [e]; exact Int.le_refl _
    · have:=ih (fun i hi=>h i (by omega)) (by omega)
      have:=h n (by omega)
      simp only [sm]; omega
set_option maxHeartbeats 2000000 in
theorem setpointConserves_vr (p : Pl) (xs : List Int) : VR P false n_law37_SetpointConserves [plA true true p,.fs true (ints xs)] [] (isR (.v (.bool true))):=by
  refine vr_law37_SetpointConserves (by simp) (.inr rfl) fun _ _=>?_
  have hli:=light37_vr (w:=true) (v:=true) (u:=false) (a:=true) (b:=false) p [] xs []
  have haw:=awake37_vr
  have hyi:=spYield_vr (w:=true) (v:=true) (u:=true) p xs
  unfold caseA at hli
  unfold yldT at hyi
  have hid : ∀ H : List Blk,LdL H [.agg [.v (.int .i64 p.mat),.fs true (mcs true p.ms),.fs true (bts p.bs),.v (.int .i64 p.fd),.v (.slice none 0 0),.fs true (ints xs),.v (.slice none 0 0)]] [.agg [.v (.int .i64 p.mat),.fs true (mcs true p.ms),.fs true (bts p.bs),.v (.int .i64 p.fd),.fs false (ogL false []),.fs true (ints xs),.fs false (bts [])]]:=fun H =>
    ⟨Ld.agg ⟨Ld.refl (by simp (disch:=first | omega | simp (disch:=omega) only [aG,aM,aG37]) only [fZ,aM,aG37]),Ld.refl (by simp (disch:=first | omega | simp (disch:=omega) only [aG,aM,aG37]) only [fZ,aM,aG37]),Ld.refl (by simp (disch:=first | omega | simp (disch:=omega) only [aG,aM,aG37]) only [fZ,aM,aG37]),Ld.refl (by simp (disch:=first | omega | simp (disch:=omega) only [aG,aM,aG37]) only [fZ,aM,aG37]),ld_nilA _,Ld.refl (by simp (disch:=first | omega | simp (disch:=omega) only [aG,aM,aG37]) only [fZ,aM,aG37]),ld_nilA _,trivial⟩,trivial⟩
  unfold plA plC at *
  simp (disch:=((try simp only [lZ]); omega)) only [aZ,aM,aG37,s_law37_SetpointConserves,v_law37_SetpointConserves]
  refine hli.useE (hid _) light_c37 ?_
  rintro _ ⟨-,y,rfl,hy⟩
  refine aret_of ?_
  cases y
  · simp (disch:=((try simp only [lZ]); omega)) only [aZ,aM,aG37]
    refine haw.same rfl rfl (aret_of ?_)
    simp (disch:=((try simp only [lZ]); omega)) only [aZ,aM,aG37,r_law37_SetpointConserves]
    exact post_v ⟨rfl,rfl⟩
  have hL:=hy rfl
  simp (disch:=((try simp only [lZ]); omega)) only [aZ,aM,aG37]
  refine hyi.same (by simp (disch:=first | omega | simp (disch:=omega) only [aG,aM,aG37]) only [fZ,aM,aG37]) (by simp (disch:=first | omega | simp (disch:=omega) only [aG,aM,aG37]) only [fZ,aM,aG37]) (aret_of ?_)
  by_cases h2 : (yldR p xs).2=0
  case neg =>
    have h1 : (yldR p xs).1=[]:=by
      unfold yldR at *
      split
      · rfl
      split
      · rfl
      · rename_i a b; rw [if_neg a,if_neg b] at h2; exact absurd rfl h2
    simp (disch:=((try simp only [lZ]); omega)) only [aZ,aM,aG37,decide_eq_true (show ¬ (yldR p xs).2=0 from h2),h1,List.length_nil]
    refine haw.same rfl rfl (aret_of ?_)
    simp (disch:=((try simp only [lZ]); omega)) only [aZ,aM,aG37,r_law37_SetpointConserves]
    exact post_v ⟨rfl,rfl⟩
  obtain ⟨hc,hf,e⟩:=yldR_ok h2
  have hp:=(chkP_ok hc).1
  have ok:=pcheck_ok hp
  obtain ⟨m1,m2,m3⟩:=ok.mt1
  have n2:=ok.n2
  obtain ⟨f1,f2,f3⟩:=fedE_ok hf
  have yl:=yldL_len p xs
  have yg:=yldL_get p xs
  have yb:=fun x (hx : x < p.mt)=>yld_bin hc hf hx
  rw [e,m3]
  simp (disch:=((try simp only [lZ]); omega)) only [aZ,aM,aG37,yl,f1]
  refine AWP.loopP g_law37_SetpointConserves_0 (fun k : Nat=>k≤xs.length) (fun k=>[(2,.v (.bool false)),(6,.v (.int .i64 k))]) (fun _=>[]) (fun k=>xs.length - k) 0 (by omega) ?_ ?_
  · exact Cut.fg (by simp (disch:=first | omega | simp (disch:=omega) only [aG,aM,aG37]) only [fZ,aM,aG37,fgl_nil,fgl_cons,or_true,true_or])
  rintro k hk
  by_cases hkt : k < xs.length
  · obtain ⟨b1,b2⟩:=yb k (by omega)
    have bx:=mixE_get f2 k hkt
    simp (disch:=((try simp only [lZ]); omega)) only [aZ,aM,aG37]
    refine AWP.loopP g_law37_SetpointConserves_1 (fun m : Nat=>m≤p.ms.length) (fun m=>[(2,.v (.bool false)),(7,.v (.int .i64 (xs.getD k 0 - sm m fun m=>(yldM p xs m).getD k 0))),(8,.v (.int .i64 m))]) (fun _=>[]) (fun m=>p.ms.length - m) 0 (by omega) ?_ ?_
    · exact Cut.fg (by simp (disch:=first | omega | simp (disch:=omega) only [aG,aM,aG37]) only [fZ,aM,aG37,show (sm 0 fun m=>(yldM p xs m).getD k 0)=0 from rfl,Int.sub_zero,fgl_nil,fgl_cons,or_true,true_or])
    rintro m hm
    by_cases hmt : m < p.ms.length
    · obtain ⟨c1,c2,c3⟩:=b2 m hmt
      have c4:=sm_pre (fun i hi=>(b2 i hi).1) (show m+1≤p.ms.length by omega)
      have c6 : (sm (m+1) fun m=>(yldM p xs m).getD k 0)=(sm m fun m=>(yldM p xs m).getD k 0)+(yldM p xs m).getD k 0:=rfl
      have c7 : 0≤sm m fun m=>(yldM p xs m).getD k 0:=sm_nn fun i hi=>(b2 i (by omega)).1
      have hmo:=ok.mc _ (mem_get [] hmt)
      have hml:=hmo.len
      have hm2:=hmo.m2
      generalize hM : yldM p xs m=M at *
      generalize hS : (sm m fun m=>(yldM p xs m).getD k 0)=Sm at *
      generalize hz : M.getD k 0=z at *
      have hF : ¬ ((0 : Int) < ((List.getD (p.ms.getD m []) 0 []).length : Int)∧z≠0):=fun h=>h.2 (c3 (by unfold outsN; omega))
      have c8 : xs.getD k 0 - Sm - z=xs.getD k 0 - (Sm+z):=by omega
      simp (disch:=((try simp only [lZ]); omega)) only [aZ,aM,aG37,yg,hM,hz,decide_eq_false hF]
      refine ⟨m+1,by omega,by omega,?_⟩
      exact Cut.fg (by simp (disch:=first | omega | simp (disch:=omega) only [aG,aM,aG37]) only [fZ,aM,aG37,c6,c8,fgl_nil,fgl_cons,or_true,true_or])
    have hme : m=p.ms.length:=by omega
    subst hme
    have c8 : xs.getD k 0 - (sm p.ms.length fun m=>(yldM p xs m).getD k 0)=0:=by omega
    rw [c8]
    simp (disch:=((try simp only [lZ]); omega)) only [aZ,aM,aG37]
    refine ⟨k+1,by omega,by omega,?_⟩
    exact Cut.fg (by simp (disch:=first | omega | simp (disch:=omega) only [aG,aM,aG37]) only [fZ,aM,aG37,fgl_nil,fgl_cons,or_true,true_or])
  have hke : k=xs.length:=by omega
  subst hke
  simp (disch:=((try simp only [lZ]); omega)) only [aZ,aM,aG37]
  refine haw.same rfl rfl (aret_of ?_)
  simp (disch:=((try simp only [lZ]); omega)) only [aZ,aM,aG37,r_law37_SetpointConserves]
  exact post_v ⟨rfl,rfl⟩
end Go.Proofs.Ytcppaddgclkekaa
