/- Lemmas and walks that the proof of SetpointBest uses. No statement is claimed here. -/
import Derived.Test.YtcppaddgclkekaaSetpointBestZas
namespace Go.Proofs.Ytcppaddgclkekaa
open Go Go.Lft
set_option linter.unusedSimpArgs false
set_option linter.unusedVariables false
attribute [local congr] ob_congr bw_congr ib_congr ck_congr iwA_congr itA_congr aw_congr awp_congr sqA_congr bkA_congr vr_congr gd_congr
def chN (L : List (List Og)) : Int:=if 256 < prd L then 257 else prd L
theorem refChoices_vr {u : Bool} (L : List (List Og)) (hl : L.length≤1000) (hb : ∀ l∈L,l.length≤100) : VR P false n_ref37_Choices [.fs u (ogL u L)] [] (isR (.v (.int .i64 (chN L)))):=by
  refine vr_ref37_Choices (by simp) (.inr rfl) fun _ _=>?_
  simp (disch:=((try simp only [lZ]); omega)) only [aZ,aM,aG37,s_ref37_Choices,v_ref37_Choices]
  refine AWP.loopP g_ref37_Choices_0 (fun k : Nat=>k≤L.length∧prd (L.take k)≤256) (fun k=>[(1,.v (.int .i64 0)),(2,.v (.int .i64 (prd (L.take k)))),(3,.v (.int .i64 k))]) (fun _=>[]) (fun k=>L.length - k) 0 ⟨by omega,by simp [prd]⟩ ?_ ?_
  · exact Cut.fg (by simp (disch:=first | omega | simp (disch:=omega) only [aG,aM,aG37]) only [fZ,aM,aG37,List.take_zero,show ((prd [] : Nat) : Int)=1 from rfl,fgl_nil,fgl_cons,or_true,true_or])
  rintro k ⟨hk,hp⟩
  by_cases hkt : k < L.length
  · have hs:=prd_succ L k hkt
    have hlk:=hb _ (mem_get [] hkt)
    have h1:=Nat.mul_le_mul hp (show max 1 (L.getD k []).length≤100 by omega)
    by_cases h1' : ((L.getD k []).length : Int) > 1
    · have h2 : ((prd (L.take k) : Nat) : Int)*((L.getD k []).length : Int)=((prd (L.take (k+1)) : Nat) : Int):=by rw [hs,Int.natCast_mul]; congr 1; omega
      have h3 : ((prd (L.take k) : Nat) : Int)*((L.getD k []).length : Int)≤25600:=by rw [h2,hs]; omega
      have h4 : 0≤((prd (L.take k) : Nat) : Int)*((L.getD k []).length : Int):=by rw [h2]; omega
      by_cases hm : ((prd (L.take (k+1)) : Nat) : Int) > 256
      · have:=prd_take L (k+1)
        rw [show chN L=257 from if_pos (show 256 < prd L by omega)]
        simp (disch:=((try simp only [lZ]); omega)) only [aZ,aM,aG37,decide_eq_true h1',h2,decide_eq_true hm,r_ref37_Choices]
        exact post_v ⟨rfl,rfl⟩
      · simp (disch:=((try simp only [lZ]); omega)) only [aZ,aM,aG37,decide_eq_true h1',h2,decide_eq_false hm]
        refine ⟨k+1,⟨by omega,by omega⟩,by omega,?_⟩
        exact Cut.fg (by simp (disch:=first | omega | simp (disch:=omega) only [aG,aM,aG37]) only [fZ,aM,aG37,fgl_nil,fgl_cons,or_true,true_or])
    · have e : prd (L.take (k+1))=prd (L.take k):=by rw [hs,show max 1 (L.getD k []).length=1 by omega,Nat.mul_one]
      simp (disch:=((try simp only [lZ]); omega)) only [aZ,aM,aG37,decide_eq_false h1',decide_eq_false (show ¬ ((prd (L.take k) : Nat) : Int) > 256 by omega)]
      refine ⟨k+1,⟨by omega,by omega⟩,by omega,?_⟩
      exact Cut.fg (by simp (disch:=first | omega | simp (disch:=omega) only [aG,aM,aG37]) only [fZ,aM,aG37,e,fgl_nil,fgl_cons,or_true,true_or])
  have hke : k=L.length:=by omega
  subst hke
  rw [List.take_length] at hp
  rw [show chN L=prd L from if_neg (by omega)]
  simp (disch:=((try simp only [lZ]); omega)) only [aZ,aM,aG37,List.take_length,r_ref37_Choices]
  exact post_v ⟨rfl,rfl⟩
theorem rows37b_vr {w : Bool} (r : Mc) : VR P false n_law37_rows [.fs w (rows w r)] [] (fun x G=>G=[]∧∃ b : Bool,x=.v (.bool b)∧(b=true→rwP r)):=by
  refine vr_law37_rows (by simp) (.inr rfl) fun _ _=>?_
  by_cases h1 : (r.length : Int) > 30
  · simp (disch:=((try simp only [lZ]); omega)) only [aZ,aM,aG37,s_law37_rows,v_law37_rows,decide_eq_true h1,r_law37_rows]
    exact post_v ⟨rfl,_,rfl,by simp⟩
  simp (disch:=((try simp only [lZ]); omega)) only [aZ,aM,aG37,s_law37_rows,v_law37_rows,decide_eq_false h1]
  refine AWP.loopP g_law37_rows_0 (fun k : Nat=>k≤r.length∧∀ i,i < k→(r.getD i []).length≤10) (fun k=>[(1,.v (.bool false)),(2,.v (.int .i64 k))]) (fun _=>[]) (fun k=>r.length - k) 0 ⟨by omega,by omega⟩ ?_ ?_
  · exact Cut.fg (by simp (disch:=first | omega | simp (disch:=omega) only [aG,aM,aG37]) only [fZ,aM,aG37,fgl_nil,fgl_cons,or_true,true_or])
  rintro k ⟨hk,hr⟩
  by_cases hlt : k < r.length
  · by_cases h2 : ((r.getD k []).length : Int) > 10
    · simp (disch:=((try simp only [lZ]); omega)) only [aZ,aM,aG37,decide_eq_true h2,r_law37_rows]
      exact post_v ⟨rfl,_,rfl,by simp⟩
    · simp (disch:=((try simp only [lZ]); omega)) only [aZ,aM,aG37,decide_eq_false h2]
      refine ⟨k+1,⟨by omega,fun i hi=>(Nat.lt_succ_iff_lt_or_eq.1 hi).elim (hr i) fun h=>by rw [h]; omega⟩,by omega,?_⟩
      exact Cut.fg (by simp (disch:=first | omega | simp (disch:=omega) only [aG,aM,aG37]) only [fZ,aM,aG37,fgl_nil,fgl_cons,or_true,true_or])
  · have hke : k=r.length:=by omega
    simp (disch:=((try simp only [lZ]); omega)) only [aZ,aM,aG37,decide_eq_false (show ¬ (k : Int) < r.length by omega),r_law37_rows]
    refine post_v ⟨rfl,_,rfl,fun _=>⟨by omega,fun x hx=>?_⟩⟩
    obtain ⟨i,hi,rfl⟩:=get_mem [] hx
    exact hr i (by omega)
theorem rows_c {m : Mc} (r : A) (G : List Blk) (h : G=[]∧∃ b : Bool,r=.v (.bool b)∧(b=true→rwP m)) : G=[]∧(r.cl && r.bd 0)=true:=by
  obtain ⟨rfl,b,rfl,_⟩:=h; exact ⟨rfl,rfl⟩
structure Light (p : Pl) (L : List (List Og)) (fd : List Int) (gs : List Bt) : Prop where
  hm : p.ms.length≤30
  hb : p.bs.length≤60
  hL : L.length≤40
  hf : fd.length≤40
  hg : gs.length≤60
  hr : ∀ i,i < p.ms.length→rwP (p.ms.getD i [])
  ho : ∀ i,i < L.length→(L.getD i []).length≤10∧∀ k,k < (L.getD i []).length→rwP ((L.getD i []).getD k og0).r
def caseA (w v u a b : Bool) (p : Pl) (L : List (List Og)) (fd : List Int) (gs : List Bt) : A:=.agg [.v (.int .i64 p.mat),.fs w (mcs w p.ms),.fs v (bts p.bs),.v (.int .i64 p.fd),.fs u (ogL u L),.fs a (ints fd),.fs b (bts gs)]
theorem rw_step {m : List Mc} {k : Nat} (h : ∀ i,i < k→rwP (m.getD i [])) (hk : rwP (m.getD k [])) : ∀ i,i < k+1→rwP (m.getD i []) :=
  fun i hi=>(Nat.lt_succ_iff_lt_or_eq.1 hi).elim (h i) fun e=>e▸hk
set_option maxHeartbeats 4000000 in
theorem light37_vr {w v u a b : Bool} (p : Pl) (L : List (List Og)) (fd : List Int) (gs : List Bt) : VR P false n_law37_light [caseA w v u a b p L fd gs] [] (fun x G=>G=[]∧∃ y : Bool,x=.v (.bool y)∧(y=true→Light p L fd gs)):=by
  refine vr_law37_light (by simp) (.inr rfl) fun _ _=>?_
  unfold caseA
  by_cases c0 : (p.ms.length : Int) > 30
  · simp (disch:=((try simp only [lZ]); omega)) only [aZ,aM,aG37,s_law37_light,v_law37_light,decide_eq_true c0,r_law37_light]
    exact post_v ⟨rfl,_,rfl,by simp⟩
  by_cases c1 : (p.bs.length : Int) > 60
  · simp (disch:=((try simp only [lZ]); omega)) only [aZ,aM,aG37,s_law37_light,v_law37_light,decide_eq_false c0,decide_eq_true c1,r_law37_light]
    exact post_v ⟨rfl,_,rfl,by simp⟩
  by_cases c2 : (L.length : Int) > 40
  · simp (disch:=((try simp only [lZ]); omega)) only [aZ,aM,aG37,s_law37_light,v_law37_light,decide_eq_false c0,decide_eq_false c1,decide_eq_true c2,r_law37_light]
    exact post_v ⟨rfl,_,rfl,by simp⟩
  by_cases c3 : (fd.length : Int) > 40
  · simp (disch:=((try simp only [lZ]); omega)) only [aZ,aM,aG37,s_law37_light,v_law37_light,decide_eq_false c0,decide_eq_false c1,decide_eq_false c2,decide_eq_true c3,r_law37_light]
    exact post_v ⟨rfl,_,rfl,by simp⟩
  by_cases c4 : (gs.length : Int) > 60
  · simp (disch:=((try simp only [lZ]); omega)) only [aZ,aM,aG37,s_law37_light,v_law37_light,decide_eq_false c0,decide_eq_false c1,decide_eq_false c2,decide_eq_false c3,decide_eq_true c4,r_law37_light]
    exact post_v ⟨rfl,_,rfl,by simp⟩
  simp (disch:=((try simp only [lZ]); omega)) only [aZ,aM,aG37,s_law37_light,v_law37_light,decide_eq_false c0,decide_eq_false c1,decide_eq_false c2,decide_eq_false c3,decide_eq_false c4]
  refine AWP.loopP g_law37_light_0 (fun k : Nat=>k≤p.ms.length∧∀ i,i < k→rwP (p.ms.getD i [])) (fun k=>[(1,.v (.bool false)),(3,.v (.int .i64 k))]) (fun _=>[]) (fun k=>p.ms.length - k) 0 ⟨by omega,by omega⟩ ?_ ?_
  · exact Cut.fg (by simp (disch:=first | omega | simp (disch:=omega) only [aG,aM,aG37]) only [fZ,aM,aG37,fgl_nil,fgl_cons,or_true,true_or])
  rintro k ⟨hk,hr⟩
  by_cases hlt : k < p.ms.length
  · simp (disch:=((try simp only [lZ]); omega)) only [aZ,aM,aG37]
    refine (rows37b_vr _).useE (LdL.refl (by simp (disch:=first | omega | simp (disch:=omega) only [aG,aM,aG37]) only [fZ,aM,aG37])) rows_c ?_
    rintro _ ⟨-,y,rfl,hy⟩
    refine aret_of ?_
    cases y
    · simp (disch:=((try simp only [lZ]); omega)) only [aZ,aM,aG37,r_law37_light]
      exact post_v ⟨rfl,_,rfl,by simp⟩
    · simp (disch:=((try simp only [lZ]); omega)) only [aZ,aM,aG37]
      refine ⟨k+1,⟨by omega,rw_step hr (hy rfl)⟩,by omega,?_⟩
      exact Cut.fg (by simp (disch:=first | omega | simp (disch:=omega) only [aG,aM,aG37]) only [fZ,aM,aG37,fgl_nil,fgl_cons,or_true,true_or])
  have hke : k=p.ms.length:=by omega
  subst hke
  simp (disch:=((try simp only [lZ]); omega)) only [aZ,aM,aG37]
  refine AWP.loopP g_law37_light_1 (fun k : Nat=>k≤L.length∧∀ i,i < k→(L.getD i []).length≤10∧∀ k,k < (L.getD i []).length→rwP ((L.getD i []).getD k og0).r) (fun k=>[(1,.v (.bool false)),(4,.v (.int .i64 k))]) (fun _=>[]) (fun k=>L.length - k) 0 ⟨by omega,by omega⟩ ?_ ?_
  · exact Cut.fg (by simp (disch:=first | omega | simp (disch:=omega) only [aG,aM,aG37]) only [fZ,aM,aG37,fgl_nil,fgl_cons,or_true,true_or])
  rintro k ⟨hk,ho⟩
  by_cases hlt : k < L.length
  · by_cases c6 : ((L.getD k []).length : Int) > 10
    · simp (disch:=((try simp only [lZ]); omega)) only [aZ,aM,aG37,decide_eq_true c6,r_law37_light]
      exact post_v ⟨rfl,_,rfl,by simp⟩
    simp (disch:=((try simp only [lZ]); omega)) only [aZ,aM,aG37,decide_eq_false c6]
    refine AWP.loopP g_law37_light_2 (fun j : Nat=>j≤(L.getD k []).length∧∀ i,i < j→rwP ((L.getD k []).getD i og0).r) (fun j=>[(1,.v (.bool false)),(5,.v (.int .i64 j))]) (fun _=>[]) (fun j=>(L.getD k []).length - j) 0 ⟨by omega,by omega⟩ ?_ ?_
    · exact Cut.fg (by simp (disch:=first | omega | simp (disch:=omega) only [aG,aM,aG37]) only [fZ,aM,aG37,fgl_nil,fgl_cons,or_true,true_or])
    rintro j ⟨hj,hw⟩
    by_cases hjt : j < (L.getD k []).length
    · simp (disch:=((try simp only [lZ]); omega)) only [aZ,aM,aG37]
      refine (rows37b_vr _).useE (LdL.refl (by simp (disch:=first | omega | simp (disch:=omega) only [aG,aM,aG37]) only [fZ,aM,aG37])) rows_c ?_
      rintro _ ⟨-,y,rfl,hy⟩
      refine aret_of ?_
      cases y
      · simp (disch:=((try simp only [lZ]); omega)) only [aZ,aM,aG37,r_law37_light]
        exact post_v ⟨rfl,_,rfl,by simp⟩
      · simp (disch:=((try simp only [lZ]); omega)) only [aZ,aM,aG37]
        refine ⟨j+1,⟨by omega,fun i hi=>(Nat.lt_succ_iff_lt_or_eq.1 hi).elim (hw i) fun e=>e▸hy rfl⟩,by omega,?_⟩
        exact Cut.fg (by simp (disch:=first | omega | simp (disch:=omega) only [aG,aM,aG37]) only [fZ,aM,aG37,fgl_nil,fgl_cons,or_true,true_or])
    have hje : j=(L.getD k []).length:=by omega
    simp (disch:=((try simp only [lZ]); omega)) only [aZ,aM,aG37,decide_eq_false (show ¬ (j : Int) < (L.getD k []).length by omega)]
    refine ⟨k+1,⟨by omega,fun i hi=>(Nat.lt_succ_iff_lt_or_eq.1 hi).elim (ho i) fun e=>by rw [e]; exact ⟨by omega,fun q hq=>hw q (by omega)⟩⟩,by omega,?_⟩
    exact Cut.fg (by simp (disch:=first | omega | simp (disch:=omega) only [aG,aM,aG37]) only [fZ,aM,aG37,fgl_nil,fgl_cons,or_true,true_or])
  have hke : k=L.length:=by omega
  subst hke
  have hL : Light p L fd gs:=⟨by omega,by omega,by omega,by omega,by omega,hr,ho⟩
  simp (disch:=((try simp only [lZ]); omega)) only [aZ,aM,aG37]
  refine AWP.loopP g_law37_light_3 (fun s : Nat×Nat=>s.1≤p.bs.length∧16≤s.2∧s.2≤16+16*s.1) (fun s=>[(6,.v (.int .i64 s.2)),(8,.v (.int .i64 s.1))]) (fun _=>[]) (fun s=>p.bs.length - s.1) (0,16) ⟨by simp only; omega,by simp only; omega,by simp only; omega⟩ ?_ ?_
  · exact Cut.fg (by simp (disch:=first | omega | simp (disch:=omega) only [aG,aM,aG37]) only [fZ,aM,aG37,fgl_nil,fgl_cons,or_true,true_or])
  rintro ⟨k,y⟩ ⟨hk,hy1,hy2⟩
  simp only at hk hy1 hy2
  by_cases hlt : k < p.bs.length
  · obtain ⟨z,hz,hz2⟩ : ∃ z : Nat,max 0 (min (p.bs.getD k b0).ln 16)=(z : Int)∧z≤16:=⟨(max 0 (min (p.bs.getD k b0).ln 16)).toNat,by omega,by omega⟩
    simp (disch:=((try simp only [lZ]); omega)) only [aZ,aM,aG37,hz]
    refine ⟨(k+1,y+z),⟨by simp only; omega,by simp only; omega,by simp only; omega⟩,by simp only; omega,?_⟩
    exact Cut.fg (by simp (disch:=first | omega | simp (disch:=omega) only [aG,aM,aG37]) only [fZ,aM,aG37,fgl_nil,fgl_cons,or_true,true_or])
  have hke : k=p.bs.length:=by omega
  subst hke
  simp (disch:=((try simp only [lZ]); omega)) only [aZ,aM,aG37]
  refine AWP.loopP g_law37_light_4 (fun s : Nat×Nat=>s.1≤fd.length∧s.2≤1073741824*s.1) (fun s=>[(1,.v (.bool false)),(7,.v (.int .i64 s.2)),(9,.v (.int .i64 s.1))]) (fun _=>[]) (fun s=>fd.length - s.1) (0,0) ⟨by simp only; omega,by simp only; omega⟩ ?_ ?_
  · exact Cut.fg (by simp (disch:=first | omega | simp (disch:=omega) only [aG,aM,aG37]) only [fZ,aM,aG37,fgl_nil,fgl_cons,or_true,true_or])
  rintro ⟨k,g⟩ ⟨hk,hg⟩
  simp only at hk hg
  by_cases hlt : k < fd.length
  · by_cases d1 : fd.getD k 0 < 0
    · simp (disch:=((try simp only [lZ]); omega)) only [aZ,aM,aG37,decide_eq_true d1,r_law37_light]
      exact post_v ⟨rfl,_,rfl,fun _=>hL⟩
    by_cases d2 : fd.getD k 0 > 1073741824
    · simp (disch:=((try simp only [lZ]); omega)) only [aZ,aM,aG37,decide_eq_false d1,decide_eq_true d2,r_law37_light]
      exact post_v ⟨rfl,_,rfl,fun _=>hL⟩
    obtain ⟨z,hz⟩ : ∃ z : Nat,fd.getD k 0=(z : Int):=⟨(fd.getD k 0).toNat,by omega⟩
    rw [hz] at d1 d2
    simp (disch:=((try simp only [lZ]); omega)) only [aZ,aM,aG37,hz,decide_eq_false d1,decide_eq_false d2]
    refine ⟨(k+1,g+z),⟨by simp only; omega,by simp only; omega⟩,by simp only; omega,?_⟩
    exact Cut.fg (by simp (disch:=first | omega | simp (disch:=omega) only [aG,aM,aG37]) only [fZ,aM,aG37,fgl_nil,fgl_cons,or_true,true_or])
  have hke : k=fd.length:=by omega
  subst hke
  simp (disch:=((try simp only [lZ]); omega)) only [aZ,aM,aG37]
  refine (refChoices_vr L (by omega) fun l hl=>?_).same (by simp (disch:=first | omega | simp (disch:=omega) only [aG,aM,aG37]) only [fZ,aM,aG37]) rfl (aret_of ?_)
  · obtain ⟨i,hi,rfl⟩:=get_mem [] hl
    exact Nat.le_trans (ho i hi).1 (by omega)
  obtain ⟨n,hn,hn2⟩ : ∃ n : Nat,max 1 (min (chN L) 256)=(n : Int)∧n≤256:=⟨(max 1 (min (chN L) 256)).toNat,by omega,by omega⟩
  obtain ⟨q,hq,hq2⟩ : ∃ q : Nat,(g : Int)*(y : Int)=(q : Int)∧q≤42949672960*976:=⟨g*y,by rw [Int.natCast_mul],Nat.mul_le_mul (by omega) (by omega)⟩
  obtain ⟨q',hq',hq2'⟩ : ∃ q' : Nat,(q : Int)*(n : Int)=(q' : Int)∧q'≤42949672960*976*256:=⟨q*n,by rw [Int.natCast_mul],Nat.mul_le_mul hq2 hn2⟩
  simp (disch:=((try simp only [lZ]); omega)) only [aZ,aM,aG37,hq,hn,hq',r_law37_light]
  exact post_v ⟨rfl,_,rfl,fun _=>hL⟩


end Go.Proofs.Ytcppaddgclkekaa
namespace Go.Proofs.Ytcppaddgclkekaa
open Go Go.Lft
set_option linter.unusedSimpArgs false
set_option linter.unusedVariables false
def tyOpts : Ty:=(.sl (.sl (.st [(.sl (.sl (.int .i64))),(.int .i64)])))
theorem og_of {ce : List A} (h : (Ty.st [.sl (.sl (.int .i64)),.int .i64]).Sh true ce) : ∃ o : Og,(Ty.st [.sl (.sl (.int .i64)),.int .i64]).pk ce=ogA true o∧True:=by
  simp only [Ty.Sh,Ty.ShL] at h
  obtain ⟨a,_,rfl,h,_,_,rfl,⟨c,rfl,hc⟩,rfl⟩:=h
  obtain ⟨m,h1,h2,h3⟩:=rows_of (w:=true) (ce:=a) (by simp only [Ty.Sh]; exact h)
  obtain ⟨L,rfl,_⟩:=h
  refine ⟨⟨m,c⟩,?_,trivial⟩
  rw [show (Ty.sl (.sl (.int .i64))).pk [A.fs true (L.map (Ty.sl (.int .i64)).pk)]=.fs true (L.map (Ty.sl (.int .i64)).pk) from rfl] at h1
  show A.agg _=A.agg _
  rw [h1]; rfl
theorem ogl_of {ce : List A} (h : (Ty.sl (.st [.sl (.sl (.int .i64)),.int .i64])).Sh true ce) : ∃ l : List Og,(Ty.sl (.st [.sl (.sl (.int .i64)),.int .i64])).pk ce=A.fs true (ogs true l)∧True:=by
  simp only [Ty.Sh] at h
  obtain ⟨L,rfl,hn,h⟩:=h
  obtain ⟨l,h1,h2,h3⟩:=list_of (w:=true) _ (ogA true) _ (fun ce hce=>og_of hce) L (fun ce hce=>by simp only [Ty.Sh]; exact h ce hce)
  exact ⟨l,by show A.fs true _=_; rw [h1]; rfl,trivial⟩
theorem opts_of {es : List A} (h : tyOpts.Sh true es) : ∃ L : List (List Og),tyOpts.pk es=.fs true (ogL true L):=by
  unfold tyOpts at h ⊢
  simp only [Ty.Sh] at h
  obtain ⟨L,rfl,hn,h⟩:=h
  obtain ⟨l,h1,h2,h3⟩:=list_of (w:=true) _ (fun l=>A.fs true (ogs true l)) _ (fun ce hce=>ogl_of hce) L (fun ce hce=>by simp only [Ty.Sh]; exact h ce hce)
  exact ⟨l,by show A.fs true _=_; rw [h1]; rfl⟩
end Go.Proofs.Ytcppaddgclkekaa
namespace Go.Proofs.Ytcppaddgclkekaa
open Go Go.Lft
set_option linter.unusedSimpArgs false
set_option linter.unusedVariables false
attribute [local congr] ob_congr bw_congr ib_congr ck_congr iwA_congr itA_congr aw_congr awp_congr sqA_congr bkA_congr vr_congr gd_congr
theorem light_c37 {p : Pl} {L : List (List Og)} {fd : List Int} {gs : List Bt} (r : A) (G : List Blk) (h : G=[]∧∃ y : Bool,r=.v (.bool y)∧(y=true→Light p L fd gs)) : G=[]∧(r.cl && r.bd 0)=true:=by
  obtain ⟨rfl,b,rfl,_⟩:=h; exact ⟨rfl,rfl⟩
def lex (a b : List Int) : Prop:=∃ i,i < a.length∧(∀ j,j < i→a.getD j 0=b.getD j 0)∧a.getD i 0 < b.getD i 0
theorem lex_lt {x y : Int} (a b : List Int) (h : x < y) : lex (x :: a) (y :: b):=⟨0,by simp,fun j hj=>absurd hj (by omega),by simpa using h⟩
theorem lex_cons (x : Int) {a b : List Int} (h : lex a b) : lex (x :: a) (x :: b):=by
  obtain ⟨i,h0,h1,h2⟩:=h
  refine ⟨i+1,by simpa using h0,fun j hj=>?_,by simpa using h2⟩
  cases j with
  | zero=>rfl
  | succ j=>simpa using h1 j (by omega)
theorem blkP_mem {T : List (List Int)} : ∀ (n : Nat) (y : Int) {q : List Int},q∈blkP T y n→∃ z t,q=z :: t∧y≤z∧z < y+n∧t∈T
  | 0,_,_,h=>by simp [blkP] at h
  | n+1,y,q,h=>by
    rcases List.mem_append.1 (show q∈T.map (y :: ·)++blkP T (y+1) n from h) with h | h
    · obtain ⟨t,ht,rfl⟩:=List.mem_map.1 h
      exact ⟨y,t,rfl,Int.le_refl _,by omega,ht⟩
    · obtain ⟨z,t,h1,h2,h3,h4⟩:=blkP_mem n (y+1) h
      exact ⟨z,t,h1,by omega,by omega,h4⟩
theorem blkP_in {T : List (List Int)} {t : List Int} (ht : t∈T) : ∀ (n : Nat) (y z : Int),y≤z→z < y+n→(z :: t)∈blkP T y n
  | 0,y,z,h1,h2=>by omega
  | n+1,y,z,h1,h2=>List.mem_append.2 (by
    by_cases e : z=y
    · exact .inl (List.mem_map.2 ⟨t,ht,by rw [e]⟩)
    · exact .inr (blkP_in ht n (y+1) z (by omega) (by omega)))
theorem blkP_pw {T : List (List Int)} (h : T.Pairwise lex) : ∀ (n : Nat) (y : Int),(blkP T y n).Pairwise lex
  | 0,_=>List.Pairwise.nil
  | n+1,y=>by
    show (T.map (y :: ·)++blkP T (y+1) n).Pairwise lex
    refine List.pairwise_append.2 ⟨List.pairwise_map.2 (h.imp fun h=>lex_cons y h),blkP_pw h n (y+1),fun a ha b hb=>?_⟩
    obtain ⟨t,_,rfl⟩:=List.mem_map.1 ha
    obtain ⟨z,u,rfl,h1,_⟩:=blkP_mem n (y+1) hb
    exact lex_lt _ _ (by omega)
theorem allP_pw : ∀ (L : List (List Og)),(allP L).Pairwise lex
  | []=>by simp [allP]
  | l :: L=>blkP_pw (allP_pw L) _ _
theorem allP_in : ∀ (L : List (List Og)) (pk : List Int),PkOk L pk→pk∈allP L
  | [],[],_=>by simp [allP]
  | [],_ :: _,h=>absurd h.1 (by simp)
  | _ :: _,[],h=>absurd h.1 (by simp)
  | l :: L,x :: pk,h=>by
    have h0:=h.2 0 (by simp)
    simp only [List.getD_cons_zero] at h0
    exact blkP_in (allP_in L pk ⟨by simpa using h.1,fun m hm=>by have:=h.2 (m+1) (by simpa using hm); simpa using this⟩) _ _ _ (by omega) (by omega)
theorem allP_ok : ∀ (L : List (List Og)) (pk : List Int),pk∈allP L→PkOk L pk
  | [],pk,h=>by
    rw [List.mem_singleton.1 (show pk∈[([] : List Int)] from h)]
    exact ⟨rfl,fun m hm=>absurd hm (by simp)⟩
  | l :: L,pk,h=>by
    obtain ⟨z,t,rfl,h1,h2,h3⟩:=blkP_mem _ _ (show pk∈blkP (allP L) 0 (max 1 l.length) from h)
    obtain ⟨q1,q2⟩:=allP_ok L t h3
    refine ⟨by simp [q1],fun m hm=>?_⟩
    cases m with
    | zero=>simp only [List.getD_cons_zero]; omega
    | succ m=>have:=q2 m (by simpa using hm); simpa using this
def BestIn (f : List Int→Option Int) (l : List (List Int)) : Option (List Int×Int)→Prop
  | none=>∀ x∈l,f x=none
  | some q=>∃ pre post,l=pre++q.1 :: post∧f q.1=some q.2∧(∀ x∈pre,∀ w,f x=some w→w < q.2)∧∀ x∈post,∀ w,f x=some w→w≤q.2
theorem bst_fold (p : Pl) (L : List (List Og)) (xs : List Int) (gl : List Bt) : ∀ (l pre : List (List Int)) (b : Option (List Int×Int)),BestIn (val37 p L xs gl) pre b→BestIn (val37 p L xs gl) (pre++l) (l.foldl (stepB p L xs gl) b)
  | [],pre,b,h=>by rw [List.append_nil]; exact h
  | a :: l,pre,b,h=>by
    rw [show pre++a :: l=(pre++[a])++l by simp]
    refine bst_fold p L xs gl l (pre++[a]) _ ?_
    unfold stepB
    generalize val37 p L xs gl=f at *
    cases hv : f a with
    | none =>
      cases b with
      | none =>
        intro x hx
        rcases List.mem_append.1 hx with k | k
        · exact h x k
        · rw [List.mem_singleton.1 k]; exact hv
      | some q =>
        obtain ⟨s,t,e,h1,h2,h3⟩:=h
        refine ⟨s,t++[a],by rw [e]; simp,h1,h2,fun x hx w hw=>?_⟩
        rcases List.mem_append.1 hx with k | k
        · exact h3 x k w hw
        · rw [List.mem_singleton.1 k,hv] at hw; cases hw
    | some v =>
      cases b with
      | none=>exact ⟨pre,[],rfl,hv,fun x hx w hw=>by rw [h x hx] at hw; (cases hw),fun x hx=>by simp at hx⟩
      | some q =>
        obtain ⟨s,t,e,h1,h2,h3⟩:=h
        simp only
        split
        · rename_i hgt
          refine ⟨pre,[],rfl,hv,fun x hx w hw=>?_,fun x hx=>by simp at hx⟩
          rw [e] at hx
          simp only
          rcases List.mem_append.1 hx with k | k
          · have:=h2 x k w hw; omega
          rcases List.mem_cons.1 k with k | k
          · rw [k,h1] at hw
            have:=Option.some.inj hw; omega
          · have:=h3 x k w hw; omega
        · rename_i hgt
          refine ⟨s,t++[a],by rw [e]; simp,h1,h2,fun x hx w hw=>?_⟩
          rcases List.mem_append.1 hx with k | k
          · exact h3 x k w hw
          · rw [List.mem_singleton.1 k,hv] at hw
            have:=Option.some.inj hw; omega
theorem bst_in (p : Pl) (L : List (List Og)) (xs : List Int) (gl : List Bt) (l : List (List Int)) : BestIn (val37 p L xs gl) l (bstL p L xs gl l):=by
  have:=bst_fold p L xs gl l [] none (fun x hx=>by simp at hx)
  rwa [List.nil_append] at this
theorem want_iff {p : Pl} {l : List Bt} : wantE p l=0↔l.length≤24∧(∀ i,i < l.length→¬ badG p (l.getD i b0))∧¬ dupG l:=by
  constructor
  · intro h
    have hl : ¬ 24 < l.length:=fun k=>by unfold wantE at h; rw [if_pos k] at h; cases h
    have hn : ¬ 0≤idxE (badG p) l:=fun k=>by
      unfold wantE at h
      rw [if_neg hl,if_pos k] at h
      exact absurd h (idxE_at b0 k)
    refine ⟨by omega,fun i hi=>idxE_neg (by omega) _ (mem_get b0 hi),fun hd=>?_⟩
    unfold wantE at h
    rw [if_neg hl,if_neg hn,if_pos hd] at h
    cases h
  · rintro ⟨h1,h2,h3⟩
    rw [wantE_good (by omega) h2,if_neg h3]
theorem glE_pick {p : Pl} {L : List (List Og)} {pk : List Int} (h : possE p L=0) (hp : PkOk L pk) (g : Bt) : glE (pickP p L pk) g=glE p g:=by
  have e1 : (pickP p L pk).ms.length=p.ms.length:=pickL_len p L pk
  have e2 : (pickP p L pk).mt=p.mt:=rfl
  unfold glE
  rw [e1,e2]
  by_cases hr : g.fr < 0∨(p.ms.length : Int)≤g.fr
  · rw [if_pos hr,if_pos hr]
  · have hm : g.fr.toNat < p.ms.length:=by omega
    have e3 : outsN ((pickP p L pk).ms.getD g.fr.toNat [])=outsN (p.ms.getD g.fr.toNat []):=by
      rw [show (pickP p L pk).ms=pickL p L pk from rfl,pickL_get _ _ _ _ hm]
      obtain ⟨q1,q2⟩:=poss_ok h
      have q3:=hp.2 g.fr.toNat (by omega)
      unfold pickM
      split
      · rfl
      · exact ((q2 _ hm).2 _ (mem_get og0 (by omega))).2.1
    rw [e3]
theorem want_pick {p : Pl} {L : List (List Og)} {pk : List Int} (h : possE p L=0) (hp : PkOk L pk) (gl : List Bt) : wantE (pickP p L pk) gl=0↔wantE p gl=0:=by
  rw [want_iff,want_iff]
  unfold badG
  simp only [glE_pick h hp]
theorem appl_of {p : Pl} {L : List (List Og)} {pk : List Int} (h1 : pcheck p=0) (h2 : possE p L=0) (h : PkOk L pk) : applR p L pk=(pickP p L pk,0):=by
  have hl:=(poss_ok h2).1
  unfold applR
  rw [if_neg (fun k=>k h1),if_neg (fun k=>k h2),if_neg (fun k=>k (h.1.trans hl)),if_neg]
  have:=idxE_none (p:=pkB L pk) 0 (l:=List.range pk.length) fun i hi=>by
    have hi' : i < pk.length:=by simpa using hi
    rw [range_getD hi']
    have:=h.2 i (by have:=h.1; omega)
    unfold pkB; omega
  omega
theorem appl_ok {p : Pl} {L : List (List Og)} {pk : List Int} (h : (applR p L pk).2=0) : pcheck p=0∧possE p L=0∧PkOk L pk∧applR p L pk=(pickP p L pk,0):=by
  unfold applR at h ⊢
  by_cases h1 : pcheck p=0
  case neg=>rw [if_pos h1] at h; exact absurd h h1
  by_cases h2 : possE p L=0
  case neg=>rw [if_neg (fun k=>k h1),if_pos h2] at h; exact absurd h h2
  by_cases h3 : pk.length=p.ms.length
  case neg=>rw [if_neg (fun k=>k h1),if_neg (fun k=>k h2),if_pos h3] at h; cases h
  by_cases h4 : 0≤idxE (pkB L pk) (List.range pk.length)
  · rw [if_neg (fun k=>k h1),if_neg (fun k=>k h2),if_neg (fun k=>k h3),if_pos h4] at h; cases h
  rw [if_neg (fun k=>k h1),if_neg (fun k=>k h2),if_neg (fun k=>k h3),if_neg h4]
  have hl:=(poss_ok h2).1
  exact ⟨h1,h2,pkB_ok (by omega) fun m hm=>idxE_neg (p:=pkB L pk) (l:=List.range pk.length) (by omega) m (List.mem_range.2 (by omega)),rfl⟩
theorem val37_some {p : Pl} {L : List (List Og)} {xs : List Int} {gl : List Bt} {pk : List Int} (h2 : possE p L=0) (hp : PkOk L pk) (hw : wantE p gl=0) {v : Int} (hv : val37 p L xs gl pk=some v) : valR (pickP p L pk) xs gl=(v+spcS L pk,0):=by
  unfold val37 at hv
  by_cases hy : (yldR (pickP p L pk) xs).2=0
  · rw [if_pos hy] at hv
    have:=Option.some.inj hv
    unfold valR
    rw [if_neg (fun k=>k hy),if_neg (fun k=>k ((want_pick h2 hp gl).2 hw))]
    congr 1; omega
  · rw [if_neg hy] at hv; cases hv
theorem best_val {p : Pl} {L : List (List Og)} {xs : List Int} {gl : List Bt} (h : (bestR p L xs gl).2=0) : ∃ pk n,bestR p L xs gl=((pk,n - spcS L pk),0)∧possE p L=0∧PkOk L pk∧applR p L pk=(pickP p L pk,0)∧valR (pickP p L pk) xs gl=(n,0):=by
  unfold bestR at h ⊢
  by_cases h1 : pcheck p=0
  case neg=>rw [if_pos h1] at h; exact absurd h h1
  by_cases h2 : possE p L=0
  case neg=>rw [if_neg (fun k=>k h1),if_pos h2] at h; exact absurd h h2
  by_cases h3 : 256 < prd L
  · rw [if_neg (fun k=>k h1),if_neg (fun k=>k h2),if_pos h3] at h; cases h
  by_cases h4 : fedE p xs=0
  case neg=>rw [if_neg (fun k=>k h1),if_neg (fun k=>k h2),if_neg h3,if_pos h4] at h; exact absurd h h4
  by_cases h5 : wantE p gl=0
  case neg=>rw [if_neg (fun k=>k h1),if_neg (fun k=>k h2),if_neg h3,if_neg (fun k=>k h4),if_pos h5] at h; exact absurd h h5
  rw [if_neg (fun k=>k h1),if_neg (fun k=>k h2),if_neg h3,if_neg (fun k=>k h4),if_neg (fun k=>k h5)] at h ⊢
  have hb:=bst_in p L xs gl (allP L)
  cases hbo : bstL p L xs gl (allP L) with
  | none=>rw [hbo] at h; cases h
  | some q =>
    rw [hbo] at hb
    obtain ⟨pre,post,e,hv,_,_⟩:=hb
    have hp : PkOk L q.1:=allP_ok L q.1 (by rw [e]; simp)
    refine ⟨q.1,q.2+spcS L q.1,?_,h2,hp,appl_of h1 h2 hp,val37_some h2 hp h5 hv⟩
    show (q,(0 : Int))=_
    rw [Int.add_sub_cancel]
theorem best_all {p : Pl} {L : List (List Og)} {xs : List Int} {gl : List Bt} {pk : List Int} {n : Int} (h : (applR p L pk).2 = 0) (h3 : ¬ 256 < prd L) (hv : valR (pickP p L pk) xs gl = (n, 0)) :
    ∃ q v,bestR p L xs gl=((q,v),0)∧q.length=pk.length∧n - spcS L pk≤v∧(n - spcS L pk=v→q=pk∨lex q pk):=by
  obtain ⟨h1,h2,hp,_⟩:=appl_ok h
  have hy : (yldR (pickP p L pk) xs).2=0:=by
    apply Classical.byContradiction; intro hy
    unfold valR at hv; rw [if_pos hy] at hv; exact hy (congrArg Prod.snd hv)
  have hw : wantE (pickP p L pk) gl=0:=by
    apply Classical.byContradiction; intro hw
    unfold valR at hv; rw [if_neg (fun k=>k hy),if_pos hw] at hv; exact hw (congrArg Prod.snd hv)
  have hn : wrtS (yldL (pickP p L pk) xs) gl=n:=by
    unfold valR at hv; rw [if_neg (fun k=>k hy),if_neg (fun k=>k hw)] at hv; exact congrArg Prod.fst hv
  have hval : val37 p L xs gl pk=some (n - spcS L pk):=by unfold val37; rw [if_pos hy,hn]
  have h4 : fedE p xs=0:=(yldR_ok hy).2.1
  have h5 : wantE p gl=0:=(want_pick h2 hp gl).1 hw
  unfold bestR
  rw [if_neg (fun k=>k h1),if_neg (fun k=>k h2),if_neg h3,if_neg (fun k=>k h4),if_neg (fun k=>k h5)]
  have hb:=bst_in p L xs gl (allP L)
  have hin:=allP_in L pk hp
  cases hbo : bstL p L xs gl (allP L) with
  | none =>
    rw [hbo] at hb
    have:=hb pk hin
    rw [hval] at this; cases this
  | some q =>
    rw [hbo] at hb
    obtain ⟨pre,post,e,hq,g1,g2⟩:=hb
    have hpq : PkOk L q.1:=allP_ok L q.1 (by rw [e]; simp)
    have hpw:=allP_pw L
    rw [e] at hin hpw
    refine ⟨q.1,q.2,rfl,by rw [hpq.1,hp.1],?_,fun heq=>?_⟩
    · rcases List.mem_append.1 hin with k | k
      · have:=g1 pk k _ hval; omega
      rcases List.mem_cons.1 k with k | k
      · rw [← k,hval] at hq
        have:=Option.some.inj hq; omega
      · exact g2 pk k _ hval
    · rcases List.mem_append.1 hin with k | k
      · have:=g1 pk k _ hval; omega
      rcases List.mem_cons.1 k with k | k
      · exact .inl k.symm
      · exact .inr ((List.pairwise_cons.1 (List.pairwise_append.1 hpw).2.1).1 pk k)
end Go.Proofs.Ytcppaddgclkekaa
namespace Go.Proofs.Ytcppaddgclkekaa
open Go Go.Lft
set_option linter.unusedSimpArgs false
set_option linter.unusedVariables false
def tyGoals : Ty:=(.sl (.st [(.int .i64),(.int .i64),(.int .i64),(.int .i64)]))
theorem goals_of {es : List A} (h : tyGoals.Sh true es) : ∃ l : List Bt,tyGoals.pk es=.fs true (bts l):=by
  unfold tyGoals at h ⊢
  simp only [Ty.Sh] at h
  obtain ⟨M,rfl,hn,h⟩:=h
  obtain ⟨bs,h2,_⟩:=list_of (w:=true) (.st [.int .i64,.int .i64,.int .i64,.int .i64]) btA (fun _=>True) (fun ce hce=>bt_of hce) M (fun ce hce=>by simp only [Ty.Sh,Ty.ShL]; exact h ce hce)
  exact ⟨bs,by show A.fs true _=_; rw [h2]; rfl⟩
def tyCase : Ty:=(.st [(.st [(.int .i64),(.sl (.st [(.sl (.sl (.int .i64)))])),(.sl (.st [(.int .i64),(.int .i64),(.int .i64),(.int .i64)])),(.int .i64)]),(.sl (.sl (.st [(.sl (.sl (.int .i64))),(.int .i64)]))),(.sl (.int .i64)),(.sl (.st [(.int .i64),(.int .i64),(.int .i64),(.int .i64)]))])
theorem tyCase_is : tyCase.Is Try.prog 32:=by
  unfold tyCase
  simp only [Ty.Is]
  refine ⟨_,Try.underlying32,by kernel_rfl,?_⟩
  simp only [Ty.IsL,Ty.Is]
  refine ⟨by first | rfl | trivial,by kernel_rfl,?_,?_⟩
  ·
    refine ⟨_,Try.underlying25,by kernel_rfl,?_⟩
    simp only [Ty.IsL,Ty.Is]
    refine ⟨by first | rfl | trivial,by kernel_rfl,?_,?_⟩
    ·
      exact Try.underlying3
    refine ⟨by first | rfl | trivial,by kernel_rfl,?_,?_⟩
    ·
      refine ⟨44,Try.underlying22,by kernel_rfl,by decide,?_⟩
      refine ⟨_,Try.underlying44,by kernel_rfl,?_⟩
      simp only [Ty.IsL,Ty.Is]
      refine ⟨by first | rfl | trivial,by kernel_rfl,?_,?_⟩
      ·
        refine ⟨27,Try.underlying42,by kernel_rfl,by decide,?_⟩
        refine ⟨3,Try.underlying27,by kernel_rfl,by decide,?_⟩
        exact Try.underlying3
      trivial
    refine ⟨by first | rfl | trivial,by kernel_rfl,?_,?_⟩
    ·
      refine ⟨62,Try.underlying23,by kernel_rfl,by decide,?_⟩
      refine ⟨_,Try.underlying62,by kernel_rfl,?_⟩
      simp only [Ty.IsL,Ty.Is]
      refine ⟨by first | rfl | trivial,by kernel_rfl,?_,?_⟩
      ·
        exact Try.underlying3
      refine ⟨by first | rfl | trivial,by kernel_rfl,?_,?_⟩
      ·
        exact Try.underlying3
      refine ⟨by first | rfl | trivial,by kernel_rfl,?_,?_⟩
      ·
        exact Try.underlying3
      refine ⟨by first | rfl | trivial,by kernel_rfl,?_,?_⟩
      ·
        exact Try.underlying3
      trivial
    refine ⟨by first | rfl | trivial,by kernel_rfl,?_,?_⟩
    ·
      exact Try.underlying3
    trivial
  refine ⟨by first | rfl | trivial,by kernel_rfl,?_,?_⟩
  ·
    refine ⟨58,Try.underlying26,by kernel_rfl,by decide,?_⟩
    refine ⟨60,Try.underlying58,by kernel_rfl,by decide,?_⟩
    refine ⟨_,Try.underlying60,by kernel_rfl,?_⟩
    simp only [Ty.IsL,Ty.Is]
    refine ⟨by first | rfl | trivial,by kernel_rfl,?_,?_⟩
    ·
      refine ⟨27,Try.underlying42,by kernel_rfl,by decide,?_⟩
      refine ⟨3,Try.underlying27,by kernel_rfl,by decide,?_⟩
      exact Try.underlying3
    refine ⟨by first | rfl | trivial,by kernel_rfl,?_,?_⟩
    ·
      exact Try.underlying3
    trivial
  refine ⟨by first | rfl | trivial,by kernel_rfl,?_,?_⟩
  ·
    refine ⟨3,Try.underlying29,by kernel_rfl,by decide,?_⟩
    exact Try.underlying3
  refine ⟨by first | rfl | trivial,by kernel_rfl,?_,?_⟩
  ·
    refine ⟨65,Try.underlying30,by kernel_rfl,by decide,?_⟩
    refine ⟨_,Try.underlying65,by kernel_rfl,?_⟩
    simp only [Ty.IsL,Ty.Is]
    refine ⟨by first | rfl | trivial,by kernel_rfl,?_,?_⟩
    ·
      exact Try.underlying3
    refine ⟨by first | rfl | trivial,by kernel_rfl,?_,?_⟩
    ·
      exact Try.underlying3
    refine ⟨by first | rfl | trivial,by kernel_rfl,?_,?_⟩
    ·
      exact Try.underlying3
    refine ⟨by first | rfl | trivial,by kernel_rfl,?_,?_⟩
    ·
      exact Try.underlying3
    trivial
  trivial
theorem case_of {cl : List A} (h : tyCase.Sh true cl) : ∃ p L xs gl,tyCase.pk cl=caseA true true true true true p L xs gl:=by
  have h1 : (Ty.st [tyPlant,tyOpts,tyMix,tyGoals]).Sh true cl:=h
  rw [Ty.Sh] at h1
  simp only [Ty.ShL] at h1
  obtain ⟨a,_,rfl,ha,b,_,rfl,hb,c,_,rfl,hc,d,_,rfl,hd,rfl⟩:=h1
  obtain ⟨p,e1⟩:=plant_of ha
  obtain ⟨L,e2⟩:=opts_of hb
  obtain ⟨xs,e3,_,_⟩:=mix_of hc
  obtain ⟨gl,e4⟩:=goals_of hd
  have f2:=Ty.pk_cells tyOpts hb
  have f3:=Ty.pk_cells tyMix hc
  have f4:=Ty.pk_cells tyGoals hd
  rw [e2] at f2
  rw [e3] at f3
  rw [e4] at f4
  have g1 : a=plC true true p:=A.agg.inj e1
  have g2 : [A.fs true (ogL true L)]=b:=Option.some.inj f2
  have g3 : [A.fs true (ints xs)]=c:=Option.some.inj f3
  have g4 : [A.fs true (bts gl)]=d:=Option.some.inj f4
  refine ⟨p,L,xs,gl,?_⟩
  show A.agg _=A.agg _
  rw [g1,← g2,← g3,← g4]
  rfl
end Go.Proofs.Ytcppaddgclkekaa
namespace Go.Proofs.Ytcppaddgclkekaa
open Go Go.Lft
set_option linter.unusedSimpArgs false
set_option linter.unusedVariables false
attribute [local congr] ob_congr bw_congr ib_congr ck_congr iwA_congr itA_congr aw_congr awp_congr sqA_congr bkA_congr vr_congr gd_congr
theorem refCost_vr {u u' : Bool} (L : List (List Og)) (pk : List Int) (hl : L.length≤1000) (hc : CostOk L) (hp : PkOk L pk) : VR P false n_ref37_Cost [.fs u (ogL u L),.fs u' (ints pk)] [] (isR (.v (.int .i64 (spcS L pk)))):=by
  refine vr_ref37_Cost (by simp) (.inr rfl) fun _ _=>?_
  have hL:=spcL_len L pk
  have hbd : ∀ k,k≤L.length→0*(k : Int)≤sumT (spcL L pk) k∧sumT (spcL L pk) k≤1000000000000*k:=fun k hk=>sumT_bd (spcL L pk) 0 1000000000000 k (by omega) fun i hi=>by
    rw [spcL_get _ _ _ (by omega)]
    exact spc_bd hc hp (by omega)
  have hsu:=fun k hk=>sumT_succ (spcL L pk) k hk
  have hall : sumT (spcL L pk) L.length=spcS L pk:=by rw [← hL]; exact sumT_all _
  obtain ⟨p1,p2⟩:=hp
  simp (disch:=((try simp only [lZ]); omega)) only [aZ,aM,aG37,s_ref37_Cost,v_ref37_Cost]
  refine AWP.loopP g_ref37_Cost_0 (fun k : Nat=>k≤L.length) (fun k=>[(3,.v (.int .i64 (sumT (spcL L pk) k))),(4,.v (.int .i64 k))]) (fun _=>[]) (fun k=>L.length - k) 0 (by omega) ?_ ?_
  · rw [sumT_zero]
    exact Cut.fg (by simp (disch:=first | omega | simp (disch:=omega) only [aG,aM,aG37]) only [fZ,aM,aG37,fgl_nil,fgl_cons,or_true,true_or])
  rintro k hk
  by_cases hkt : k < L.length
  · have hs:=hsu k (by omega)
    rw [spcL_get _ _ _ hkt] at hs
    have b1:=hbd k hk
    have b2:=spc_bd hc ⟨p1,p2⟩ hkt
    have q2:=p2 k hkt
    unfold spc at hs b2
    generalize hlk : L.getD k []=l at *
    generalize hpk : pk.getD k 0=x at *
    by_cases h0 : l.length=0
    · rw [if_pos h0,Int.add_zero] at hs
      simp (disch:=((try simp only [lZ]); omega)) only [aZ,aM,aG37,hlk,hpk,decide_eq_true (show x≥0 by omega),decide_eq_false (show ¬ x < (l.length : Int) by omega)]
      refine ⟨k+1,by omega,by omega,?_⟩
      rw [hs]
      exact Cut.fg (by simp (disch:=first | omega | simp (disch:=omega) only [aG,aM,aG37]) only [fZ,aM,aG37,fgl_nil,fgl_cons,or_true,true_or])
    · rw [if_neg h0] at hs b2
      simp (disch:=((try simp only [lZ]); omega)) only [aZ,aM,aG37,hlk,hpk,decide_eq_true (show x≥0 by omega),decide_eq_true (show x < (l.length : Int) by omega)]
      rw [← hs]
      refine ⟨k+1,by omega,by omega,?_⟩
      exact Cut.fg (by simp (disch:=first | omega | simp (disch:=omega) only [aG,aM,aG37]) only [fZ,aM,aG37,fgl_nil,fgl_cons,or_true,true_or])
  have hke : k=L.length:=by omega
  subst hke
  rw [← hall]
  simp (disch:=((try simp only [lZ]); omega)) only [aZ,aM,aG37,p1,r_ref37_Cost]
  exact post_v ⟨rfl,rfl⟩
theorem valR_err {p : Pl} {xs : List Int} {gl : List Bt} (h : (valR p xs gl).2≠0) : valR p xs gl=(0,(valR p xs gl).2):=by
  unfold valR at *
  split
  · rfl
  split
  · rfl
  · rename_i a b; rw [if_neg a,if_neg b] at h; exact absurd rfl h
theorem appl_err {p : Pl} {L : List (List Og)} {pk : List Int} (h : (applR p L pk).2≠0) : applR p L pk=(pl0,(applR p L pk).2):=by
  unfold applR at *
  split
  · rfl
  split
  · rfl
  split
  · rfl
  split
  · rfl
  · rename_i a b c d; rw [if_neg a,if_neg b,if_neg c,if_neg d] at h; exact absurd rfl h
theorem valR_bd {p : Pl} {xs : List Int} {gl : List Bt} (h : (valR p xs gl).2=0) : -412316860416000000≤(valR p xs gl).1∧(valR p xs gl).1≤412316860416000000:=by
  unfold valR at *
  by_cases h1 : (yldR p xs).2=0
  case neg=>rw [if_pos h1] at h; exact absurd h h1
  by_cases h2 : wantE p gl=0
  case neg=>rw [if_neg (fun k=>k h1),if_pos h2] at h; exact absurd h h2
  rw [if_neg (fun k=>k h1),if_neg (fun k=>k h2)]
  obtain ⟨hc,hf,_⟩:=yldR_ok h1
  obtain ⟨g1,g2⟩:=goals_ok hc hf h2
  exact wrtS_bd g1 g2
set_option maxHeartbeats 4000000 in
theorem setpointBest_vr (p : Pl) (L : List (List Og)) (xs : List Int) (gl : List Bt) (pk : List Int) : VR P false n_law37_SetpointBest [caseA true true true true true p L xs gl,.fs true (ints pk)] [] (isR (.v (.bool true))):=by
  refine vr_law37_SetpointBest (by simp) (.inr rfl) fun _ _=>?_
  have hli:=light37_vr (w:=true) (v:=true) (u:=true) (a:=true) (b:=true) p L xs gl
  have haw:=awake37_vr
  have hbe:=spBest_vr (w:=true) (v:=true) (u1:=true) (u2:=true) p L xs gl
  unfold caseA at *
  unfold bestT at hbe
  by_cases hpk : (pk.length : Int) > 100
  · unfold plA plC at *
    simp (disch:=((try simp only [lZ]); omega)) only [aZ,aM,aG37,s_law37_SetpointBest,v_law37_SetpointBest]
    refine hli.useE (LdL.refl (by simp (disch:=first | omega | simp (disch:=omega) only [aG,aM,aG37]) only [fZ,aM,aG37])) light_c37 ?_
    rintro _ ⟨-,y,rfl,hy⟩
    refine aret_of ?_
    cases y
    · simp (disch:=((try simp only [lZ]); omega)) only [aZ,aM,aG37]
      refine haw.same rfl rfl (aret_of ?_)
      simp (disch:=((try simp only [lZ]); omega)) only [aZ,aM,aG37,r_law37_SetpointBest]
      exact post_v ⟨rfl,rfl⟩
    · simp (disch:=((try simp only [lZ]); omega)) only [aZ,aM,aG37,decide_eq_true hpk]
      refine haw.same rfl rfl (aret_of ?_)
      simp (disch:=((try simp only [lZ]); omega)) only [aZ,aM,aG37,r_law37_SetpointBest]
      exact post_v ⟨rfl,rfl⟩
  have hap:=spApply_vr (w:=true) (v:=true) (u:=true) (u':=true) p L pk (by omega)
  have hva:=spValue_vr (w:=true) (v:=true) (u:=true) (u':=true) (pickP p L pk) xs gl
  have hal:=fun h=>best_all (p:=p) (L:=L) (xs:=xs) (gl:=gl) (pk:=pk) (n:=(valR (pickP p L pk) xs gl).1) h
  have hvb:=valR_bd (p:=pickP p L pk) (xs:=xs) (gl:=gl)
  have hve:=valR_err (p:=pickP p L pk) (xs:=xs) (gl:=gl)
  have hae:=appl_err (p:=p) (L:=L) (pk:=pk)
  have hao:=appl_ok (p:=p) (L:=L) (pk:=pk)
  have hpp : plA true true (pickP p L pk)=.agg [.v (.int .i64 p.mat),.fs true (mcs true (pickL p L pk)),.fs true (bts p.bs),.v (.int .i64 p.fd)]:=rfl
  have hp0 : plA true true pl0=.agg [.v (.int .i64 0),.fs true (mcs true []),.fs true (bts []),.v (.int .i64 0)]:=rfl
  unfold applT at hap
  unfold pairT at hva
  rw [hpp] at hva
  by_cases h1 : (bestR p L xs gl).2=0
  case neg =>
    unfold plA plC at hbe
    have hno : ∀ (h : (applR p L pk).2=0),¬ 256 < prd L→(valR (pickP p L pk) xs gl).2≠0:=fun h h3 h4=>by
      obtain ⟨q,v,e,_⟩:=hal h h3 (by rw [← h4])
      rw [e] at h1; exact h1 rfl
    clear hal
    by_cases h2 : (applR p L pk).2=0
    case neg =>
      rw [hae h2] at hap
      simp only [hp0] at hap
      unfold plA plC at hap
      simp (disch:=((try simp only [lZ]); omega)) only [aZ,aM,aG37,s_law37_SetpointBest,v_law37_SetpointBest]
      refine hli.useE (LdL.refl (by simp (disch:=first | omega | simp (disch:=omega) only [aG,aM,aG37]) only [fZ,aM,aG37])) light_c37 ?_
      rintro _ ⟨-,y,rfl,hy⟩
      refine aret_of ?_
      cases y
      · simp (disch:=((try simp only [lZ]); omega)) only [aZ,aM,aG37]
        refine haw.same rfl rfl (aret_of ?_)
        simp (disch:=((try simp only [lZ]); omega)) only [aZ,aM,aG37,r_law37_SetpointBest]
        exact post_v ⟨rfl,rfl⟩
      simp (disch:=((try simp only [lZ]); omega)) only [aZ,aM,aG37,decide_eq_false hpk]
      refine hbe.same (by simp (disch:=first | omega | simp (disch:=omega) only [aG,aM,aG37]) only [fZ,aM,aG37]) (by simp (disch:=first | omega | simp (disch:=omega) only [aG,aM,aG37]) only [fZ,aM,aG37]) (aret_of ?_)
      simp (disch:=((try simp only [lZ]); omega)) only [aZ,aM,aG37,decide_eq_false h1]
      refine hap.same (by simp (disch:=first | omega | simp (disch:=omega) only [aG,aM,aG37]) only [fZ,aM,aG37]) (by simp (disch:=first | omega | simp (disch:=omega) only [aG,aM,aG37]) only [fZ,aM,aG37]) (aret_of ?_)
      simp (disch:=((try simp only [lZ]); omega)) only [aZ,aM,aG37,decide_eq_true (show ¬ (applR p L pk).2=0 from h2)]
      refine haw.same rfl rfl (aret_of ?_)
      simp (disch:=((try simp only [lZ]); omega)) only [aZ,aM,aG37,r_law37_SetpointBest]
      exact post_v ⟨rfl,rfl⟩
    obtain ⟨hp,h5,h6,e2⟩:=hao h2
    have hno:=hno h2
    rw [e2] at hap
    simp only [hpp] at hap
    unfold plA plC at hap
    obtain ⟨l1,l2⟩:=poss_ok h5
    have n2:=(pcheck_ok hp).n2
    have hch:=refChoices_vr (u:=true) L (by omega) (fun l hl=>by
      obtain ⟨i,hi,rfl⟩:=get_mem [] hl
      have:=(l2 i (by omega)).1; omega)
    simp (disch:=((try simp only [lZ]); omega)) only [aZ,aM,aG37,s_law37_SetpointBest,v_law37_SetpointBest]
    refine hli.useE (LdL.refl (by simp (disch:=first | omega | simp (disch:=omega) only [aG,aM,aG37]) only [fZ,aM,aG37])) light_c37 ?_
    rintro _ ⟨-,y,rfl,hy⟩
    refine aret_of ?_
    cases y
    · simp (disch:=((try simp only [lZ]); omega)) only [aZ,aM,aG37]
      refine haw.same rfl rfl (aret_of ?_)
      simp (disch:=((try simp only [lZ]); omega)) only [aZ,aM,aG37,r_law37_SetpointBest]
      exact post_v ⟨rfl,rfl⟩
    simp (disch:=((try simp only [lZ]); omega)) only [aZ,aM,aG37,decide_eq_false hpk]
    refine hbe.same (by simp (disch:=first | omega | simp (disch:=omega) only [aG,aM,aG37]) only [fZ,aM,aG37]) (by simp (disch:=first | omega | simp (disch:=omega) only [aG,aM,aG37]) only [fZ,aM,aG37]) (aret_of ?_)
    simp (disch:=((try simp only [lZ]); omega)) only [aZ,aM,aG37,decide_eq_false h1]
    refine hap.same (by simp (disch:=first | omega | simp (disch:=omega) only [aG,aM,aG37]) only [fZ,aM,aG37]) (by simp (disch:=first | omega | simp (disch:=omega) only [aG,aM,aG37]) only [fZ,aM,aG37]) (aret_of ?_)
    simp (disch:=((try simp only [lZ]); omega)) only [aZ,aM,aG37]
    refine hch.same (by simp (disch:=first | omega | simp (disch:=omega) only [aG,aM,aG37]) only [fZ,aM,aG37]) rfl (aret_of ?_)
    by_cases h3 : 256 < prd L
    · rw [show chN L=257 from if_pos h3]
      simp (disch:=((try simp only [lZ]); omega)) only [aZ,aM,aG37]
      refine haw.same rfl rfl (aret_of ?_)
      simp (disch:=((try simp only [lZ]); omega)) only [aZ,aM,aG37,r_law37_SetpointBest]
      exact post_v ⟨rfl,rfl⟩
    rw [show chN L=prd L from if_neg h3]
    have h7:=hno h3
    rw [hve h7] at hva
    simp (disch:=((try simp only [lZ]); omega)) only [aZ,aM,aG37,decide_eq_false (show ¬ ((prd L : Nat) : Int) > 256 by omega)]
    refine hva.same (by simp (disch:=first | omega | simp (disch:=omega) only [aG,aM,aG37]) only [fZ,aM,aG37]) (by simp (disch:=first | omega | simp (disch:=omega) only [aG,aM,aG37]) only [fZ,aM,aG37]) (aret_of ?_)
    simp (disch:=((try simp only [lZ]); omega)) only [aZ,aM,aG37,decide_eq_true (show ¬ (valR (pickP p L pk) xs gl).2=0 from h7)]
    refine haw.same rfl rfl (aret_of ?_)
    simp (disch:=((try simp only [lZ]); omega)) only [aZ,aM,aG37,r_law37_SetpointBest]
    exact post_v ⟨rfl,rfl⟩
  obtain ⟨q,n,eb,g1,g2,g3,g4⟩:=best_val h1
  have gb:=valR_bd (show (valR (pickP p L q) xs gl).2=0 by rw [g4])
  rw [g4] at gb
  simp only at gb
  obtain ⟨l1,l2⟩:=poss_ok g1
  have gp:=(appl_ok (show (applR p L q).2=0 by rw [g3])).1
  have n2:=(pcheck_ok gp).n2
  have hcost:=poss_cost g1
  have gs:=spcS_bd (by omega) hcost g2
  have gap:=spApply_vr (w:=true) (v:=true) (u:=true) (u':=true) p L q (by have:=g2.1; omega)
  have gva:=spValue_vr (w:=true) (v:=true) (u:=true) (u':=true) (pickP p L q) xs gl
  have gco:=refCost_vr (u:=true) (u':=true) L q (by omega) hcost g2
  have gpp : plA true true (pickP p L q)=.agg [.v (.int .i64 p.mat),.fs true (mcs true (pickL p L q)),.fs true (bts p.bs),.v (.int .i64 p.fd)]:=rfl
  have hch:=refChoices_vr (u:=true) L (by omega) (fun l hl=>by
    obtain ⟨i,hi,rfl⟩:=get_mem [] hl
    have:=(l2 i (by omega)).1; omega)
  unfold applT at gap
  unfold pairT at gva
  rw [g3] at gap
  rw [g4,gpp] at gva
  simp only [gpp] at gap
  rw [eb] at hbe hal
  unfold plA plC at hbe gap
  by_cases h2 : (applR p L pk).2=0
  case neg =>
    rw [hae h2] at hap
    simp only [hp0] at hap
    unfold plA plC at hap
    simp (disch:=((try simp only [lZ]); omega)) only [aZ,aM,aG37,s_law37_SetpointBest,v_law37_SetpointBest]
    refine hli.useE (LdL.refl (by simp (disch:=first | omega | simp (disch:=omega) only [aG,aM,aG37]) only [fZ,aM,aG37])) light_c37 ?_
    rintro _ ⟨-,y,rfl,hy⟩
    refine aret_of ?_
    cases y
    · simp (disch:=((try simp only [lZ]); omega)) only [aZ,aM,aG37]
      refine haw.same rfl rfl (aret_of ?_)
      simp (disch:=((try simp only [lZ]); omega)) only [aZ,aM,aG37,r_law37_SetpointBest]
      exact post_v ⟨rfl,rfl⟩
    simp (disch:=((try simp only [lZ]); omega)) only [aZ,aM,aG37,decide_eq_false hpk]
    refine hbe.same (by simp (disch:=first | omega | simp (disch:=omega) only [aG,aM,aG37]) only [fZ,aM,aG37]) (by simp (disch:=first | omega | simp (disch:=omega) only [aG,aM,aG37]) only [fZ,aM,aG37]) (aret_of ?_)
    simp (disch:=((try simp only [lZ]); omega)) only [aZ,aM,aG37]
    refine gap.same (by simp (disch:=first | omega | simp (disch:=omega) only [aG,aM,aG37]) only [fZ,aM,aG37]) (by simp (disch:=first | omega | simp (disch:=omega) only [aG,aM,aG37]) only [fZ,aM,aG37]) (aret_of ?_)
    simp (disch:=((try simp only [lZ]); omega)) only [aZ,aM,aG37]
    refine gva.same (by simp (disch:=first | omega | simp (disch:=omega) only [aG,aM,aG37]) only [fZ,aM,aG37]) (by simp (disch:=first | omega | simp (disch:=omega) only [aG,aM,aG37]) only [fZ,aM,aG37]) (aret_of ?_)
    simp (disch:=((try simp only [lZ]); omega)) only [aZ,aM,aG37]
    refine gco.same (by simp (disch:=first | omega | simp (disch:=omega) only [aG,aM,aG37]) only [fZ,aM,aG37]) rfl (aret_of ?_)
    simp (disch:=((try simp only [lZ]); omega)) only [aZ,aM,aG37]
    refine hap.same (by simp (disch:=first | omega | simp (disch:=omega) only [aG,aM,aG37]) only [fZ,aM,aG37]) (by simp (disch:=first | omega | simp (disch:=omega) only [aG,aM,aG37]) only [fZ,aM,aG37]) (aret_of ?_)
    simp (disch:=((try simp only [lZ]); omega)) only [aZ,aM,aG37,decide_eq_true (show ¬ (applR p L pk).2=0 from h2)]
    refine haw.same rfl rfl (aret_of ?_)
    simp (disch:=((try simp only [lZ]); omega)) only [aZ,aM,aG37,r_law37_SetpointBest]
    exact post_v ⟨rfl,rfl⟩
  obtain ⟨hp,h5,h6,e2⟩:=hao h2
  have hal:=hal h2
  rw [e2] at hap
  simp only [hpp] at hap
  unfold plA plC at hap
  have hco:=refCost_vr (u:=true) (u':=true) L pk (by omega) hcost h6
  have hs:=spcS_bd (by omega) hcost h6
  simp (disch:=((try simp only [lZ]); omega)) only [aZ,aM,aG37,s_law37_SetpointBest,v_law37_SetpointBest]
  refine hli.useE (LdL.refl (by simp (disch:=first | omega | simp (disch:=omega) only [aG,aM,aG37]) only [fZ,aM,aG37])) light_c37 ?_
  rintro _ ⟨-,y,rfl,hy⟩
  refine aret_of ?_
  cases y
  · simp (disch:=((try simp only [lZ]); omega)) only [aZ,aM,aG37]
    refine haw.same rfl rfl (aret_of ?_)
    simp (disch:=((try simp only [lZ]); omega)) only [aZ,aM,aG37,r_law37_SetpointBest]
    exact post_v ⟨rfl,rfl⟩
  simp (disch:=((try simp only [lZ]); omega)) only [aZ,aM,aG37,decide_eq_false hpk]
  refine hbe.same (by simp (disch:=first | omega | simp (disch:=omega) only [aG,aM,aG37]) only [fZ,aM,aG37]) (by simp (disch:=first | omega | simp (disch:=omega) only [aG,aM,aG37]) only [fZ,aM,aG37]) (aret_of ?_)
  simp (disch:=((try simp only [lZ]); omega)) only [aZ,aM,aG37]
  refine gap.same (by simp (disch:=first | omega | simp (disch:=omega) only [aG,aM,aG37]) only [fZ,aM,aG37]) (by simp (disch:=first | omega | simp (disch:=omega) only [aG,aM,aG37]) only [fZ,aM,aG37]) (aret_of ?_)
  simp (disch:=((try simp only [lZ]); omega)) only [aZ,aM,aG37]
  refine gva.same (by simp (disch:=first | omega | simp (disch:=omega) only [aG,aM,aG37]) only [fZ,aM,aG37]) (by simp (disch:=first | omega | simp (disch:=omega) only [aG,aM,aG37]) only [fZ,aM,aG37]) (aret_of ?_)
  simp (disch:=((try simp only [lZ]); omega)) only [aZ,aM,aG37]
  refine gco.same (by simp (disch:=first | omega | simp (disch:=omega) only [aG,aM,aG37]) only [fZ,aM,aG37]) rfl (aret_of ?_)
  simp (disch:=((try simp only [lZ]); omega)) only [aZ,aM,aG37]
  refine hap.same (by simp (disch:=first | omega | simp (disch:=omega) only [aG,aM,aG37]) only [fZ,aM,aG37]) (by simp (disch:=first | omega | simp (disch:=omega) only [aG,aM,aG37]) only [fZ,aM,aG37]) (aret_of ?_)
  simp (disch:=((try simp only [lZ]); omega)) only [aZ,aM,aG37]
  refine hch.same (by simp (disch:=first | omega | simp (disch:=omega) only [aG,aM,aG37]) only [fZ,aM,aG37]) rfl (aret_of ?_)
  by_cases h3 : 256 < prd L
  · rw [show chN L=257 from if_pos h3]
    simp (disch:=((try simp only [lZ]); omega)) only [aZ,aM,aG37]
    refine haw.same rfl rfl (aret_of ?_)
    simp (disch:=((try simp only [lZ]); omega)) only [aZ,aM,aG37,r_law37_SetpointBest]
    exact post_v ⟨rfl,rfl⟩
  rw [show chN L=prd L from if_neg h3]
  have hal:=hal h3
  simp (disch:=((try simp only [lZ]); omega)) only [aZ,aM,aG37,decide_eq_false (show ¬ ((prd L : Nat) : Int) > 256 by omega)]
  refine hva.same (by simp (disch:=first | omega | simp (disch:=omega) only [aG,aM,aG37]) only [fZ,aM,aG37]) (by simp (disch:=first | omega | simp (disch:=omega) only [aG,aM,aG37]) only [fZ,aM,aG37]) (aret_of ?_)
  by_cases h7 : (valR (pickP p L pk) xs gl).2=0
  case neg =>
    simp (disch:=((try simp only [lZ]); omega)) only [aZ,aM,aG37,decide_eq_true (show ¬ (valR (pickP p L pk) xs gl).2=0 from h7)]
    refine haw.same rfl rfl (aret_of ?_)
    simp (disch:=((try simp only [lZ]); omega)) only [aZ,aM,aG37,r_law37_SetpointBest]
    exact post_v ⟨rfl,rfl⟩
  have hvb:=hvb h7
  obtain ⟨q',v',e',a1,a2,a3⟩:=hal (by rw [← h7])
  have eq' : q=q':=congrArg (fun x=>x.1.1) e'
  have ev' : n - spcS L q=v':=congrArg (fun x=>x.1.2) e'
  subst eq'
  subst ev'
  generalize (valR (pickP p L pk) xs gl).1=N at *
  generalize spcS L pk=S1 at *
  generalize spcS L q=S2 at *
  simp (disch:=((try simp only [lZ]); omega)) only [aZ,aM,aG37,h7]
  refine hco.same (by simp (disch:=first | omega | simp (disch:=omega) only [aG,aM,aG37]) only [fZ,aM,aG37]) rfl (aret_of ?_)
  simp (disch:=((try simp only [lZ]); omega)) only [aZ,aM,aG37,decide_eq_false (show ¬ N - S1 > n - S2 by omega),decide_eq_false (show ¬ (q.length : Int)≠pk.length by omega)]
  refine AWP.loopP g_law37_SetpointBest_0 (fun k : Nat=>k≤pk.length∧∀ i,i < k→pk.getD i 0=q.getD i 0) (fun k=>[(2,.v (.bool false)),(14,.v (.int .i64 k))]) (fun _=>[]) (fun k=>pk.length - k) 0 ⟨by omega,fun i hi=>absurd hi (by omega)⟩ ?_ ?_
  · exact Cut.fg (by simp (disch:=first | omega | simp (disch:=omega) only [aG,aM,aG37]) only [fZ,aM,aG37,fgl_nil,fgl_cons,or_true,true_or])
  rintro k ⟨hk,hg⟩
  by_cases hkt : k < pk.length
  case neg =>
    simp (disch:=((try simp only [lZ]); omega)) only [aZ,aM,aG37,decide_eq_false (show ¬ (k : Int) < pk.length by omega)]
    refine haw.same rfl rfl (aret_of ?_)
    simp (disch:=((try simp only [lZ]); omega)) only [aZ,aM,aG37,r_law37_SetpointBest]
    exact post_v ⟨rfl,rfl⟩
  by_cases hv : N - S1=n - S2
  case neg =>
    simp (disch:=((try simp only [lZ]); omega)) only [aZ,aM,aG37,decide_eq_true (show (k : Int) < pk.length by omega),decide_eq_false hv]
    refine haw.same rfl rfl (aret_of ?_)
    simp (disch:=((try simp only [lZ]); omega)) only [aZ,aM,aG37,r_law37_SetpointBest]
    exact post_v ⟨rfl,rfl⟩
  by_cases hx : pk.getD k 0=q.getD k 0
  · simp (disch:=((try simp only [lZ]); omega)) only [aZ,aM,aG37,decide_eq_true (show (k : Int) < pk.length by omega),decide_eq_true hv,hx]
    refine ⟨k+1,⟨by omega,fun i hi=>?_⟩,by omega,?_⟩
    · by_cases e : i=k
      · subst e; exact hx
      · exact hg i (by omega)
    · exact Cut.fg (by simp (disch:=first | omega | simp (disch:=omega) only [aG,aM,aG37]) only [fZ,aM,aG37,fgl_nil,fgl_cons,or_true,true_or])
  have hgt : pk.getD k 0 > q.getD k 0:=by
    rcases a3 hv with rfl | ⟨i,i1,i2,i3⟩
    · exact absurd rfl hx
    · by_cases c1 : i < k
      · have:=hg i c1; omega
      by_cases c2 : k < i
      · exact absurd (i2 k c2).symm hx
      have : i=k:=by omega
      subst this; exact i3
  simp (disch:=((try simp only [lZ]); omega)) only [aZ,aM,aG37,decide_eq_true (show (k : Int) < pk.length by omega),decide_eq_true hv,decide_eq_true (show pk.getD k 0≠q.getD k 0 from hx),decide_eq_true hgt]
  refine haw.same rfl rfl (aret_of ?_)
  simp (disch:=((try simp only [lZ]); omega)) only [aZ,aM,aG37,r_law37_SetpointBest]
  exact post_v ⟨rfl,rfl⟩
end Go.Proofs.Ytcppaddgclkekaa
