/- Lemmas and walks that the proof of SetpointPlain uses. No statement is claimed here. -/
import Derived.Test.YtcppaddgclkekaaSetpointPlainZas
namespace Go.Proofs.Ytcppaddgclkekaa
open Go Go.Lft
set_option linter.unusedSimpArgs false
set_option linter.unusedVariables false
attribute [local congr] ob_congr bw_congr ib_congr ck_congr iwA_congr itA_congr aw_congr awp_congr sqA_congr bkA_congr vr_congr gd_congr
def chN (L : List (List Og)) : Int:=if 256 < prd L then 257 else prd L
theorem refChoices_vr {u : Bool} (L : List (List Og)) (hl : L.length≤1000) (hb : ∀ l∈L,l.length≤100) : VR P false n_ref37_Choices [.fs u (ogL u L)] [] (isR (.v (.int .i64 (chN L)))):=by
  refine vr_ref37_Choices (by simp) (.inr rfl) fun _ _=>?_
  simp (disch:=((try simp only [lZ]); omega)) only [aZ,aM,aG37,s_ref37_Choices,v_ref37_Choices]
  refine AWP.loopP g_ref37_Choices_0 (fun k : Nat=>k≤L.length∧prd (L.take k)≤256) (fun k=>[(1,.v (.int .i64 0)),(2,.v (.int .i64 (prd (L.take k)))),(3,.v (.int .i64 k))]) (fun _=>[]) (fun k=>L.length - k) 0 ⟨by omega,by simp [prd]⟩ ?_ ?_
  · exact Cut.fg (by simp (disch:=first | omega | simp (disch:=omega) only [aG,aM,aG37]) only [fZ,aM,aG37,List.take_zero,show ((prd [] : Nat) : Int)=1 from rfl,fgl_nil,fgl_cons,or_true,true_or])
  rintro k ⟨hk,hp⟩
  by_cases hkt : k < L.length
  · have hs:=prd_succ L k hkt
    have hlk:=hb _ (mem_get [] hkt)
    have h1:=Nat.mul_le_mul hp (show max 1 (L.getD k []).length≤100 by omega)
    by_cases h1' : ((L.getD k []).length : Int) > 1
    · have h2 : ((prd (L.take k) : Nat) : Int)*((L.getD k []).length : Int)=((prd (L.take (k+1)) : Nat) : Int):=by rw [hs,Int.natCast_mul]; congr 1; omega
      have h3 : ((prd (L.take k) : Nat) : Int)*((L.getD k []).length : Int)≤25600:=by rw [h2,hs]; omega
      have h4 : 0≤((prd (L.take k) : Nat) : Int)*((L.getD k []).length : Int):=by rw [h2]; omega
      by_cases hm : ((prd (L.take (k+1)) : Nat) : Int) > 256
      · have:=prd_take L (k+1)
        rw [show chN L=257 from if_pos (show 256 < prd L by omega)]
        simp (disch:=((try simp only [lZ]); omega)) only [aZ,aM,aG37,decide_eq_true h1',h2,decide_eq_true hm,r_ref37_Choices]
        exact post_v ⟨rfl,rfl⟩
      · simp (disch:=((try simp only [lZ]); omega)) only [aZ,aM,aG37,decide_eq_true h1',h2,decide_eq_false hm]
        refine ⟨k+1,⟨by omega,by omega⟩,by omega,?_⟩
        exact Cut.fg (by simp (disch:=first | omega | simp (disch:=omega) only [aG,aM,aG37]) only [fZ,aM,aG37,fgl_nil,fgl_cons,or_true,true_or])
    · have e : prd (L.take (k+1))=prd (L.take k):=by rw [hs,show max 1 (L.getD k []).length=1 by omega,Nat.mul_one]
      simp (disch:=((try simp only [lZ]); omega)) only [aZ,aM,aG37,decide_eq_false h1',decide_eq_false (show ¬ ((prd (L.take k) : Nat) : Int) > 256 by omega)]
      refine ⟨k+1,⟨by omega,by omega⟩,by omega,?_⟩
      exact Cut.fg (by simp (disch:=first | omega | simp (disch:=omega) only [aG,aM,aG37]) only [fZ,aM,aG37,e,fgl_nil,fgl_cons,or_true,true_or])
  have hke : k=L.length:=by omega
  subst hke
  rw [List.take_length] at hp
  rw [show chN L=prd L from if_neg (by omega)]
  simp (disch:=((try simp only [lZ]); omega)) only [aZ,aM,aG37,List.take_length,r_ref37_Choices]
  exact post_v ⟨rfl,rfl⟩
theorem rows37b_vr {w : Bool} (r : Mc) : VR P false n_law37_rows [.fs w (rows w r)] [] (fun x G=>G=[]∧∃ b : Bool,x=.v (.bool b)∧(b=true→rwP r)):=by
  refine vr_law37_rows (by simp) (.inr rfl) fun _ _=>?_
  by_cases h1 : (r.length : Int) > 30
  · simp (disch:=((try simp only [lZ]); omega)) only [aZ,aM,aG37,s_law37_rows,v_law37_rows,decide_eq_true h1,r_law37_rows]
    exact post_v ⟨rfl,_,rfl,by simp⟩
  simp (disch:=((try simp only [lZ]); omega)) only [aZ,aM,aG37,s_law37_rows,v_law37_rows,decide_eq_false h1]
  refine AWP.loopP g_law37_rows_0 (fun k : Nat=>k≤r.length∧∀ i,i < k→(r.getD i []).length≤10) (fun k=>[(1,.v (.bool false)),(2,.v (.int .i64 k))]) (fun _=>[]) (fun k=>r.length - k) 0 ⟨by omega,by omega⟩ ?_ ?_
  · exact Cut.fg (by simp (disch:=first | omega | simp (disch:=omega) only [aG,aM,aG37]) only [fZ,aM,aG37,fgl_nil,fgl_cons,or_true,true_or])
  rintro k ⟨hk,hr⟩
  by_cases hlt : k < r.length
  · by_cases h2 : ((r.getD k []).length : Int) > 10
    · simp (disch:=((try simp only [lZ]); omega)) only [aZ,aM,aG37,decide_eq_true h2,r_law37_rows]
      exact post_v ⟨rfl,_,rfl,by simp⟩
    · simp (disch:=((try simp only [lZ]); omega)) only [aZ,aM,aG37,decide_eq_false h2]
      refine ⟨k+1,⟨by omega,fun i hi=>(Nat.lt_succ_iff_lt_or_eq.1 hi).elim (hr i) fun h=>by rw [h]; omega⟩,by omega,?_⟩
      exact Cut.fg (by simp (disch:=first | omega | simp (disch:=omega) only [aG,aM,aG37]) only [fZ,aM,aG37,fgl_nil,fgl_cons,or_true,true_or])
  · have hke : k=r.length:=by omega
    simp (disch:=((try simp only [lZ]); omega)) only [aZ,aM,aG37,decide_eq_false (show ¬ (k : Int) < r.length by omega),r_law37_rows]
    refine post_v ⟨rfl,_,rfl,fun _=>⟨by omega,fun x hx=>?_⟩⟩
    obtain ⟨i,hi,rfl⟩:=get_mem [] hx
    exact hr i (by omega)
theorem rows_c {m : Mc} (r : A) (G : List Blk) (h : G=[]∧∃ b : Bool,r=.v (.bool b)∧(b=true→rwP m)) : G=[]∧(r.cl && r.bd 0)=true:=by
  obtain ⟨rfl,b,rfl,_⟩:=h; exact ⟨rfl,rfl⟩
structure Light (p : Pl) (L : List (List Og)) (fd : List Int) (gs : List Bt) : Prop where
  hm : p.ms.length≤30
  hb : p.bs.length≤60
  hL : L.length≤40
  hf : fd.length≤40
  hg : gs.length≤60
  hr : ∀ i,i < p.ms.length→rwP (p.ms.getD i [])
  ho : ∀ i,i < L.length→(L.getD i []).length≤10∧∀ k,k < (L.getD i []).length→rwP ((L.getD i []).getD k og0).r
def caseA (w v u a b : Bool) (p : Pl) (L : List (List Og)) (fd : List Int) (gs : List Bt) : A:=.agg [.v (.int .i64 p.mat),.fs w (mcs w p.ms),.fs v (bts p.bs),.v (.int .i64 p.fd),.fs u (ogL u L),.fs a (ints fd),.fs b (bts gs)]
theorem rw_step {m : List Mc} {k : Nat} (h : ∀ i,i < k→rwP (m.getD i [])) (hk : rwP (m.getD k [])) : ∀ i,i < k+1→rwP (m.getD i []) :=
  fun i hi=>(Nat.lt_succ_iff_lt_or_eq.1 hi).elim (h i) fun e=>e▸hk
set_option maxHeartbeats 4000000 in
theorem light37_vr {w v u a b : Bool} (p : Pl) (L : List (List Og)) (fd : List Int) (gs : List Bt) : VR P false n_law37_light [caseA w v u a b p L fd gs] [] (fun x G=>G=[]∧∃ y : Bool,x=.v (.bool y)∧(y=true→Light p L fd gs)):=by
  refine vr_law37_light (by simp) (.inr rfl) fun _ _=>?_
  unfold caseA
  by_cases c0 : (p.ms.length : Int) > 30
  · simp (disch:=((try simp only [lZ]); omega)) only [aZ,aM,aG37,s_law37_light,v_law37_light,decide_eq_true c0,r_law37_light]
    exact post_v ⟨rfl,_,rfl,by simp⟩
  by_cases c1 : (p.bs.length : Int) > 60
  · simp (disch:=((try simp only [lZ]); omega)) only [aZ,aM,aG37,s_law37_light,v_law37_light,decide_eq_false c0,decide_eq_true c1,r_law37_light]
    exact post_v ⟨rfl,_,rfl,by simp⟩
  by_cases c2 : (L.length : Int) > 40
  · simp (disch:=((try simp only [lZ]); omega)) only [aZ,aM,aG37,s_law37_light,v_law37_light,decide_eq_false c0,decide_eq_false c1,decide_eq_true c2,r_law37_light]
    exact post_v ⟨rfl,_,rfl,by simp⟩
  by_cases c3 : (fd.length : Int) > 40
  · simp (disch:=((try simp only [lZ]); omega)) only [aZ,aM,aG37,s_law37_light,v_law37_light,decide_eq_false c0,decide_eq_false c1,decide_eq_false c2,decide_eq_true c3,r_law37_light]
    exact post_v ⟨rfl,_,rfl,by simp⟩
  by_cases c4 : (gs.length : Int) > 60
  · simp (disch:=((try simp only [lZ]); omega)) only [aZ,aM,aG37,s_law37_light,v_law37_light,decide_eq_false c0,decide_eq_false c1,decide_eq_false c2,decide_eq_false c3,decide_eq_true c4,r_law37_light]
    exact post_v ⟨rfl,_,rfl,by simp⟩
  simp (disch:=((try simp only [lZ]); omega)) only [aZ,aM,aG37,s_law37_light,v_law37_light,decide_eq_false c0,decide_eq_false c1,decide_eq_false c2,decide_eq_false c3,decide_eq_false c4]
  refine AWP.loopP g_law37_light_0 (fun k : Nat=>k≤p.ms.length∧∀ i,i < k→rwP (p.ms.getD i [])) (fun k=>[(1,.v (.bool false)),(3,.v (.int .i64 k))]) (fun _=>[]) (fun k=>p.ms.length - k) 0 ⟨by omega,by omega⟩ ?_ ?_
  · exact Cut.fg (by simp (disch:=first | omega | simp (disch:=omega) only [aG,aM,aG37]) only [fZ,aM,aG37,fgl_nil,fgl_cons,or_true,true_or])
  rintro k ⟨hk,hr⟩
  by_cases hlt : k < p.ms.length
  · simp (disch:=((try simp only [lZ]); omega)) only [aZ,aM,aG37]
    refine (rows37b_vr _).useE (LdL.refl (by simp (disch:=first | omega | simp (disch:=omega) only [aG,aM,aG37]) only [fZ,aM,aG37])) rows_c ?_
    rintro _ ⟨-,y,rfl,hy⟩
    refine aret_of ?_
    cases y
    · simp (disch:=((try simp only [lZ]); omega)) only [aZ,aM,aG37,r_law37_light]
      exact post_v ⟨rfl,_,rfl,by simp⟩
    · simp (disch:=((try simp only [lZ]); omega)) only [aZ,aM,aG37]
      refine ⟨k+1,⟨by omega,rw_step hr (hy rfl)⟩,by omega,?_⟩
      exact Cut.fg (by simp (disch:=first | omega | simp (disch:=omega) only [aG,aM,aG37]) only [fZ,aM,aG37,fgl_nil,fgl_cons,or_true,true_or])
  have hke : k=p.ms.length:=by omega
  subst hke
  simp (disch:=((try simp only [lZ]); omega)) only [aZ,aM,aG37]
  refine AWP.loopP g_law37_light_1 (fun k : Nat=>k≤L.length∧∀ i,i < k→(L.getD i []).length≤10∧∀ k,k < (L.getD i []).length→rwP ((L.getD i []).getD k og0).r) (fun k=>[(1,.v (.bool false)),(4,.v (.int .i64 k))]) (fun _=>[]) (fun k=>L.length - k) 0 ⟨by omega,by omega⟩ ?_ ?_
  · exact Cut.fg (by simp (disch:=first | omega | simp (disch:=omega) only [aG,aM,aG37]) only [fZ,aM,aG37,fgl_nil,fgl_cons,or_true,true_or])
  rintro k ⟨hk,ho⟩
  by_cases hlt : k < L.length
  · by_cases c6 : ((L.getD k []).length : Int) > 10
    · simp (disch:=((try simp only [lZ]); omega)) only [aZ,aM,aG37,decide_eq_true c6,r_law37_light]
      exact post_v ⟨rfl,_,rfl,by simp⟩
    simp (disch:=((try simp only [lZ]); omega)) only [aZ,aM,aG37,decide_eq_false c6]
    refine AWP.loopP g_law37_light_2 (fun j : Nat=>j≤(L.getD k []).length∧∀ i,i < j→rwP ((L.getD k []).getD i og0).r) (fun j=>[(1,.v (.bool false)),(5,.v (.int .i64 j))]) (fun _=>[]) (fun j=>(L.getD k []).length - j) 0 ⟨by omega,by omega⟩ ?_ ?_
    · exact Cut.fg (by simp (disch:=first | omega | simp (disch:=omega) only [aG,aM,aG37]) only [fZ,aM,aG37,fgl_nil,fgl_cons,or_true,true_or])
    rintro j ⟨hj,hw⟩
    by_cases hjt : j < (L.getD k []).length
    · simp (disch:=((try simp only [lZ]); omega)) only [aZ,aM,aG37]
      refine (rows37b_vr _).useE (LdL.refl (by simp (disch:=first | omega | simp (disch:=omega) only [aG,aM,aG37]) only [fZ,aM,aG37])) rows_c ?_
      rintro _ ⟨-,y,rfl,hy⟩
      refine aret_of ?_
      cases y
      · simp (disch:=((try simp only [lZ]); omega)) only [aZ,aM,aG37,r_law37_light]
        exact post_v ⟨rfl,_,rfl,by simp⟩
      · simp (disch:=((try simp only [lZ]); omega)) only [aZ,aM,aG37]
        refine ⟨j+1,⟨by omega,fun i hi=>(Nat.lt_succ_iff_lt_or_eq.1 hi).elim (hw i) fun e=>e▸hy rfl⟩,by omega,?_⟩
        exact Cut.fg (by simp (disch:=first | omega | simp (disch:=omega) only [aG,aM,aG37]) only [fZ,aM,aG37,fgl_nil,fgl_cons,or_true,true_or])
    have hje : j=(L.getD k []).length:=by omega
    simp (disch:=((try simp only [lZ]); omega)) only [aZ,aM,aG37,decide_eq_false (show ¬ (j : Int) < (L.getD k []).length by omega)]
    refine ⟨k+1,⟨by omega,fun i hi=>(Nat.lt_succ_iff_lt_or_eq.1 hi).elim (ho i) fun e=>by rw [e]; exact ⟨by omega,fun q hq=>hw q (by omega)⟩⟩,by omega,?_⟩
    exact Cut.fg (by simp (disch:=first | omega | simp (disch:=omega) only [aG,aM,aG37]) only [fZ,aM,aG37,fgl_nil,fgl_cons,or_true,true_or])
  have hke : k=L.length:=by omega
  subst hke
  have hL : Light p L fd gs:=⟨by omega,by omega,by omega,by omega,by omega,hr,ho⟩
  simp (disch:=((try simp only [lZ]); omega)) only [aZ,aM,aG37]
  refine AWP.loopP g_law37_light_3 (fun s : Nat×Nat=>s.1≤p.bs.length∧16≤s.2∧s.2≤16+16*s.1) (fun s=>[(6,.v (.int .i64 s.2)),(8,.v (.int .i64 s.1))]) (fun _=>[]) (fun s=>p.bs.length - s.1) (0,16) ⟨by simp only; omega,by simp only; omega,by simp only; omega⟩ ?_ ?_
  · exact Cut.fg (by simp (disch:=first | omega | simp (disch:=omega) only [aG,aM,aG37]) only [fZ,aM,aG37,fgl_nil,fgl_cons,or_true,true_or])
  rintro ⟨k,y⟩ ⟨hk,hy1,hy2⟩
  simp only at hk hy1 hy2
  by_cases hlt : k < p.bs.length
  · obtain ⟨z,hz,hz2⟩ : ∃ z : Nat,max 0 (min (p.bs.getD k b0).ln 16)=(z : Int)∧z≤16:=⟨(max 0 (min (p.bs.getD k b0).ln 16)).toNat,by omega,by omega⟩
    simp (disch:=((try simp only [lZ]); omega)) only [aZ,aM,aG37,hz]
    refine ⟨(k+1,y+z),⟨by simp only; omega,by simp only; omega,by simp only; omega⟩,by simp only; omega,?_⟩
    exact Cut.fg (by simp (disch:=first | omega | simp (disch:=omega) only [aG,aM,aG37]) only [fZ,aM,aG37,fgl_nil,fgl_cons,or_true,true_or])
  have hke : k=p.bs.length:=by omega
  subst hke
  simp (disch:=((try simp only [lZ]); omega)) only [aZ,aM,aG37]
  refine AWP.loopP g_law37_light_4 (fun s : Nat×Nat=>s.1≤fd.length∧s.2≤1073741824*s.1) (fun s=>[(1,.v (.bool false)),(7,.v (.int .i64 s.2)),(9,.v (.int .i64 s.1))]) (fun _=>[]) (fun s=>fd.length - s.1) (0,0) ⟨by simp only; omega,by simp only; omega⟩ ?_ ?_
  · exact Cut.fg (by simp (disch:=first | omega | simp (disch:=omega) only [aG,aM,aG37]) only [fZ,aM,aG37,fgl_nil,fgl_cons,or_true,true_or])
  rintro ⟨k,g⟩ ⟨hk,hg⟩
  simp only at hk hg
  by_cases hlt : k < fd.length
  · by_cases d1 : fd.getD k 0 < 0
    · simp (disch:=((try simp only [lZ]); omega)) only [aZ,aM,aG37,decide_eq_true d1,r_law37_light]
      exact post_v ⟨rfl,_,rfl,fun _=>hL⟩
    by_cases d2 : fd.getD k 0 > 1073741824
    · simp (disch:=((try simp only [lZ]); omega)) only [aZ,aM,aG37,decide_eq_false d1,decide_eq_true d2,r_law37_light]
      exact post_v ⟨rfl,_,rfl,fun _=>hL⟩
    obtain ⟨z,hz⟩ : ∃ z : Nat,fd.getD k 0=(z : Int):=⟨(fd.getD k 0).toNat,by omega⟩
    rw [hz] at d1 d2
    simp (disch:=((try simp only [lZ]); omega)) only [aZ,aM,aG37,hz,decide_eq_false d1,decide_eq_false d2]
    refine ⟨(k+1,g+z),⟨by simp only; omega,by simp only; omega⟩,by simp only; omega,?_⟩
    exact Cut.fg (by simp (disch:=first | omega | simp (disch:=omega) only [aG,aM,aG37]) only [fZ,aM,aG37,fgl_nil,fgl_cons,or_true,true_or])
  have hke : k=fd.length:=by omega
  subst hke
  simp (disch:=((try simp only [lZ]); omega)) only [aZ,aM,aG37]
  refine (refChoices_vr L (by omega) fun l hl=>?_).same (by simp (disch:=first | omega | simp (disch:=omega) only [aG,aM,aG37]) only [fZ,aM,aG37]) rfl (aret_of ?_)
  · obtain ⟨i,hi,rfl⟩:=get_mem [] hl
    exact Nat.le_trans (ho i hi).1 (by omega)
  obtain ⟨n,hn,hn2⟩ : ∃ n : Nat,max 1 (min (chN L) 256)=(n : Int)∧n≤256:=⟨(max 1 (min (chN L) 256)).toNat,by omega,by omega⟩
  obtain ⟨q,hq,hq2⟩ : ∃ q : Nat,(g : Int)*(y : Int)=(q : Int)∧q≤42949672960*976:=⟨g*y,by rw [Int.natCast_mul],Nat.mul_le_mul (by omega) (by omega)⟩
  obtain ⟨q',hq',hq2'⟩ : ∃ q' : Nat,(q : Int)*(n : Int)=(q' : Int)∧q'≤42949672960*976*256:=⟨q*n,by rw [Int.natCast_mul],Nat.mul_le_mul hq2 hn2⟩
  simp (disch:=((try simp only [lZ]); omega)) only [aZ,aM,aG37,hq,hn,hq',r_law37_light]
  exact post_v ⟨rfl,_,rfl,fun _=>hL⟩


end Go.Proofs.Ytcppaddgclkekaa
namespace Go.Proofs.Ytcppaddgclkekaa
open Go Go.Lft
set_option linter.unusedSimpArgs false
set_option linter.unusedVariables false

end Go.Proofs.Ytcppaddgclkekaa
namespace Go.Proofs.Ytcppaddgclkekaa
open Go Go.Lft
set_option linter.unusedSimpArgs false
set_option linter.unusedVariables false
attribute [local congr] ob_congr bw_congr ib_congr ck_congr iwA_congr itA_congr aw_congr awp_congr sqA_congr bkA_congr vr_congr gd_congr
theorem light_c37 {p : Pl} {L : List (List Og)} {fd : List Int} {gs : List Bt} (r : A) (G : List Blk) (h : G=[]∧∃ y : Bool,r=.v (.bool y)∧(y=true→Light p L fd gs)) : G=[]∧(r.cl && r.bd 0)=true:=by
  obtain ⟨rfl,b,rfl,_⟩:=h; exact ⟨rfl,rfl⟩

def noO (n : Nat) : List (List Og):=List.replicate n []
theorem noO_get (n m : Nat) : (noO n).getD m []=[]:=by
  simp [noO,List.getD_eq_getElem?_getD,List.getElem?_replicate]; split<;>rfl
theorem noO_prd : ∀ n,prd (noO n)=1
  | 0=>rfl
  | n+1=>by show max 1 0*prd (noO n)=1; rw [noO_prd n]; rfl
theorem noO_all : ∀ n,allP (noO n)=[List.replicate n 0]
  | 0=>rfl
  | n+1=>by
    show blkP (allP (noO n)) 0 (max 1 0)=_
    rw [noO_all n]; rfl
theorem noO_poss (p : Pl) : possE p (noO p.ms.length)=0:=possE_good (by simp [noO]) fun i hi=>by rw [noO_get]; rfl
theorem noO_pick (p : Pl) (pk : List Int) : pickP p (noO p.ms.length) pk=p:=by
  have e : pickL p (noO p.ms.length) pk=p.ms:=eq_of_getB [] (pickL_len _ _ _) fun i hi=>by
    rw [pickL_len] at hi
    rw [pickL_get _ _ _ _ hi]; unfold pickM; rw [if_pos (by rw [noO_get]; rfl)]
  unfold pickP; rw [e]
theorem noO_cost (n : Nat) (pk : List Int) : spcS (noO n) pk=0:=by
  have e : ∀ m,spc (noO n) pk m=0:=fun m=>by unfold spc; rw [if_pos (by rw [noO_get]; rfl)]
  unfold spcS spcL
  have : ∀ l : List Nat,(l.map (spc (noO n) pk)).sum=0:=fun l=>by
    induction l with
    | nil=>rfl
    | cons a l ih=>rw [List.map_cons,List.sum_cons,ih,e]; rfl
  exact this _
theorem noO_best {p : Pl} {xs : List Int} {gl : List Bt} (h : (valR p xs gl).2=0) : bestR p (noO p.ms.length) xs gl=((List.replicate p.ms.length 0,(valR p xs gl).1),0):=by
  have h1 : (yldR p xs).2=0:=by
    apply Classical.byContradiction; intro h1
    unfold valR at h; rw [if_pos h1] at h; exact h1 h
  have h2 : wantE p gl=0:=by
    apply Classical.byContradiction; intro h2
    unfold valR at h; rw [if_neg (fun k=>k h1),if_pos h2] at h; exact h2 h
  obtain ⟨hc,hf,e⟩:=yldR_ok h1
  have hv : valR p xs gl=(wrtS (yldL p xs) gl,0):=by unfold valR; rw [if_neg (fun k=>k h1),if_neg (fun k=>k h2)]
  have hw : ∀ pk,val37 p (noO p.ms.length) xs gl pk=some (wrtS (yldL p xs) gl):=fun pk=>by
    unfold val37
    rw [noO_pick,noO_cost,if_pos h1,Int.sub_zero]
  unfold bestR
  rw [if_neg (fun k=>k (chkP_ok hc).1),if_neg (fun k=>k (noO_poss p)),if_neg (by rw [noO_prd]; omega),if_neg (fun k=>k hf),if_neg (fun k=>k h2),noO_all,hv]
  unfold bstL
  simp only [List.foldl_cons,List.foldl_nil,stepB,hw]
  rfl
end Go.Proofs.Ytcppaddgclkekaa
namespace Go.Proofs.Ytcppaddgclkekaa
open Go Go.Lft
set_option linter.unusedSimpArgs false
set_option linter.unusedVariables false
def tyGoals : Ty:=(.sl (.st [(.int .i64),(.int .i64),(.int .i64),(.int .i64)]))
theorem tyGoals_is : tyGoals.Is Try.prog 30:=by
  unfold tyGoals
  simp only [Ty.Is]
  refine ⟨65,Try.underlying30,by kernel_rfl,by decide,?_⟩
  refine ⟨_,Try.underlying65,by kernel_rfl,?_⟩
  simp only [Ty.IsL,Ty.Is]
  refine ⟨by first | rfl | trivial,by kernel_rfl,?_,?_⟩
  ·
    exact Try.underlying3
  refine ⟨by first | rfl | trivial,by kernel_rfl,?_,?_⟩
  ·
    exact Try.underlying3
  refine ⟨by first | rfl | trivial,by kernel_rfl,?_,?_⟩
  ·
    exact Try.underlying3
  refine ⟨by first | rfl | trivial,by kernel_rfl,?_,?_⟩
  ·
    exact Try.underlying3
  trivial
theorem goals_of {es : List A} (h : tyGoals.Sh true es) : ∃ l : List Bt,tyGoals.pk es=.fs true (bts l):=by
  unfold tyGoals at h ⊢
  simp only [Ty.Sh] at h
  obtain ⟨M,rfl,hn,h⟩:=h
  obtain ⟨bs,h2,_⟩:=list_of (w:=true) (.st [.int .i64,.int .i64,.int .i64,.int .i64]) btA (fun _=>True) (fun ce hce=>bt_of hce) M (fun ce hce=>by simp only [Ty.Sh,Ty.ShL]; exact h ce hce)
  exact ⟨bs,by show A.fs true _=_; rw [h2]; rfl⟩
end Go.Proofs.Ytcppaddgclkekaa
namespace Go.Lft
open Go
theorem AWP.both {P : Program} {n0 : Nat} {a b : S} {Q : QA} {e : List A} {H : List Blk} (ha : AWP P n0 a Q e H) (hb : AWP P n0 b Q e H) : AWP P n0 (.both a b) Q e H :=
  fun c ev a1 a2 a3 a4=>⟨ha c ev a1 a2 a3 a4,hb c ev a1 a2 a3 a4⟩
def S.preC : Nat→S→S
  | n+1,.set i x k=>.set i x (k.preC n)
  | n+1,.chk x k=>.chk x (k.preC n)
  | n+1,.eff kp d f k=>.eff kp d f (k.preC n)
  | n+1,.call kp d f ax k=>.call kp d f ax (k.preC n)
  | n+1,.seq a k=>.seq a (k.preC n)
  | _,_=>.nxt
def S.postC : Nat→S→S
  | n+1,.set _ _ k=>k.postC n
  | n+1,.chk _ k=>k.postC n
  | n+1,.eff _ _ _ k=>k.postC n
  | n+1,.call _ _ _ _ k=>k.postC n
  | n+1,.seq _ k=>k.postC n
  | _,s=>s
theorem wp_chainC {P : Program} : ∀ (n : Nat) (s : S) {Q : Ex→List Value→Heap→Prop} {e : List Value} {h : Heap},(S.seq (s.preC n) (s.postC n)).wp P Q e h→s.wp P Q e h
  | 0,s,Q,e,h,hw=>by cases s<;>exact hw
  | n+1,s,Q,e,h,hw=>by
    cases s with
    | set i x k=>obtain ⟨v,h1,h2⟩:=hw; exact ⟨v,h1,wp_chainC n k h2⟩
    | chk x k=>obtain ⟨v,h1,h2⟩:=hw; exact ⟨v,h1,wp_chainC n k h2⟩
    | eff kp d f k=>exact E.ok_mono (R:=fun v h'=>(kp=true→Ext h h')∧(S.seq (k.preC n) (k.postC n)).wp P Q (put e d v) h') (fun v h' hh=>⟨hh.1,wp_chainC n k hh.2⟩) hw
    | call kp d f ax k =>
      obtain ⟨vs,h1,h2⟩:=hw
      exact ⟨vs,h1,h2.mono fun v h' hh=>⟨hh.1,wp_chainC n k hh.2⟩⟩
    | seq a k =>
      refine S.wp_mono a (fun x e' h' hq=>?_) hw
      cases x with
      | nxt=>exact wp_chainC n k hq
      | exit i=>exact hq
      | ret=>exact hq
    | _=>exact hw
theorem AWP.chainC {P : Program} {n0 : Nat} {s : S} {Q : QA} {e : List A} {H : List Blk} (n : Nat) (h : (s.preC n).aw P n0 (fun x e H=>match x with | .nxt=>AWP P n0 (s.postC n) Q e H | x=>Q x e H) e H) : AWP P n0 s Q e H :=
  fun c ev a1 a2 a3 a4=>wp_chainC n s (AWP.seq (aw_sound h) c ev a1 a2 a3 a4)
end Go.Lft
namespace Go.Proofs.Ytcppaddgclkekaa
open Go Go.Lft
set_option linter.unusedSimpArgs false
set_option linter.unusedVariables false
attribute [local congr] ob_congr bw_congr ib_congr ck_congr iwA_congr itA_congr aw_congr awp_congr sqA_congr bkA_congr vr_congr gd_congr
theorem fzl_rep (H : List Blk) : ∀ n,FzL 0 H (List.replicate n (.v (.slice none 0 0))) (List.replicate n (.fs true []))
  | 0=>trivial
  | n+1=>⟨fz_nil _ _,fzl_rep H n⟩
theorem ogL_no (n : Nat) : ogL true (noO n)=List.replicate n (.fs true []):=by simp [ogL,noO,ogs]
theorem flat_rep : ∀ n,flatA 1 (List.replicate n (A.fs true []))=some (List.replicate n (A.fs true []))
  | 0=>rfl
  | n+1=>by
    rw [List.replicate_succ]
    simp only [flatA,flat_rep n]
    rfl
theorem frz_noO (H : List Blk) (i n : Nat) (hb : blkAt H i 0=some (List.replicate n (.v (.slice none 0 0)))) : Fz 0 H (.sl i 0 1 0 n) (.fs true (ogL true (noO n))):=by
  rw [ogL_no]
  exact Fz.sl (Nat.zero_le _) hb (fzl_rep H n) (by rw [flat_rep,List.drop_zero,List.take_of_length_le (by simp)]) (by simp) (by simp)
set_option maxHeartbeats 4000000 in
theorem setpointPlain_vr (p : Pl) (xs : List Int) (gl : List Bt) : VR P false n_law37_SetpointPlain [plA true true p,.fs true (ints xs),.fs true (bts gl)] [] (isR (.v (.bool true))):=by
  refine vr_law37_SetpointPlain (by simp) (.inr rfl) fun _ _=>?_
  have hli:=light37_vr (w:=true) (v:=true) (u:=false) (a:=true) (b:=true) p [] xs gl
  have haw:=awake37_vr
  have hva:=spValue_vr (w:=true) (v:=true) (u:=true) (u':=true) p xs gl
  have hbe:=spBest_vr (w:=true) (v:=true) (u1:=true) (u2:=true) p (noO p.ms.length) xs gl
  unfold caseA at hli
  unfold pairT at hva
  have hid : ∀ H : List Blk,LdL H [.agg [.v (.int .i64 p.mat),.fs true (mcs true p.ms),.fs true (bts p.bs),.v (.int .i64 p.fd),.v (.slice none 0 0),.fs true (ints xs),.fs true (bts gl)]] [.agg [.v (.int .i64 p.mat),.fs true (mcs true p.ms),.fs true (bts p.bs),.v (.int .i64 p.fd),.fs false (ogL false []),.fs true (ints xs),.fs true (bts gl)]]:=fun H =>
    ⟨Ld.agg ⟨Ld.refl (by simp (disch:=first | omega | simp (disch:=omega) only [aG,aM,aG37]) only [fZ,aM,aG37]),Ld.refl (by simp (disch:=first | omega | simp (disch:=omega) only [aG,aM,aG37]) only [fZ,aM,aG37]),Ld.refl (by simp (disch:=first | omega | simp (disch:=omega) only [aG,aM,aG37]) only [fZ,aM,aG37]),Ld.refl (by simp (disch:=first | omega | simp (disch:=omega) only [aG,aM,aG37]) only [fZ,aM,aG37]),ld_nilA _,Ld.refl (by simp (disch:=first | omega | simp (disch:=omega) only [aG,aM,aG37]) only [fZ,aM,aG37]),Ld.refl (by simp (disch:=first | omega | simp (disch:=omega) only [aG,aM,aG37]) only [fZ,aM,aG37]),trivial⟩,trivial⟩
  unfold plA plC at *
  simp (disch:=((try simp only [lZ]); omega)) only [aZ,aM,aG37,s_law37_SetpointPlain,v_law37_SetpointPlain]
  refine hli.useE (hid _) light_c37 ?_
  rintro _ ⟨-,y,rfl,hy⟩
  refine aret_of ?_
  cases y
  · simp (disch:=((try simp only [lZ]); omega)) only [aZ,aM,aG37]
    refine haw.same rfl rfl (aret_of ?_)
    simp (disch:=((try simp only [lZ]); omega)) only [aZ,aM,aG37,r_law37_SetpointPlain]
    exact post_v ⟨rfl,rfl⟩
  have n30:=(hy rfl).hm
  simp (disch:=((try simp only [lZ]); omega)) only [aZ,aM,aG37]
  refine hva.same (by simp (disch:=first | omega | simp (disch:=omega) only [aG,aM,aG37]) only [fZ,aM,aG37]) (by simp (disch:=first | omega | simp (disch:=omega) only [aG,aM,aG37]) only [fZ,aM,aG37]) ?_
  show AWP P 0 _ _ _ _
  refine AWP.chainC 5 ?_
  conv=>arg 3; simp only [S.preC]
  by_cases h2 : (valR p xs gl).2=0
  case neg =>
    have h1 : (valR p xs gl).1=0:=by
      unfold valR at *
      split
      · rfl
      split
      · rfl
      · rename_i a b; rw [if_neg a,if_neg b] at h2; exact absurd rfl h2
    simp (disch:=((try simp only [lZ]); omega)) only [aZ,aM,aG37,putA,decide_eq_true (show ¬ (valR p xs gl).2=0 from h2),h1]
    refine haw.same rfl rfl (aret_of ?_)
    simp (disch:=((try simp only [lZ]); omega)) only [aZ,aM,aG37,r_law37_SetpointPlain]
    exact post_v ⟨rfl,rfl⟩
  rw [noO_best h2] at hbe
  unfold bestT at hbe
  have hin:=ints37_vr (w:=true) (v:=false) (List.replicate p.ms.length 0) (List.replicate p.ms.length 0) (by simp; omega)
  rw [decide_eq_true rfl] at hin
  simp (disch:=((try simp only [lZ]); omega)) only [aZ,aM,aG37,putA,h2]
  conv=>arg 3; simp only [S.postC]
  refine AWP.seq (AWP.both ?_ ?_)
  · refine AWP.chainC 2 ?_
    conv=>arg 3; simp only [S.preC]
    simp (disch:=((try simp only [lZ]); omega)) only [aZ,aM,aG37,Int.toNat_natCast]
    conv=>arg 3; simp only [S.postC]
    refine AWP.cut (e':=[.agg [.v (.int .i64 p.mat),.fs true (mcs true p.ms),.fs true (bts p.bs),.v (.int .i64 p.fd)],.fs true (ints xs),.fs true (bts gl),.v (.bool false),.fp true [.v (.int .i64 p.mat),.fs true (mcs true p.ms),.fs true (bts p.bs),.v (.int .i64 p.fd)],.v (.int .i64 (valR p xs gl).1),.v (.int .i64 0),.any,.any,.any,.any,.any,.any,.fs true (ogL true (noO p.ms.length)),.any,.any,.any,.any]) (H':=[]) (Cut.of' 0 rfl (Nat.le_refl _) (by simp [FzB]) ?_) ?_
    · refine ⟨Fz.refl (by simp (disch:=first | omega | simp (disch:=omega) only [aG,aM,aG37]) only [fZ,aM,aG37]),Fz.refl (by simp (disch:=first | omega | simp (disch:=omega) only [aG,aM,aG37]) only [fZ,aM,aG37]),Fz.refl (by simp (disch:=first | omega | simp (disch:=omega) only [aG,aM,aG37]) only [fZ,aM,aG37]),Fz.refl rfl,?_,Fz.refl rfl,Fz.refl rfl,by simp (disch:=first | omega | simp (disch:=omega) only [aG,aM,aG37]) only [fZ,aM,aG37],by simp (disch:=first | omega | simp (disch:=omega) only [aG,aM,aG37]) only [fZ,aM,aG37],by simp (disch:=first | omega | simp (disch:=omega) only [aG,aM,aG37]) only [fZ,aM,aG37],by simp (disch:=first | omega | simp (disch:=omega) only [aG,aM,aG37]) only [fZ,aM,aG37],by simp (disch:=first | omega | simp (disch:=omega) only [aG,aM,aG37]) only [fZ,aM,aG37],by simp (disch:=first | omega | simp (disch:=omega) only [aG,aM,aG37]) only [fZ,aM,aG37],?_,by simp (disch:=first | omega | simp (disch:=omega) only [aG,aM,aG37]) only [fZ,aM,aG37],by simp (disch:=first | omega | simp (disch:=omega) only [aG,aM,aG37]) only [fZ,aM,aG37],by simp (disch:=first | omega | simp (disch:=omega) only [aG,aM,aG37]) only [fZ,aM,aG37],by simp (disch:=first | omega | simp (disch:=omega) only [aG,aM,aG37]) only [fZ,aM,aG37],trivial⟩
      · exact Fz.lp (l:=[.v (.int .i64 p.mat),.fs true (mcs true p.ms),.fs true (bts p.bs),.v (.int .i64 p.fd)]) (r:=[.v (.int .i64 p.mat),.fs true (mcs true p.ms),.fs true (bts p.bs),.v (.int .i64 p.fd)]) (Nat.le_refl _) rfl (FzL.refl (by simp (disch:=first | omega | simp (disch:=omega) only [aG,aM,aG37]) only [fZ,aM,aG37])) (by simp)
      · exact frz_noO _ _ _ rfl
    refine aw_sound ?_
    simp (disch:=((try simp only [lZ]); omega)) only [aZ,aM,aG37]
    refine hbe.same (by simp (disch:=first | omega | simp (disch:=omega) only [aG,aM,aG37]) only [fZ,aM,aG37]) (by simp (disch:=first | omega | simp (disch:=omega) only [aG,aM,aG37]) only [fZ,aM,aG37]) (aret_of ?_)
    simp (disch:=((try simp only [lZ]); omega)) only [aZ,aM,aG37]
    refine aw_sound ?_
    simp (disch:=((try simp only [lZ]); omega)) only [aZ,aM,aG37]
    refine hin.use ⟨Ld.refl (by simp (disch:=first | omega | simp (disch:=omega) only [aG,aM,aG37]) only [fZ,aM,aG37]),ld_slI _ _ _ _ (List.replicate p.ms.length 0) (by simp) (by simp [ints,blkAt]),trivial⟩ rfl (aret_of ?_)
    simp (disch:=((try simp only [lZ]); omega)) only [aZ,aM,aG37]
    refine haw.same rfl rfl (aret_of ?_)
    simp (disch:=((try simp only [lZ]); omega)) only [aZ,aM,aG37,r_law37_SetpointPlain]
    exact post_v ⟨rfl,rfl⟩
  · refine AWP.chainC 2 ?_
    conv=>arg 3; simp only [S.preC]
    simp (disch:=((try simp only [lZ]); omega)) only [aZ,aM,aG37,Int.toNat_natCast]
    conv=>arg 3; simp only [S.postC]
    refine AWP.cut (e':=[.agg [.v (.int .i64 p.mat),.fs true (mcs true p.ms),.fs true (bts p.bs),.v (.int .i64 p.fd)],.fs true (ints xs),.fs true (bts gl),.v (.bool false),.fp true [.v (.int .i64 p.mat),.fs true (mcs true p.ms),.fs true (bts p.bs),.v (.int .i64 p.fd)],.v (.int .i64 (valR p xs gl).1),.v (.int .i64 0),.any,.any,.any,.any,.any,.any,.fs true (ogL true (noO p.ms.length)),.any,.any,.any,.any]) (H':=[]) (Cut.of' 0 rfl (Nat.le_refl _) (by simp [FzB]) ?_) ?_
    · refine ⟨Fz.refl (by simp (disch:=first | omega | simp (disch:=omega) only [aG,aM,aG37]) only [fZ,aM,aG37]),Fz.refl (by simp (disch:=first | omega | simp (disch:=omega) only [aG,aM,aG37]) only [fZ,aM,aG37]),Fz.refl (by simp (disch:=first | omega | simp (disch:=omega) only [aG,aM,aG37]) only [fZ,aM,aG37]),Fz.refl rfl,?_,Fz.refl rfl,Fz.refl rfl,by simp (disch:=first | omega | simp (disch:=omega) only [aG,aM,aG37]) only [fZ,aM,aG37],by simp (disch:=first | omega | simp (disch:=omega) only [aG,aM,aG37]) only [fZ,aM,aG37],by simp (disch:=first | omega | simp (disch:=omega) only [aG,aM,aG37]) only [fZ,aM,aG37],by simp (disch:=first | omega | simp (disch:=omega) only [aG,aM,aG37]) only [fZ,aM,aG37],by simp (disch:=first | omega | simp (disch:=omega) only [aG,aM,aG37]) only [fZ,aM,aG37],by simp (disch:=first | omega | simp (disch:=omega) only [aG,aM,aG37]) only [fZ,aM,aG37],?_,by simp (disch:=first | omega | simp (disch:=omega) only [aG,aM,aG37]) only [fZ,aM,aG37],by simp (disch:=first | omega | simp (disch:=omega) only [aG,aM,aG37]) only [fZ,aM,aG37],by simp (disch:=first | omega | simp (disch:=omega) only [aG,aM,aG37]) only [fZ,aM,aG37],by simp (disch:=first | omega | simp (disch:=omega) only [aG,aM,aG37]) only [fZ,aM,aG37],trivial⟩
      · exact Fz.lp (l:=[.v (.int .i64 p.mat),.fs true (mcs true p.ms),.fs true (bts p.bs),.v (.int .i64 p.fd)]) (r:=[.v (.int .i64 p.mat),.fs true (mcs true p.ms),.fs true (bts p.bs),.v (.int .i64 p.fd)]) (Nat.le_refl _) rfl (FzL.refl (by simp (disch:=first | omega | simp (disch:=omega) only [aG,aM,aG37]) only [fZ,aM,aG37])) (by simp)
      · exact frz_noO _ _ _ rfl
    refine aw_sound ?_
    simp (disch:=((try simp only [lZ]); omega)) only [aZ,aM,aG37]
    refine hbe.same (by simp (disch:=first | omega | simp (disch:=omega) only [aG,aM,aG37]) only [fZ,aM,aG37]) (by simp (disch:=first | omega | simp (disch:=omega) only [aG,aM,aG37]) only [fZ,aM,aG37]) (aret_of ?_)
    simp (disch:=((try simp only [lZ]); omega)) only [aZ,aM,aG37]
    refine aw_sound ?_
    simp (disch:=((try simp only [lZ]); omega)) only [aZ,aM,aG37]
    refine hin.use ⟨Ld.refl (by simp (disch:=first | omega | simp (disch:=omega) only [aG,aM,aG37]) only [fZ,aM,aG37]),ld_slI _ _ _ _ (List.replicate p.ms.length 0) (by simp) (by simp [ints,blkAt]),trivial⟩ rfl (aret_of ?_)
    simp (disch:=((try simp only [lZ]); omega)) only [aZ,aM,aG37]
    refine haw.same rfl rfl (aret_of ?_)
    simp (disch:=((try simp only [lZ]); omega)) only [aZ,aM,aG37,r_law37_SetpointPlain]
    exact post_v ⟨rfl,rfl⟩
end Go.Proofs.Ytcppaddgclkekaa
