/- Lemmas and walks that the proof of BaleProportions uses. No statement is claimed here. -/
import Derived.Test.YtbgmhbjfcpddkaaBaleProportionsZah
import Derived.Test.YtbgmhbjfcpddkaaChecked
import Derived.KernelRfl
namespace Go.Proofs.Ytbgmhbjfcpddkaa
open Go Go.Lft
set_option maxRecDepth 100000
noncomputable abbrev P : Program := Go.Proofs.Try.prog
theorem P_mixed : P.follows .mixedOrders = true := by kernel_rfl

/-- recycling/recyclinglaw38.BaleProportions -/
abbrev n_law38_BaleProportions : Nat := 9
def s_law38_BaleProportions : S :=
 (.eff false (some 2) (.box 25 (.var 0))
 (.set 1 (.lit (.bool false))
 (.seq
  (.ite (.b (.bin .gtr) (.u .len (.u .ld1 (.u (.fld 0) (.var 2)))) (.lit (.int .i64 30)))
   (.call false (some 12) 10 .nl
   (.set 1 (.var 12)
   .ret))
   .nxt)
 (.call false (some 13) 11 (.cn (.u (.lda 5) (.var 2)) .nl)
 (.chk (.u (.ext 0) (.var 13))
 (.chk (.u (.ext 1) (.var 13))
 (.chk (.u (.ext 2) (.var 13))
 (.set 3 (.u (.ext 0) (.var 13))
 (.set 4 (.u (.ext 1) (.var 13))
 (.set 5 (.u (.ext 2) (.var 13))
 (.seq
  (.ite (.b (.bin .neq) (.var 5) (.lit (.int .i64 0)))
   (.call false (some 14) 10 .nl
   (.set 1 (.var 14)
   .ret))
   .nxt)
 (.eff false (some 15) (.lit 3 1 0 [(.int .i64 0)] .nl)
 (.eff false (some 19) (.app 3 1 8 [(.int .i64 0)] (.var 15) (.u .ld1 (.u (.fld 0) (.var 2))))
 (.set 6 (.var 19)
 (.set 7 (.lit (.int .i64 0))
 (.seq
  (.blk 0
   (.loop
    (.seq
     (.ite (.b (.bin .lss) (.var 7) (.u .len (.var 3)))
      .nxt
      (.exit 0))
    (.seq
     (.blk 1
      (.call false (some 16) 19 (.cn (.var 6) .nl)
      (.chk (.u (.ext 0) (.var 16))
      (.chk (.u (.ext 1) (.var 16))
      (.set 8 (.u (.ext 0) (.var 16))
      (.set 9 (.u (.ext 1) (.var 16))
      (.seq
       (.ite (.ite (.b (.bin .neq) (.var 9) (.lit (.int .i64 0))) (.lit (.bool true)) (.b (.bin .neq) (.u .len (.u .ld1 (.u (.fld 3) (.b (.idx 4) (.var 3) (.var 7))))) (.u .len (.var 6))))
        (.set 1 (.lit (.bool false))
        .ret)
        .nxt)
      (.set 10 (.lit (.int .i64 0))
      (.blk 2
       (.loop
        (.seq
         (.ite (.b (.bin .lss) (.var 10) (.u .len (.var 6)))
          .nxt
          (.exit 2))
        (.seq
         (.blk 3
          (.set 11 (.u .ld1 (.b (.idx 1) (.u .ld1 (.u (.fld 3) (.b (.idx 4) (.var 3) (.var 7)))) (.var 10)))
          (.chk (.ite (.ite (.b (.bin .lss) (.var 11) (.lit (.int .i64 0))) (.lit (.bool true)) (.b (.bin .gtr) (.var 11) (.u .ld1 (.b (.idx 1) (.var 6) (.var 10))))) (.lit undef) (.u .ld1 (.u (.fld 1) (.var 2))))
          (.chk (.ite (.ite (.b (.bin .lss) (.var 11) (.lit (.int .i64 0))) (.lit (.bool true)) (.b (.bin .gtr) (.var 11) (.u .ld1 (.b (.idx 1) (.var 6) (.var 10))))) (.lit undef) (.u .ld1 (.b (.idx 1) (.var 6) (.var 10))))
          (.chk (.ite (.ite (.b (.bin .lss) (.var 11) (.lit (.int .i64 0))) (.lit (.bool true)) (.b (.bin .gtr) (.var 11) (.u .ld1 (.b (.idx 1) (.var 6) (.var 10))))) (.lit undef) (.var 8))
          (.seq
           (.ite (.ite (.b (.bin .lss) (.var 11) (.lit (.int .i64 0))) (.lit (.bool true)) (.b (.bin .gtr) (.var 11) (.u .ld1 (.b (.idx 1) (.var 6) (.var 10)))))
            (.set 17 (.lit undef)
            (.ite (.lit (.bool true))
             (.set 1 (.lit (.bool false))
             .ret)
             .nxt))
            (.call false (some 17) 25 (.cn (.var 11) (.cn (.u .ld1 (.u (.fld 1) (.var 2))) (.cn (.u .ld1 (.b (.idx 1) (.var 6) (.var 10))) (.cn (.var 8) .nl))))
            (.ite (.u (.un .not) (.var 17))
             (.set 1 (.lit (.bool false))
             .ret)
             .nxt)))
          (.eff false none (.st 1 (.b (.idx 1) (.var 6) (.var 10)) (.b (.bin .sub) (.u .ld1 (.b (.idx 1) (.var 6) (.var 10))) (.var 11)))
          .nxt)))))))
        (.set 10 (.b (.bin .add) (.var 10) (.lit (.int .i64 1)))
        .nxt)))))))))))))
    (.set 7 (.b (.bin .add) (.var 7) (.lit (.int .i64 1)))
    .nxt)))))
 (.call false (some 18) 10 .nl
 (.set 1 (.var 18)
 .ret))))))))))))))))))
def f_law38_BaleProportions : Fun := ⟨s_law38_BaleProportions, [(.var 1)]⟩
abbrev v_law38_BaleProportions : List Nat := [0, 2, 1, 3, 4, 5, 6, 7, 8, 9, 10, 11, 16, 19, 25, 26, 38, 87, 99, 29]
theorem c_law38_BaleProportions : compF P Go.Proofs.Try.f9 v_law38_BaleProportions = some f_law38_BaleProportions := by kernel_rfl
theorem of_law38_BaleProportions {args : List Value} (hn : args.length ≤ 100) {h : Heap} {R : Value → Heap → Prop} (hs : s_law38_BaleProportions.wp P (f_law38_BaleProportions.post R) (env0 v_law38_BaleProportions args) h) : Runs P n_law38_BaleProportions args h R := fn_of P_mixed Go.Proofs.Try.func9 c_law38_BaleProportions (by rw [Go.Proofs.Try.ntmps9]; exact hn) hs
theorem vr_law38_BaleProportions {kp : Bool} {args : List A} {H : List Blk} {R : A → List Blk → Prop} (hlen : args.length ≤ 100) (hk : kp = false ∨ H = []) (hw : (∀ B ∈ H, A.bdL H.length B.cells = true) → A.bdL H.length args = true → s_law38_BaleProportions.aw P H.length (postA H.length f_law38_BaleProportions R) (envA v_law38_BaleProportions args) H) : VR P kp n_law38_BaleProportions args H R := VR.of (F := f_law38_BaleProportions) (V := v_law38_BaleProportions) of_law38_BaleProportions hlen hk fun h1 h2 => aw_sound (hw h1 h2)
theorem r_law38_BaleProportions : Fun.res f_law38_BaleProportions = [(.var 1)] := rfl
abbrev g_law38_BaleProportions_0 : List Nat := [1, 7, 8, 9, 10, 11, 16, 17]
abbrev g_law38_BaleProportions_1 : List Nat := [1, 10, 11, 17]

/-- recycling/recyclinglaw38.awake -/
abbrev n_law38_awake : Nat := 10
def s_law38_awake : S :=
 (.set 0 (.lit (.bool false))
 (.eff false (some 10) (.lit 3 1 2 [(.int .i64 0)] (.pl 0 1 (.lit (.int .i64 7)) (.pl 1 1 (.lit (.int .i64 5)) .nl)))
 (.call false (some 15) 26 (.cn (.var 10) (.cn (.lit (.int .i64 4)) (.cn (.lit (.int .i64 1)) (.cn (.lit (.int .i64 10)) (.cn (.lit (.int .i64 99)) .nl)))))
 (.chk (.u (.ext 0) (.var 15))
 (.chk (.u (.ext 1) (.var 15))
 (.chk (.u (.ext 2) (.var 15))
 (.set 1 (.u (.ext 0) (.var 15))
 (.set 2 (.u (.ext 1) (.var 15))
 (.set 3 (.u (.ext 2) (.var 15))
 (.seq
  (.ite (.ite (.b (.bin .neq) (.var 3) (.lit (.int .i64 0))) (.lit (.bool true)) (.b (.bin .neq) (.u .len (.var 1)) (.lit (.int .i64 3))))
   (.set 0 (.lit (.bool false))
   .ret)
   .nxt)
 (.call false (some 11) 18 (.cn (.u (.lda 4) (.b (.idx 4) (.var 1) (.lit (.int .i64 0)))) .nl)
 (.chk (.u (.ext 0) (.var 11))
 (.chk (.u (.ext 1) (.var 11))
 (.set 4 (.u (.ext 0) (.var 11))
 (.set 5 (.u (.ext 1) (.var 11))
 (.call false (some 12) 20 (.cn (.u (.lda 4) (.b (.idx 4) (.var 1) (.lit (.int .i64 1)))) .nl)
 (.chk (.u (.ext 0) (.var 12))
 (.chk (.u (.ext 1) (.var 12))
 (.set 6 (.u (.ext 0) (.var 12))
 (.set 7 (.u (.ext 1) (.var 12))
 (.call false (some 13) 22 (.cn (.var 1) (.cn (.lit (.int .i64 2)) .nl))
 (.chk (.u (.ext 0) (.var 13))
 (.chk (.u (.ext 1) (.var 13))
 (.set 8 (.u (.ext 0) (.var 13))
 (.set 9 (.u (.ext 1) (.var 13))
 (.eff false (some 14) (.lit 3 1 2 [(.int .i64 0)] (.pl 0 1 (.lit (.int .i64 2)) (.pl 1 1 (.lit (.int .i64 2)) .nl)))
 (.chk (.bld [(.int .i64 0), (.int .i64 0), (.int .i64 0), (.slice none 0 0)] (.pl 0 1 (.lit (.int .i64 10)) (.pl 1 1 (.lit (.int .i64 1)) (.pl 2 1 (.lit (.int .i64 99)) (.pl 3 1 (.var 14) .nl)))))
 (.eff false (some 16) (.lit 3 1 2 [(.int .i64 0)] (.pl 0 1 (.lit (.int .i64 3)) (.pl 1 1 (.lit (.int .i64 1)) .nl)))
 (.chk (.bld [(.int .i64 0), (.int .i64 0), (.int .i64 0), (.slice none 0 0)] (.pl 0 1 (.lit (.int .i64 11)) (.pl 1 1 (.lit (.int .i64 1)) (.pl 2 1 (.lit (.int .i64 99)) (.pl 3 1 (.var 16) .nl)))))
 (.eff false (some 17) (.lit 3 1 2 [(.int .i64 0)] (.pl 0 1 (.lit (.int .i64 2)) (.pl 1 1 (.lit (.int .i64 2)) .nl)))
 (.chk (.bld [(.int .i64 0), (.int .i64 0), (.int .i64 0), (.slice none 0 0)] (.pl 0 1 (.lit (.int .i64 12)) (.pl 1 1 (.lit (.int .i64 1)) (.pl 2 1 (.lit (.int .i64 99)) (.pl 3 1 (.var 17) .nl)))))
 (.eff false (some 18) (.lit 39 4 3 [(.int .i64 0), (.int .i64 0), (.int .i64 0), (.slice none 0 0)] (.pl 0 4 (.bld [(.int .i64 0), (.int .i64 0), (.int .i64 0), (.slice none 0 0)] (.pl 0 1 (.lit (.int .i64 10)) (.pl 1 1 (.lit (.int .i64 1)) (.pl 2 1 (.lit (.int .i64 99)) (.pl 3 1 (.var 14) .nl))))) (.pl 4 4 (.bld [(.int .i64 0), (.int .i64 0), (.int .i64 0), (.slice none 0 0)] (.pl 0 1 (.lit (.int .i64 11)) (.pl 1 1 (.lit (.int .i64 1)) (.pl 2 1 (.lit (.int .i64 99)) (.pl 3 1 (.var 16) .nl))))) (.pl 8 4 (.bld [(.int .i64 0), (.int .i64 0), (.int .i64 0), (.slice none 0 0)] (.pl 0 1 (.lit (.int .i64 12)) (.pl 1 1 (.lit (.int .i64 1)) (.pl 2 1 (.lit (.int .i64 99)) (.pl 3 1 (.var 17) .nl))))) .nl))))
 (.call false (some 19) 13 (.cn (.var 1) (.cn (.var 18) .nl))
 (.chk (.ite (.var 19) (.var 2) (.lit undef))
 (.seq
  (.ite (.var 19)
   (.eff false (some 20) (.lit 3 1 2 [(.int .i64 0)] (.pl 0 1 (.lit (.int .i64 0)) (.pl 1 1 (.lit (.int .i64 0)) .nl)))
   (.call false (some 21) 14 (.cn (.var 2) (.cn (.var 20) .nl))
   (.chk (.ite (.ite (.ite (.ite (.ite (.var 21) (.b (.bin .eql) (.var 4) (.lit (.int .i64 4))) (.lit (.bool false))) (.b (.bin .eql) (.var 5) (.lit (.int .i64 0))) (.lit (.bool false))) (.b (.bin .eql) (.var 6) (.lit (.int .i64 250))) (.lit (.bool false))) (.b (.bin .eql) (.var 7) (.lit (.int .i64 0))) (.lit (.bool false))) (.var 8) (.lit undef))
   (.ite (.ite (.ite (.ite (.ite (.var 21) (.b (.bin .eql) (.var 4) (.lit (.int .i64 4))) (.lit (.bool false))) (.b (.bin .eql) (.var 5) (.lit (.int .i64 0))) (.lit (.bool false))) (.b (.bin .eql) (.var 6) (.lit (.int .i64 250))) (.lit (.bool false))) (.b (.bin .eql) (.var 7) (.lit (.int .i64 0))) (.lit (.bool false)))
    (.eff false (some 22) (.lit 3 1 2 [(.int .i64 0)] (.pl 0 1 (.lit (.int .i64 7)) (.pl 1 1 (.lit (.int .i64 5)) .nl)))
    (.call false (some 23) 14 (.cn (.var 8) (.cn (.var 22) .nl))
    (.chk (.ite (.ite (.var 23) (.b (.bin .eql) (.var 9) (.lit (.int .i64 0))) (.lit (.bool false))) (.var 1) (.lit undef))
    (.ite (.ite (.var 23) (.b (.bin .eql) (.var 9) (.lit (.int .i64 0))) (.lit (.bool false)))
     (.call false (some 24) 16 (.cn (.var 1) (.cn (.lit (.int .i64 2)) .nl))
     (.set 0 (.b (.bin .eql) (.var 24) (.lit (.int .i64 0)))
     .nxt))
     (.set 24 (.lit undef)
     (.set 0 (.lit (.bool false))
     .nxt))))))
    (.set 22 (.lit undef)
    (.set 23 (.lit undef)
    (.set 24 (.lit undef)
    (.set 0 (.lit (.bool false))
    .nxt))))))))
   (.set 20 (.lit undef)
   (.set 21 (.lit undef)
   (.set 22 (.lit undef)
   (.set 23 (.lit undef)
   (.set 24 (.lit undef)
   (.set 0 (.lit (.bool false))
   .nxt)))))))
 .ret)))))))))))))))))))))))))))))))))))
def f_law38_awake : Fun := ⟨s_law38_awake, [(.var 0)]⟩
abbrev v_law38_awake : List Nat := [0, 1, 2, 3, 4, 5, 6, 7, 8, 9, 11, 27, 34, 39, 43, 12, 45, 47, 49, 50, 53, 54, 74, 75, 83]
theorem c_law38_awake : compF P Go.Proofs.Try.f10 v_law38_awake = some f_law38_awake := by kernel_rfl
theorem of_law38_awake {args : List Value} (hn : args.length ≤ 86) {h : Heap} {R : Value → Heap → Prop} (hs : s_law38_awake.wp P (f_law38_awake.post R) (env0 v_law38_awake args) h) : Runs P n_law38_awake args h R := fn_of P_mixed Go.Proofs.Try.func10 c_law38_awake (by rw [Go.Proofs.Try.ntmps10]; exact hn) hs
theorem vr_law38_awake {kp : Bool} {args : List A} {H : List Blk} {R : A → List Blk → Prop} (hlen : args.length ≤ 86) (hk : kp = false ∨ H = []) (hw : (∀ B ∈ H, A.bdL H.length B.cells = true) → A.bdL H.length args = true → s_law38_awake.aw P H.length (postA H.length f_law38_awake R) (envA v_law38_awake args) H) : VR P kp n_law38_awake args H R := VR.of (F := f_law38_awake) (V := v_law38_awake) of_law38_awake hlen hk fun h1 h2 => aw_sound (hw h1 h2)
theorem r_law38_awake : Fun.res f_law38_awake = [(.var 0)] := rfl

/-- recycling/recyclinglaw38.press -/
abbrev n_law38_press : Nat := 11
def s_law38_press : S :=
 (.eff false (some 4) (.box 25 (.var 0))
 (.set 1 (.lit (.slice none 0 0))
 (.set 2 (.lit (.slice none 0 0))
 (.set 3 (.lit (.int .i64 0))
 (.call false (some 5) 26 (.cn (.u .ld1 (.u (.fld 0) (.var 4))) (.cn (.u .ld1 (.u (.fld 1) (.var 4))) (.cn (.u .ld1 (.u (.fld 2) (.var 4))) (.cn (.u .ld1 (.u (.fld 3) (.var 4))) (.cn (.u .ld1 (.u (.fld 4) (.var 4))) .nl)))))
 (.chk (.u (.ext 0) (.var 5))
 (.chk (.u (.ext 1) (.var 5))
 (.chk (.u (.ext 2) (.var 5))
 (.set 1 (.u (.ext 0) (.var 5))
 (.set 2 (.u (.ext 1) (.var 5))
 (.set 3 (.u (.ext 2) (.var 5))
 .ret)))))))))))
def f_law38_press : Fun := ⟨s_law38_press, [(.var 1), (.var 2), (.var 3)]⟩
abbrev v_law38_press : List Nat := [0, 2, 3, 4, 1, 15]
theorem c_law38_press : compF P Go.Proofs.Try.f11 v_law38_press = some f_law38_press := by kernel_rfl
theorem of_law38_press {args : List Value} (hn : args.length ≤ 19) {h : Heap} {R : Value → Heap → Prop} (hs : s_law38_press.wp P (f_law38_press.post R) (env0 v_law38_press args) h) : Runs P n_law38_press args h R := fn_of P_mixed Go.Proofs.Try.func11 c_law38_press (by rw [Go.Proofs.Try.ntmps11]; exact hn) hs
theorem vr_law38_press {kp : Bool} {args : List A} {H : List Blk} {R : A → List Blk → Prop} (hlen : args.length ≤ 19) (hk : kp = false ∨ H = []) (hw : (∀ B ∈ H, A.bdL H.length B.cells = true) → A.bdL H.length args = true → s_law38_press.aw P H.length (postA H.length f_law38_press R) (envA v_law38_press args) H) : VR P kp n_law38_press args H R := VR.of (F := f_law38_press) (V := v_law38_press) of_law38_press hlen hk fun h1 h2 => aw_sound (hw h1 h2)
theorem r_law38_press : Fun.res f_law38_press = [(.var 1), (.var 2), (.var 3)] := rfl

/-- recycling/recyclingref38.Same -/
abbrev n_ref38_Same : Nat := 13
def s_ref38_Same : S :=
 (.set 2 (.lit (.bool false))
 (.seq
  (.ite (.b (.bin .neq) (.u .len (.var 0)) (.u .len (.var 1)))
   (.set 2 (.lit (.bool false))
   .ret)
   .nxt)
 (.set 3 (.lit (.int .i64 0))
 (.seq
  (.blk 0
   (.loop
    (.seq
     (.ite (.b (.bin .lss) (.var 3) (.u .len (.var 0)))
      .nxt
      (.exit 0))
    (.seq
     (.blk 1
      (.chk (.ite (.ite (.ite (.b (.bin .neq) (.u .ld1 (.u (.fld 0) (.b (.idx 4) (.var 0) (.var 3)))) (.u .ld1 (.u (.fld 0) (.b (.idx 4) (.var 1) (.var 3))))) (.lit (.bool true)) (.b (.bin .neq) (.u .ld1 (.u (.fld 1) (.b (.idx 4) (.var 0) (.var 3)))) (.u .ld1 (.u (.fld 1) (.b (.idx 4) (.var 1) (.var 3)))))) (.lit (.bool true)) (.b (.bin .neq) (.u .ld1 (.u (.fld 2) (.b (.idx 4) (.var 0) (.var 3)))) (.u .ld1 (.u (.fld 2) (.b (.idx 4) (.var 1) (.var 3)))))) (.lit undef) (.u .ld1 (.u (.fld 3) (.b (.idx 4) (.var 0) (.var 3)))))
      (.chk (.ite (.ite (.ite (.b (.bin .neq) (.u .ld1 (.u (.fld 0) (.b (.idx 4) (.var 0) (.var 3)))) (.u .ld1 (.u (.fld 0) (.b (.idx 4) (.var 1) (.var 3))))) (.lit (.bool true)) (.b (.bin .neq) (.u .ld1 (.u (.fld 1) (.b (.idx 4) (.var 0) (.var 3)))) (.u .ld1 (.u (.fld 1) (.b (.idx 4) (.var 1) (.var 3)))))) (.lit (.bool true)) (.b (.bin .neq) (.u .ld1 (.u (.fld 2) (.b (.idx 4) (.var 0) (.var 3)))) (.u .ld1 (.u (.fld 2) (.b (.idx 4) (.var 1) (.var 3)))))) (.lit undef) (.u .ld1 (.u (.fld 3) (.b (.idx 4) (.var 1) (.var 3)))))
      (.ite (.ite (.ite (.b (.bin .neq) (.u .ld1 (.u (.fld 0) (.b (.idx 4) (.var 0) (.var 3)))) (.u .ld1 (.u (.fld 0) (.b (.idx 4) (.var 1) (.var 3))))) (.lit (.bool true)) (.b (.bin .neq) (.u .ld1 (.u (.fld 1) (.b (.idx 4) (.var 0) (.var 3)))) (.u .ld1 (.u (.fld 1) (.b (.idx 4) (.var 1) (.var 3)))))) (.lit (.bool true)) (.b (.bin .neq) (.u .ld1 (.u (.fld 2) (.b (.idx 4) (.var 0) (.var 3)))) (.u .ld1 (.u (.fld 2) (.b (.idx 4) (.var 1) (.var 3))))))
       (.set 4 (.lit undef)
       (.ite (.lit (.bool true))
        (.set 2 (.lit (.bool false))
        .ret)
        .nxt))
       (.call false (some 4) 14 (.cn (.u .ld1 (.u (.fld 3) (.b (.idx 4) (.var 0) (.var 3)))) (.cn (.u .ld1 (.u (.fld 3) (.b (.idx 4) (.var 1) (.var 3)))) .nl))
       (.ite (.u (.un .not) (.var 4))
        (.set 2 (.lit (.bool false))
        .ret)
        .nxt))))))
    (.set 3 (.b (.bin .add) (.var 3) (.lit (.int .i64 1)))
    .nxt)))))
 (.set 2 (.lit (.bool true))
 .ret)))))
def f_ref38_Same : Fun := ⟨s_ref38_Same, [(.var 2)]⟩
abbrev v_ref38_Same : List Nat := [0, 1, 4, 5, 65]
theorem c_ref38_Same : compF P Go.Proofs.Try.f13 v_ref38_Same = some f_ref38_Same := by kernel_rfl
theorem of_ref38_Same {args : List Value} (hn : args.length ≤ 68) {h : Heap} {R : Value → Heap → Prop} (hs : s_ref38_Same.wp P (f_ref38_Same.post R) (env0 v_ref38_Same args) h) : Runs P n_ref38_Same args h R := fn_of P_mixed Go.Proofs.Try.func13 c_ref38_Same (by rw [Go.Proofs.Try.ntmps13]; exact hn) hs
theorem vr_ref38_Same {kp : Bool} {args : List A} {H : List Blk} {R : A → List Blk → Prop} (hlen : args.length ≤ 68) (hk : kp = false ∨ H = []) (hw : (∀ B ∈ H, A.bdL H.length B.cells = true) → A.bdL H.length args = true → s_ref38_Same.aw P H.length (postA H.length f_ref38_Same R) (envA v_ref38_Same args) H) : VR P kp n_ref38_Same args H R := VR.of (F := f_ref38_Same) (V := v_ref38_Same) of_ref38_Same hlen hk fun h1 h2 => aw_sound (hw h1 h2)
theorem r_ref38_Same : Fun.res f_ref38_Same = [(.var 2)] := rfl
abbrev g_ref38_Same_0 : List Nat := [2, 3, 4]

/-- recycling/recyclingref12.Same -/
abbrev n_ref12_Same : Nat := 14
def s_ref12_Same : S :=
 (.set 2 (.lit (.bool false))
 (.seq
  (.ite (.b (.bin .neq) (.u .len (.var 0)) (.u .len (.var 1)))
   (.set 2 (.lit (.bool false))
   .ret)
   .nxt)
 (.set 3 (.lit (.int .i64 0))
 (.seq
  (.blk 0
   (.loop
    (.seq
     (.ite (.b (.bin .lss) (.var 3) (.u .len (.var 0)))
      .nxt
      (.exit 0))
    (.seq
     (.blk 1
      (.ite (.b (.bin .neq) (.u .ld1 (.b (.idx 1) (.var 0) (.var 3))) (.u .ld1 (.b (.idx 1) (.var 1) (.var 3))))
       (.set 2 (.lit (.bool false))
       .ret)
       .nxt))
    (.set 3 (.b (.bin .add) (.var 3) (.lit (.int .i64 1)))
    .nxt)))))
 (.set 2 (.lit (.bool true))
 .ret)))))
def f_ref12_Same : Fun := ⟨s_ref12_Same, [(.var 2)]⟩
abbrev v_ref12_Same : List Nat := [0, 1, 4, 5]
theorem c_ref12_Same : compF P Go.Proofs.Try.f14 v_ref12_Same = some f_ref12_Same := by kernel_rfl
theorem of_ref12_Same {args : List Value} (hn : args.length ≤ 26) {h : Heap} {R : Value → Heap → Prop} (hs : s_ref12_Same.wp P (f_ref12_Same.post R) (env0 v_ref12_Same args) h) : Runs P n_ref12_Same args h R := fn_of P_mixed Go.Proofs.Try.func14 c_ref12_Same (by rw [Go.Proofs.Try.ntmps14]; exact hn) hs
theorem vr_ref12_Same {kp : Bool} {args : List A} {H : List Blk} {R : A → List Blk → Prop} (hlen : args.length ≤ 26) (hk : kp = false ∨ H = []) (hw : (∀ B ∈ H, A.bdL H.length B.cells = true) → A.bdL H.length args = true → s_ref12_Same.aw P H.length (postA H.length f_ref12_Same R) (envA v_ref12_Same args) H) : VR P kp n_ref12_Same args H R := VR.of (F := f_ref12_Same) (V := v_ref12_Same) of_ref12_Same hlen hk fun h1 h2 => aw_sound (hw h1 h2)
theorem r_ref12_Same : Fun.res f_ref12_Same = [(.var 2)] := rfl
abbrev g_ref12_Same_0 : List Nat := [2, 3]

/-- recycling/bale.Check -/
abbrev n_bale_Check : Nat := 16
def s_bale_Check : S :=
 (.set 2 (.lit (.int .i64 0))
 (.seq
  (.ite (.b (.bin .gtr) (.u .len (.var 0)) (.lit (.int .i64 64)))
   (.set 2 (.lit (.int .i64 8))
   .ret)
   .nxt)
 (.set 6 (.var 0)
 (.set 4 (.u .len (.var 6))
 (.set 3 (.lit (.int .i64 0))
 (.seq
  (.blk 0
   (.loop
    (.set 5 (.b (.bin .lss) (.var 3) (.var 4))
    (.seq
     (.ite (.var 5)
      .nxt
      (.exit 0))
    (.seq
     (.blk 1
      (.chk (.u (.lda 4) (.b (.idx 4) (.var 6) (.var 3)))
      (.eff false (some 7) (.alloc 39 [(.int .i64 0), (.int .i64 0), (.int .i64 0), (.slice none 0 0)])
      (.eff false none (.st 4 (.var 7) (.u (.lda 4) (.b (.idx 4) (.var 6) (.var 3))))
      (.call false (some 15) 28 (.cn (.u (.lda 4) (.var 7)) (.cn (.var 1) .nl))
      (.set 8 (.var 15)
      (.ite (.b (.bin .neq) (.var 8) (.lit (.int .i64 0)))
       (.set 2 (.var 8)
       .ret)
       .nxt)))))))
    (.set 3 (.b (.bin .add) (.var 3) (.lit (.int .i64 1)))
    .nxt))))))
 (.set 12 (.var 0)
 (.set 10 (.u .len (.var 12))
 (.set 9 (.lit (.int .i64 0))
 (.seq
  (.blk 2
   (.loop
    (.set 11 (.b (.bin .lss) (.var 9) (.var 10))
    (.seq
     (.ite (.var 11)
      .nxt
      (.exit 2))
    (.seq
     (.blk 3
      (.chk (.u (.lda 4) (.b (.idx 4) (.var 12) (.var 9)))
      (.eff false (some 14) (.alloc 39 [(.int .i64 0), (.int .i64 0), (.int .i64 0), (.slice none 0 0)])
      (.set 13 (.var 9)
      (.eff false none (.st 4 (.var 14) (.u (.lda 4) (.b (.idx 4) (.var 12) (.var 9))))
      (.chk (.slc none 4 (.var 0) (.lit (.int .i64 0)) (.var 13) .nl)
      (.chk (.fn 30 (.cn (.var 14) .nl))
      (.call false (some 16) 29 (.cn (.slc none 4 (.var 0) (.lit (.int .i64 0)) (.var 13) .nl) (.cn (.fn 30 (.cn (.var 14) .nl)) .nl))
      (.ite (.var 16)
       (.set 2 (.lit (.int .i64 6))
       .ret)
       .nxt)))))))))
    (.set 9 (.b (.bin .add) (.var 9) (.lit (.int .i64 1)))
    .nxt))))))
 (.set 2 (.lit (.int .i64 0))
 .ret)))))))))))
def f_bale_Check : Fun := ⟨s_bale_Check, [(.var 2)]⟩
abbrev v_bale_Check : List Nat := [0, 1, 4, 15, 14, 16, 13, 6, 7, 28, 27, 29, 26, 8, 9, 21, 37]
theorem c_bale_Check : compF P Go.Proofs.Try.f16 v_bale_Check = some f_bale_Check := by kernel_rfl
theorem of_bale_Check {args : List Value} (hn : args.length ≤ 39) {h : Heap} {R : Value → Heap → Prop} (hs : s_bale_Check.wp P (f_bale_Check.post R) (env0 v_bale_Check args) h) : Runs P n_bale_Check args h R := fn_of P_mixed Go.Proofs.Try.func16 c_bale_Check (by rw [Go.Proofs.Try.ntmps16]; exact hn) hs
theorem vr_bale_Check {kp : Bool} {args : List A} {H : List Blk} {R : A → List Blk → Prop} (hlen : args.length ≤ 39) (hk : kp = false ∨ H = []) (hw : (∀ B ∈ H, A.bdL H.length B.cells = true) → A.bdL H.length args = true → s_bale_Check.aw P H.length (postA H.length f_bale_Check R) (envA v_bale_Check args) H) : VR P kp n_bale_Check args H R := VR.of (F := f_bale_Check) (V := v_bale_Check) of_bale_Check hlen hk fun h1 h2 => aw_sound (hw h1 h2)
theorem r_bale_Check : Fun.res f_bale_Check = [(.var 2)] := rfl
abbrev g_bale_Check_0 : List Nat := [2, 3, 5, 7, 8, 15]
abbrev g_bale_Check_1 : List Nat := [2, 9, 11, 13, 14, 16]

/-- recycling/bale.Grams -/
abbrev n_bale_Grams : Nat := 18
def s_bale_Grams : S :=
 (.eff false (some 3) (.box 39 (.var 0))
 (.set 1 (.lit (.int .i64 0))
 (.set 2 (.lit (.int .i64 0))
 (.call false (some 4) 31 (.cn (.u .ld1 (.u (.fld 3) (.var 3))) .nl)
 (.chk (.u (.ext 0) (.var 4))
 (.chk (.u (.ext 1) (.var 4))
 (.set 1 (.u (.ext 0) (.var 4))
 (.set 2 (.u (.ext 1) (.var 4))
 .ret))))))))
def f_bale_Grams : Fun := ⟨s_bale_Grams, [(.var 1), (.var 2)]⟩
abbrev v_bale_Grams : List Nat := [0, 2, 3, 1, 6]
theorem c_bale_Grams : compF P Go.Proofs.Try.f18 v_bale_Grams = some f_bale_Grams := by kernel_rfl
theorem of_bale_Grams {args : List Value} (hn : args.length ≤ 9) {h : Heap} {R : Value → Heap → Prop} (hs : s_bale_Grams.wp P (f_bale_Grams.post R) (env0 v_bale_Grams args) h) : Runs P n_bale_Grams args h R := fn_of P_mixed Go.Proofs.Try.func18 c_bale_Grams (by rw [Go.Proofs.Try.ntmps18]; exact hn) hs
theorem vr_bale_Grams {kp : Bool} {args : List A} {H : List Blk} {R : A → List Blk → Prop} (hlen : args.length ≤ 9) (hk : kp = false ∨ H = []) (hw : (∀ B ∈ H, A.bdL H.length B.cells = true) → A.bdL H.length args = true → s_bale_Grams.aw P H.length (postA H.length f_bale_Grams R) (envA v_bale_Grams args) H) : VR P kp n_bale_Grams args H R := VR.of (F := f_bale_Grams) (V := v_bale_Grams) of_bale_Grams hlen hk fun h1 h2 => aw_sound (hw h1 h2)
theorem r_bale_Grams : Fun.res f_bale_Grams = [(.var 1), (.var 2)] := rfl

/-- recycling/recyclingref12.Total -/
abbrev n_ref12_Total : Nat := 19
def s_ref12_Total : S :=
 (.set 1 (.lit (.int .i64 0))
 (.set 2 (.lit (.int .i64 0))
 (.call false (some 6) 32 (.cn (.var 0) .nl)
 (.set 3 (.var 6)
 (.seq
  (.ite (.b (.bin .neq) (.var 3) (.lit (.int .i64 0)))
   (.set 1 (.lit (.int .i64 0))
   (.set 2 (.var 3)
   .ret))
   .nxt)
 (.set 4 (.lit (.int .i64 0))
 (.set 5 (.lit (.int .i64 0))
 (.seq
  (.blk 0
   (.loop
    (.seq
     (.ite (.b (.bin .lss) (.var 5) (.u .len (.var 0)))
      .nxt
      (.exit 0))
    (.seq
     (.blk 1
      (.set 4 (.b (.bin .add) (.var 4) (.u .ld1 (.b (.idx 1) (.var 0) (.var 5))))
      .nxt))
    (.set 5 (.b (.bin .add) (.var 5) (.lit (.int .i64 1)))
    .nxt)))))
 (.set 1 (.var 4)
 (.set 2 (.lit (.int .i64 0))
 .ret))))))))))
def f_ref12_Total : Fun := ⟨s_ref12_Total, [(.var 1), (.var 2)]⟩
abbrev v_ref12_Total : List Nat := [0, 2, 3, 4, 5, 6, 8]
theorem c_ref12_Total : compF P Go.Proofs.Try.f19 v_ref12_Total = some f_ref12_Total := by kernel_rfl
theorem of_ref12_Total {args : List Value} (hn : args.length ≤ 25) {h : Heap} {R : Value → Heap → Prop} (hs : s_ref12_Total.wp P (f_ref12_Total.post R) (env0 v_ref12_Total args) h) : Runs P n_ref12_Total args h R := fn_of P_mixed Go.Proofs.Try.func19 c_ref12_Total (by rw [Go.Proofs.Try.ntmps19]; exact hn) hs
theorem vr_ref12_Total {kp : Bool} {args : List A} {H : List Blk} {R : A → List Blk → Prop} (hlen : args.length ≤ 25) (hk : kp = false ∨ H = []) (hw : (∀ B ∈ H, A.bdL H.length B.cells = true) → A.bdL H.length args = true → s_ref12_Total.aw P H.length (postA H.length f_ref12_Total R) (envA v_ref12_Total args) H) : VR P kp n_ref12_Total args H R := VR.of (F := f_ref12_Total) (V := v_ref12_Total) of_ref12_Total hlen hk fun h1 h2 => aw_sound (hw h1 h2)
theorem r_ref12_Total : Fun.res f_ref12_Total = [(.var 1), (.var 2)] := rfl
abbrev g_ref12_Total_0 : List Nat := [4, 5]

/-- recycling/bale.Purity -/
abbrev n_bale_Purity : Nat := 20
def s_bale_Purity : S :=
 (.eff false (some 3) (.box 39 (.var 0))
 (.set 1 (.lit (.int .i64 0))
 (.set 2 (.lit (.int .i64 0))
 (.call false (some 4) 33 (.cn (.u .ld1 (.u (.fld 3) (.var 3))) (.cn (.u .ld1 (.u (.fld 1) (.var 3))) .nl))
 (.chk (.u (.ext 0) (.var 4))
 (.chk (.u (.ext 1) (.var 4))
 (.set 1 (.u (.ext 0) (.var 4))
 (.set 2 (.u (.ext 1) (.var 4))
 .ret))))))))
def f_bale_Purity : Fun := ⟨s_bale_Purity, [(.var 1), (.var 2)]⟩
abbrev v_bale_Purity : List Nat := [0, 2, 3, 1, 8]
theorem c_bale_Purity : compF P Go.Proofs.Try.f20 v_bale_Purity = some f_bale_Purity := by kernel_rfl
theorem of_bale_Purity {args : List Value} (hn : args.length ≤ 11) {h : Heap} {R : Value → Heap → Prop} (hs : s_bale_Purity.wp P (f_bale_Purity.post R) (env0 v_bale_Purity args) h) : Runs P n_bale_Purity args h R := fn_of P_mixed Go.Proofs.Try.func20 c_bale_Purity (by rw [Go.Proofs.Try.ntmps20]; exact hn) hs
theorem vr_bale_Purity {kp : Bool} {args : List A} {H : List Blk} {R : A → List Blk → Prop} (hlen : args.length ≤ 11) (hk : kp = false ∨ H = []) (hw : (∀ B ∈ H, A.bdL H.length B.cells = true) → A.bdL H.length args = true → s_bale_Purity.aw P H.length (postA H.length f_bale_Purity R) (envA v_bale_Purity args) H) : VR P kp n_bale_Purity args H R := VR.of (F := f_bale_Purity) (V := v_bale_Purity) of_bale_Purity hlen hk fun h1 h2 => aw_sound (hw h1 h2)
theorem r_bale_Purity : Fun.res f_bale_Purity = [(.var 1), (.var 2)] := rfl

/-- recycling/bale.Total -/
abbrev n_bale_Total : Nat := 22
def s_bale_Total : S :=
 (.set 2 (.lit (.slice none 0 0))
 (.set 3 (.lit (.int .i64 0))
 (.seq
  (.ite (.ite (.b (.bin .lss) (.var 1) (.lit (.int .i64 0))) (.lit (.bool true)) (.b (.bin .gtr) (.var 1) (.lit (.int .i64 16))))
   (.set 2 (.lit (.slice none 0 0))
   (.set 3 (.lit (.int .i64 1))
   .ret))
   .nxt)
 (.call false (some 13) 16 (.cn (.var 0) (.cn (.var 1) .nl))
 (.set 4 (.var 13)
 (.seq
  (.ite (.b (.bin .neq) (.var 4) (.lit (.int .i64 0)))
   (.set 2 (.lit (.slice none 0 0))
   (.set 3 (.var 4)
   .ret))
   .nxt)
 (.eff false (some 14) (.mk 3 1 8 [(.int .i64 0)] (.var 1) (.var 1))
 (.set 5 (.var 14)
 (.set 9 (.var 0)
 (.set 7 (.u .len (.var 9))
 (.set 6 (.lit (.int .i64 0))
 (.seq
  (.blk 0
   (.loop
    (.set 8 (.b (.bin .lss) (.var 6) (.var 7))
    (.seq
     (.ite (.var 8)
      .nxt
      (.exit 0))
    (.seq
     (.blk 1
      (.chk (.u (.lda 4) (.b (.idx 4) (.var 9) (.var 6)))
      (.eff false (some 10) (.alloc 39 [(.int .i64 0), (.int .i64 0), (.int .i64 0), (.slice none 0 0)])
      (.eff false none (.st 4 (.var 10) (.u (.lda 4) (.b (.idx 4) (.var 9) (.var 6))))
      (.call false (some 15) 34 (.cn (.var 5) (.cn (.u .ld1 (.u (.fld 3) (.var 10))) .nl))
      (.chk (.u (.ext 0) (.var 15))
      (.chk (.u (.ext 1) (.var 15))
      (.set 11 (.u (.ext 0) (.var 15))
      (.set 12 (.u (.ext 1) (.var 15))
      (.seq
       (.ite (.b (.bin .neq) (.var 12) (.lit (.int .i64 0)))
        (.set 2 (.lit (.slice none 0 0))
        (.set 3 (.var 12)
        .ret))
        .nxt)
      (.set 5 (.var 11)
      .nxt)))))))))))
    (.set 6 (.b (.bin .add) (.var 6) (.lit (.int .i64 1)))
    .nxt))))))
 (.set 2 (.var 5)
 (.set 3 (.lit (.int .i64 0))
 .ret))))))))))))))
def f_bale_Total : Fun := ⟨s_bale_Total, [(.var 2), (.var 3)]⟩
abbrev v_bale_Total : List Nat := [0, 1, 4, 5, 6, 7, 28, 27, 29, 26, 9, 10, 11, 20, 25, 36]
theorem c_bale_Total : compF P Go.Proofs.Try.f22 v_bale_Total = some f_bale_Total := by kernel_rfl
theorem of_bale_Total {args : List Value} (hn : args.length ≤ 45) {h : Heap} {R : Value → Heap → Prop} (hs : s_bale_Total.wp P (f_bale_Total.post R) (env0 v_bale_Total args) h) : Runs P n_bale_Total args h R := fn_of P_mixed Go.Proofs.Try.func22 c_bale_Total (by rw [Go.Proofs.Try.ntmps22]; exact hn) hs
theorem vr_bale_Total {kp : Bool} {args : List A} {H : List Blk} {R : A → List Blk → Prop} (hlen : args.length ≤ 45) (hk : kp = false ∨ H = []) (hw : (∀ B ∈ H, A.bdL H.length B.cells = true) → A.bdL H.length args = true → s_bale_Total.aw P H.length (postA H.length f_bale_Total R) (envA v_bale_Total args) H) : VR P kp n_bale_Total args H R := VR.of (F := f_bale_Total) (V := v_bale_Total) of_bale_Total hlen hk fun h1 h2 => aw_sound (hw h1 h2)
theorem r_bale_Total : Fun.res f_bale_Total = [(.var 2), (.var 3)] := rfl
abbrev g_bale_Total_0 : List Nat := [2, 3, 5, 6, 8, 10, 11, 12, 15]

/-- recycling/recyclinglaw38.near -/
abbrev n_law38_near : Nat := 25
def s_law38_near : S :=
 (.set 4 (.lit (.bool false))
 (.set 4 (.ite (.b (.bin .lss) (.b (.bin .mul) (.b (.bin .sub) (.var 0) (.lit (.int .i64 1))) (.var 3)) (.b (.bin .mul) (.var 1) (.var 2))) (.b (.bin .lss) (.b (.bin .mul) (.var 1) (.var 2)) (.b (.bin .mul) (.b (.bin .add) (.var 0) (.lit (.int .i64 1))) (.var 3))) (.lit (.bool false)))
 .ret))
def f_law38_near : Fun := ⟨s_law38_near, [(.var 4)]⟩
abbrev v_law38_near : List Nat := [0, 1, 2, 3, 8]
theorem c_law38_near : compF P Go.Proofs.Try.f25 v_law38_near = some f_law38_near := by kernel_rfl
theorem of_law38_near {args : List Value} (hn : args.length ≤ 27) {h : Heap} {R : Value → Heap → Prop} (hs : s_law38_near.wp P (f_law38_near.post R) (env0 v_law38_near args) h) : Runs P n_law38_near args h R := fn_of P_mixed Go.Proofs.Try.func25 c_law38_near (by rw [Go.Proofs.Try.ntmps25]; exact hn) hs
theorem vr_law38_near {kp : Bool} {args : List A} {H : List Blk} {R : A → List Blk → Prop} (hlen : args.length ≤ 27) (hk : kp = false ∨ H = []) (hw : (∀ B ∈ H, A.bdL H.length B.cells = true) → A.bdL H.length args = true → s_law38_near.aw P H.length (postA H.length f_law38_near R) (envA v_law38_near args) H) : VR P kp n_law38_near args H R := VR.of (F := f_law38_near) (V := v_law38_near) of_law38_near hlen hk fun h1 h2 => aw_sound (hw h1 h2)
theorem r_law38_near : Fun.res f_law38_near = [(.var 4)] := rfl

/-- recycling/bale.Press -/
abbrev n_bale_Press : Nat := 26
def s_bale_Press : S :=
 (.set 5 (.lit (.slice none 0 0))
 (.set 6 (.lit (.slice none 0 0))
 (.set 7 (.lit (.int .i64 0))
 (.call false (some 25) 31 (.cn (.var 0) .nl)
 (.chk (.u (.ext 0) (.var 25))
 (.chk (.u (.ext 1) (.var 25))
 (.set 8 (.u (.ext 0) (.var 25))
 (.set 9 (.u (.ext 1) (.var 25))
 (.seq
  (.ite (.b (.bin .neq) (.var 9) (.lit (.int .i64 0)))
   (.set 5 (.lit (.slice none 0 0))
   (.set 6 (.lit (.slice none 0 0))
   (.set 7 (.var 9)
   .ret)))
   .nxt)
 (.chk (.ite (.ite (.ite (.ite (.ite (.ite (.b (.bin .lss) (.var 1) (.lit (.int .i64 1))) (.lit (.bool true)) (.b (.bin .gtr) (.var 1) (.lit (.int .i64 1073741824)))) (.lit (.bool true)) (.b (.bin .lss) (.var 2) (.lit (.int .i64 0)))) (.lit (.bool true)) (.b (.bin .geq) (.var 2) (.u .len (.var 0)))) (.lit (.bool true)) (.b (.bin .lss) (.var 3) (.lit (.int .i64 1)))) (.lit (.bool true)) (.b (.bin .gtr) (.var 3) (.lit (.int .i64 1000000)))) (.lit undef) (.var 4))
 (.seq
  (.ite (.ite (.ite (.ite (.ite (.ite (.b (.bin .lss) (.var 1) (.lit (.int .i64 1))) (.lit (.bool true)) (.b (.bin .gtr) (.var 1) (.lit (.int .i64 1073741824)))) (.lit (.bool true)) (.b (.bin .lss) (.var 2) (.lit (.int .i64 0)))) (.lit (.bool true)) (.b (.bin .geq) (.var 2) (.u .len (.var 0)))) (.lit (.bool true)) (.b (.bin .lss) (.var 3) (.lit (.int .i64 1)))) (.lit (.bool true)) (.b (.bin .gtr) (.var 3) (.lit (.int .i64 1000000))))
   (.set 26 (.lit undef)
   (.ite (.lit (.bool true))
    (.set 5 (.lit (.slice none 0 0))
    (.set 6 (.lit (.slice none 0 0))
    (.set 7 (.lit (.int .i64 1))
    .ret)))
    .nxt))
   (.call false (some 26) 36 (.cn (.var 4) .nl)
   (.ite (.u (.un .not) (.var 26))
    (.set 5 (.lit (.slice none 0 0))
    (.set 6 (.lit (.slice none 0 0))
    (.set 7 (.lit (.int .i64 1))
    .ret)))
    .nxt)))
 (.set 10 (.b (.bin .quo) (.var 8) (.var 1))
 (.seq
  (.ite (.b (.bin .gtr) (.var 10) (.lit (.int .i64 64)))
   (.set 5 (.lit (.slice none 0 0))
   (.set 6 (.lit (.slice none 0 0))
   (.set 7 (.lit (.int .i64 8))
   .ret)))
   .nxt)
 (.seq
  (.ite (.b (.bin .gtr) (.b (.bin .sub) (.b (.bin .add) (.var 3) (.var 10)) (.lit (.int .i64 1))) (.lit (.int .i64 1000000)))
   (.set 5 (.lit (.slice none 0 0))
   (.set 6 (.lit (.slice none 0 0))
   (.set 7 (.lit (.int .i64 2))
   .ret)))
   .nxt)
 (.eff false (some 27) (.mk 3 1 8 [(.int .i64 0)] (.u .len (.var 0)) (.u .len (.var 0)))
 (.set 11 (.var 27)
 (.chk (.var 0)
 (.eff false none (.cpy 1 (.var 11) (.var 0))
 (.set 12 (.lit (.slice none 0 0))
 (.set 14 (.var 10)
 (.set 13 (.lit (.int .i64 0))
 (.seq
  (.blk 0
   (.loop
    (.set 15 (.b (.bin .lss) (.var 13) (.var 14))
    (.seq
     (.ite (.var 15)
      .nxt
      (.exit 0))
    (.seq
     (.blk 1
      (.set 16 (.var 13)
      (.call false (some 28) 37 (.cn (.var 1) (.cn (.var 11) .nl))
      (.chk (.u (.ext 0) (.var 28))
      (.chk (.u (.ext 1) (.var 28))
      (.set 17 (.u (.ext 0) (.var 28))
      (.set 18 (.u (.ext 1) (.var 28))
      (.seq
       (.ite (.b (.bin .neq) (.var 18) (.lit (.int .i64 0)))
        (.set 5 (.lit (.slice none 0 0))
        (.set 6 (.lit (.slice none 0 0))
        (.set 7 (.var 18)
        .ret)))
        .nxt)
      (.set 22 (.var 17)
      (.set 20 (.u .len (.var 22))
      (.set 19 (.lit (.int .i64 0))
      (.seq
       (.blk 2
        (.loop
         (.set 21 (.b (.bin .lss) (.var 19) (.var 20))
         (.seq
          (.ite (.var 21)
           .nxt
           (.exit 2))
         (.seq
          (.blk 3
           (.chk (.u .ld1 (.b (.idx 1) (.var 22) (.var 19)))
           (.set 23 (.var 19)
           (.set 24 (.u .ld1 (.b (.idx 1) (.var 22) (.var 19)))
           (.eff false none (.st 1 (.b (.idx 1) (.var 11) (.var 23)) (.b (.bin .sub) (.u .ld1 (.b (.idx 1) (.var 11) (.var 23))) (.var 24)))
           .nxt)))))
         (.set 19 (.b (.bin .add) (.var 19) (.lit (.int .i64 1)))
         .nxt))))))
      (.chk (.bld [(.int .i64 0), (.int .i64 0), (.int .i64 0), (.slice none 0 0)] (.pl 0 1 (.b (.bin .add) (.var 3) (.var 16)) (.pl 1 1 (.var 2) (.pl 2 1 (.var 4) (.pl 3 1 (.var 17) .nl)))))
      (.eff false (some 29) (.lit 39 4 1 [(.int .i64 0), (.int .i64 0), (.int .i64 0), (.slice none 0 0)] (.pl 0 4 (.bld [(.int .i64 0), (.int .i64 0), (.int .i64 0), (.slice none 0 0)] (.pl 0 1 (.b (.bin .add) (.var 3) (.var 16)) (.pl 1 1 (.var 2) (.pl 2 1 (.var 4) (.pl 3 1 (.var 17) .nl))))) .nl))
      (.eff false (some 30) (.app 39 4 48 [(.int .i64 0), (.int .i64 0), (.int .i64 0), (.slice none 0 0)] (.var 12) (.var 29))
      (.set 12 (.var 30)
      .nxt))))))))))))))))
    (.set 13 (.b (.bin .add) (.var 13) (.lit (.int .i64 1)))
    .nxt))))))
 (.set 5 (.var 12)
 (.set 6 (.var 11)
 (.set 7 (.lit (.int .i64 0))
 .ret)))))))))))))))))))))))))
def f_bale_Press : Fun := ⟨s_bale_Press, [(.var 5), (.var 6), (.var 7)]⟩
abbrev v_bale_Press : List Nat := [0, 1, 2, 3, 4, 10, 11, 12, 13, 14, 15, 16, 17, 77, 76, 78, 18, 19, 20, 91, 90, 92, 89, 21, 22, 25, 57, 72, 83, 112, 113]
theorem c_bale_Press : compF P Go.Proofs.Try.f26 v_bale_Press = some f_bale_Press := by kernel_rfl
theorem of_bale_Press {args : List Value} (hn : args.length ≤ 117) {h : Heap} {R : Value → Heap → Prop} (hs : s_bale_Press.wp P (f_bale_Press.post R) (env0 v_bale_Press args) h) : Runs P n_bale_Press args h R := fn_of P_mixed Go.Proofs.Try.func26 c_bale_Press (by rw [Go.Proofs.Try.ntmps26]; exact hn) hs
theorem vr_bale_Press {kp : Bool} {args : List A} {H : List Blk} {R : A → List Blk → Prop} (hlen : args.length ≤ 117) (hk : kp = false ∨ H = []) (hw : (∀ B ∈ H, A.bdL H.length B.cells = true) → A.bdL H.length args = true → s_bale_Press.aw P H.length (postA H.length f_bale_Press R) (envA v_bale_Press args) H) : VR P kp n_bale_Press args H R := VR.of (F := f_bale_Press) (V := v_bale_Press) of_bale_Press hlen hk fun h1 h2 => aw_sound (hw h1 h2)
theorem r_bale_Press : Fun.res f_bale_Press = [(.var 5), (.var 6), (.var 7)] := rfl
abbrev g_bale_Press_0 : List Nat := [5, 6, 7, 12, 13, 15, 16, 17, 18, 19, 20, 21, 22, 23, 24, 28, 29, 30]
abbrev g_bale_Press_1 : List Nat := [19, 21, 23, 24]

/-- recycling/bale.one -/
abbrev n_bale_one : Nat := 28
def s_bale_one : S :=
 (.eff false (some 3) (.box 39 (.var 0))
 (.set 2 (.lit (.int .i64 0))
 (.chk (.ite (.ite (.ite (.ite (.b (.bin .lss) (.u .ld1 (.u (.fld 0) (.var 3))) (.lit (.int .i64 1))) (.lit (.bool true)) (.b (.bin .gtr) (.u .ld1 (.u (.fld 0) (.var 3))) (.lit (.int .i64 1000000)))) (.lit (.bool true)) (.b (.bin .lss) (.u .ld1 (.u (.fld 1) (.var 3))) (.lit (.int .i64 0)))) (.lit (.bool true)) (.b (.bin .geq) (.u .ld1 (.u (.fld 1) (.var 3))) (.var 1))) (.lit undef) (.u .ld1 (.u (.fld 2) (.var 3))))
 (.seq
  (.ite (.ite (.ite (.ite (.b (.bin .lss) (.u .ld1 (.u (.fld 0) (.var 3))) (.lit (.int .i64 1))) (.lit (.bool true)) (.b (.bin .gtr) (.u .ld1 (.u (.fld 0) (.var 3))) (.lit (.int .i64 1000000)))) (.lit (.bool true)) (.b (.bin .lss) (.u .ld1 (.u (.fld 1) (.var 3))) (.lit (.int .i64 0)))) (.lit (.bool true)) (.b (.bin .geq) (.u .ld1 (.u (.fld 1) (.var 3))) (.var 1)))
   (.set 9 (.lit undef)
   (.ite (.lit (.bool true))
    (.set 2 (.lit (.int .i64 1))
    .ret)
    .nxt))
   (.call false (some 9) 36 (.cn (.u .ld1 (.u (.fld 2) (.var 3))) .nl)
   (.ite (.u (.un .not) (.var 9))
    (.set 2 (.lit (.int .i64 1))
    .ret)
    .nxt)))
 (.call false (some 10) 31 (.cn (.u .ld1 (.u (.fld 3) (.var 3))) .nl)
 (.chk (.u (.ext 0) (.var 10))
 (.chk (.u (.ext 1) (.var 10))
 (.set 4 (.u (.ext 0) (.var 10))
 (.set 5 (.u (.ext 1) (.var 10))
 (.seq
  (.blk 0
   (.set 6 (.b (.bin .neq) (.var 5) (.lit (.int .i64 0)))
   (.ite (.var 6)
    (.set 2 (.var 5)
    .ret)
    (.set 7 (.b (.bin .neq) (.u .len (.u .ld1 (.u (.fld 3) (.var 3)))) (.var 1))
    (.ite (.var 7)
     (.set 2 (.lit (.int .i64 18))
     .ret)
     (.set 8 (.b (.bin .eql) (.var 4) (.lit (.int .i64 0)))
     (.ite (.var 8)
      (.set 2 (.lit (.int .i64 10))
      .ret)
      .nxt)))))))
 (.set 2 (.lit (.int .i64 0))
 .ret)))))))))))
def f_bale_one : Fun := ⟨s_bale_one, [(.var 2)]⟩
abbrev v_bale_one : List Nat := [0, 1, 4, 2, 5, 6, 38, 42, 48, 29, 35]
theorem c_bale_one : compF P Go.Proofs.Try.f28 v_bale_one = some f_bale_one := by kernel_rfl
theorem of_bale_one {args : List Value} (hn : args.length ≤ 51) {h : Heap} {R : Value → Heap → Prop} (hs : s_bale_one.wp P (f_bale_one.post R) (env0 v_bale_one args) h) : Runs P n_bale_one args h R := fn_of P_mixed Go.Proofs.Try.func28 c_bale_one (by rw [Go.Proofs.Try.ntmps28]; exact hn) hs
theorem vr_bale_one {kp : Bool} {args : List A} {H : List Blk} {R : A → List Blk → Prop} (hlen : args.length ≤ 51) (hk : kp = false ∨ H = []) (hw : (∀ B ∈ H, A.bdL H.length B.cells = true) → A.bdL H.length args = true → s_bale_one.aw P H.length (postA H.length f_bale_one R) (envA v_bale_one args) H) : VR P kp n_bale_one args H R := VR.of (F := f_bale_one) (V := v_bale_one) of_bale_one hlen hk fun h1 h2 => aw_sound (hw h1 h2)
theorem r_bale_one : Fun.res f_bale_one = [(.var 2)] := rfl

/-- slices.ContainsFunc[[]recycling/api.Bale,recycling/api.Bale] -/
abbrev n_slices_ContainsFuncapi_Bale_api_Bale : Nat := 29
def s_slices_ContainsFuncapi_Bale_api_Bale : S :=
 (.set 2 (.lit (.bool false))
 (.call false (some 3) 40 (.cn (.var 0) (.cn (.var 1) .nl))
 (.set 2 (.b (.bin .geq) (.var 3) (.lit (.int .i64 0)))
 .ret)))
def f_slices_ContainsFuncapi_Bale_api_Bale : Fun := ⟨s_slices_ContainsFuncapi_Bale_api_Bale, [(.var 2)]⟩
abbrev v_slices_ContainsFuncapi_Bale_api_Bale : List Nat := [0, 1, 4, 7]
theorem c_slices_ContainsFuncapi_Bale_api_Bale : compF P Go.Proofs.Try.f29 v_slices_ContainsFuncapi_Bale_api_Bale = some f_slices_ContainsFuncapi_Bale_api_Bale := by kernel_rfl
theorem of_slices_ContainsFuncapi_Bale_api_Bale {args : List Value} (hn : args.length ≤ 9) {h : Heap} {R : Value → Heap → Prop} (hs : s_slices_ContainsFuncapi_Bale_api_Bale.wp P (f_slices_ContainsFuncapi_Bale_api_Bale.post R) (env0 v_slices_ContainsFuncapi_Bale_api_Bale args) h) : Runs P n_slices_ContainsFuncapi_Bale_api_Bale args h R := fn_of P_mixed Go.Proofs.Try.func29 c_slices_ContainsFuncapi_Bale_api_Bale (by rw [Go.Proofs.Try.ntmps29]; exact hn) hs
theorem vr_slices_ContainsFuncapi_Bale_api_Bale {kp : Bool} {args : List A} {H : List Blk} {R : A → List Blk → Prop} (hlen : args.length ≤ 9) (hk : kp = false ∨ H = []) (hw : (∀ B ∈ H, A.bdL H.length B.cells = true) → A.bdL H.length args = true → s_slices_ContainsFuncapi_Bale_api_Bale.aw P H.length (postA H.length f_slices_ContainsFuncapi_Bale_api_Bale R) (envA v_slices_ContainsFuncapi_Bale_api_Bale args) H) : VR P kp n_slices_ContainsFuncapi_Bale_api_Bale args H R := VR.of (F := f_slices_ContainsFuncapi_Bale_api_Bale) (V := v_slices_ContainsFuncapi_Bale_api_Bale) of_slices_ContainsFuncapi_Bale_api_Bale hlen hk fun h1 h2 => aw_sound (hw h1 h2)
theorem r_slices_ContainsFuncapi_Bale_api_Bale : Fun.res f_slices_ContainsFuncapi_Bale_api_Bale = [(.var 2)] := rfl

/-- recycling/bale.Check$1 -/
abbrev n_bale_Check_1 : Nat := 30
def s_bale_Check_1 : S :=
 (.eff false (some 3) (.box 39 (.var 0))
 (.set 2 (.lit (.bool false))
 (.set 2 (.b (.bin .eql) (.u .ld1 (.u (.fld 0) (.var 3))) (.u .ld1 (.u (.fld 0) (.var 1))))
 .ret)))
def f_bale_Check_1 : Fun := ⟨s_bale_Check_1, [(.var 2)]⟩
abbrev v_bale_Check_1 : List Nat := [0, 1, 3, 2]
theorem c_bale_Check_1 : compF P Go.Proofs.Try.f30 v_bale_Check_1 = some f_bale_Check_1 := by kernel_rfl
theorem of_bale_Check_1 {args : List Value} (hn : args.length ≤ 9) {h : Heap} {R : Value → Heap → Prop} (hs : s_bale_Check_1.wp P (f_bale_Check_1.post R) (env0 v_bale_Check_1 args) h) : Runs P n_bale_Check_1 args h R := fn_of P_mixed Go.Proofs.Try.func30 c_bale_Check_1 (by rw [Go.Proofs.Try.ntmps30]; exact hn) hs
theorem vr_bale_Check_1 {kp : Bool} {args : List A} {H : List Blk} {R : A → List Blk → Prop} (hlen : args.length ≤ 9) (hk : kp = false ∨ H = []) (hw : (∀ B ∈ H, A.bdL H.length B.cells = true) → A.bdL H.length args = true → s_bale_Check_1.aw P H.length (postA H.length f_bale_Check_1 R) (envA v_bale_Check_1 args) H) : VR P kp n_bale_Check_1 args H R := VR.of (F := f_bale_Check_1) (V := v_bale_Check_1) of_bale_Check_1 hlen hk fun h1 h2 => aw_sound (hw h1 h2)
theorem r_bale_Check_1 : Fun.res f_bale_Check_1 = [(.var 2)] := rfl

/-- recycling/material.Total -/
abbrev n_material_Total : Nat := 31
def s_material_Total : S :=
 (.set 1 (.lit (.int .i64 0))
 (.set 2 (.lit (.int .i64 0))
 (.eff false (some 10) (.lit 23 1 1 [(.slice none 0 0)] (.pl 0 1 (.var 0) .nl))
 (.call false (some 11) 41 (.cn (.var 10) .nl)
 (.set 3 (.var 11)
 (.seq
  (.ite (.b (.bin .neq) (.var 3) (.lit (.int .i64 0)))
   (.set 1 (.lit (.int .i64 0))
   (.set 2 (.var 3)
   .ret))
   .nxt)
 (.set 4 (.lit (.int .i64 0))
 (.set 8 (.var 0)
 (.set 6 (.u .len (.var 8))
 (.set 5 (.lit (.int .i64 0))
 (.seq
  (.blk 0
   (.loop
    (.set 7 (.b (.bin .lss) (.var 5) (.var 6))
    (.seq
     (.ite (.var 7)
      .nxt
      (.exit 0))
    (.seq
     (.blk 1
      (.set 9 (.u .ld1 (.b (.idx 1) (.var 8) (.var 5)))
      (.set 4 (.b (.bin .add) (.var 4) (.var 9))
      .nxt)))
    (.set 5 (.b (.bin .add) (.var 5) (.lit (.int .i64 1)))
    .nxt))))))
 (.set 1 (.var 4)
 (.set 2 (.lit (.int .i64 0))
 .ret)))))))))))))
def f_material_Total : Fun := ⟨s_material_Total, [(.var 1), (.var 2)]⟩
abbrev v_material_Total : List Nat := [0, 2, 3, 4, 5, 16, 15, 17, 14, 7, 9, 10]
theorem c_material_Total : compF P Go.Proofs.Try.f31 v_material_Total = some f_material_Total := by kernel_rfl
theorem of_material_Total {args : List Value} (hn : args.length ≤ 25) {h : Heap} {R : Value → Heap → Prop} (hs : s_material_Total.wp P (f_material_Total.post R) (env0 v_material_Total args) h) : Runs P n_material_Total args h R := fn_of P_mixed Go.Proofs.Try.func31 c_material_Total (by rw [Go.Proofs.Try.ntmps31]; exact hn) hs
theorem vr_material_Total {kp : Bool} {args : List A} {H : List Blk} {R : A → List Blk → Prop} (hlen : args.length ≤ 25) (hk : kp = false ∨ H = []) (hw : (∀ B ∈ H, A.bdL H.length B.cells = true) → A.bdL H.length args = true → s_material_Total.aw P H.length (postA H.length f_material_Total R) (envA v_material_Total args) H) : VR P kp n_material_Total args H R := VR.of (F := f_material_Total) (V := v_material_Total) of_material_Total hlen hk fun h1 h2 => aw_sound (hw h1 h2)
theorem r_material_Total : Fun.res f_material_Total = [(.var 1), (.var 2)] := rfl
abbrev g_material_Total_0 : List Nat := [4, 5, 7, 9]

/-- recycling/recyclingref12.Fault -/
abbrev n_ref12_Fault : Nat := 32
def s_ref12_Fault : S :=
 (.set 1 (.lit (.int .i64 0))
 (.seq
  (.ite (.b (.bin .gtr) (.u .len (.var 0)) (.lit (.int .i64 16)))
   (.set 1 (.lit (.int .i64 18))
   .ret)
   .nxt)
 (.set 2 (.lit (.int .i64 0))
 (.seq
  (.blk 0
   (.loop
    (.seq
     (.ite (.b (.bin .lss) (.var 2) (.u .len (.var 0)))
      .nxt
      (.exit 0))
    (.seq
     (.blk 1
      (.ite (.ite (.b (.bin .lss) (.u .ld1 (.b (.idx 1) (.var 0) (.var 2))) (.lit (.int .i64 0))) (.lit (.bool true)) (.b (.bin .gtr) (.u .ld1 (.b (.idx 1) (.var 0) (.var 2))) (.lit (.int .i64 1073741824))))
       (.set 1 (.lit (.int .i64 1))
       .ret)
       .nxt))
    (.set 2 (.b (.bin .add) (.var 2) (.lit (.int .i64 1)))
    .nxt)))))
 (.set 1 (.lit (.int .i64 0))
 .ret)))))
def f_ref12_Fault : Fun := ⟨s_ref12_Fault, [(.var 1)]⟩
abbrev v_ref12_Fault : List Nat := [0, 2, 3]
theorem c_ref12_Fault : compF P Go.Proofs.Try.f32 v_ref12_Fault = some f_ref12_Fault := by kernel_rfl
theorem of_ref12_Fault {args : List Value} (hn : args.length ≤ 25) {h : Heap} {R : Value → Heap → Prop} (hs : s_ref12_Fault.wp P (f_ref12_Fault.post R) (env0 v_ref12_Fault args) h) : Runs P n_ref12_Fault args h R := fn_of P_mixed Go.Proofs.Try.func32 c_ref12_Fault (by rw [Go.Proofs.Try.ntmps32]; exact hn) hs
theorem vr_ref12_Fault {kp : Bool} {args : List A} {H : List Blk} {R : A → List Blk → Prop} (hlen : args.length ≤ 25) (hk : kp = false ∨ H = []) (hw : (∀ B ∈ H, A.bdL H.length B.cells = true) → A.bdL H.length args = true → s_ref12_Fault.aw P H.length (postA H.length f_ref12_Fault R) (envA v_ref12_Fault args) H) : VR P kp n_ref12_Fault args H R := VR.of (F := f_ref12_Fault) (V := v_ref12_Fault) of_ref12_Fault hlen hk fun h1 h2 => aw_sound (hw h1 h2)
theorem r_ref12_Fault : Fun.res f_ref12_Fault = [(.var 1)] := rfl
abbrev g_ref12_Fault_0 : List Nat := [1, 2]

/-- recycling/material.Purity -/
abbrev n_material_Purity : Nat := 33
def s_material_Purity : S :=
 (.set 2 (.lit (.int .i64 0))
 (.set 3 (.lit (.int .i64 0))
 (.call false (some 9) 31 (.cn (.var 0) .nl)
 (.chk (.u (.ext 0) (.var 9))
 (.chk (.u (.ext 1) (.var 9))
 (.set 4 (.u (.ext 0) (.var 9))
 (.set 5 (.u (.ext 1) (.var 9))
 (.seq
  (.blk 0
   (.set 6 (.b (.bin .neq) (.var 5) (.lit (.int .i64 0)))
   (.ite (.var 6)
    (.set 2 (.lit (.int .i64 0))
    (.set 3 (.var 5)
    .ret))
    (.set 7 (.ite (.b (.bin .lss) (.var 1) (.lit (.int .i64 0))) (.lit (.bool true)) (.b (.bin .geq) (.var 1) (.u .len (.var 0))))
    (.ite (.var 7)
     (.set 2 (.lit (.int .i64 0))
     (.set 3 (.lit (.int .i64 1))
     .ret))
     (.set 8 (.b (.bin .eql) (.var 4) (.lit (.int .i64 0)))
     (.ite (.var 8)
      (.set 2 (.lit (.int .i64 0))
      (.set 3 (.lit (.int .i64 10))
      .ret))
      .nxt)))))))
 (.set 2 (.b (.bin .quo) (.b (.bin .mul) (.u .ld1 (.b (.idx 1) (.var 0) (.var 1))) (.lit (.int .i64 1000))) (.var 4))
 (.set 3 (.lit (.int .i64 0))
 .ret))))))))))
def f_material_Purity : Fun := ⟨s_material_Purity, [(.var 2), (.var 3)]⟩
abbrev v_material_Purity : List Nat := [0, 1, 4, 5, 6, 7, 13, 17, 26, 10]
theorem c_material_Purity : compF P Go.Proofs.Try.f33 v_material_Purity = some f_material_Purity := by kernel_rfl
theorem of_material_Purity {args : List Value} (hn : args.length ≤ 36) {h : Heap} {R : Value → Heap → Prop} (hs : s_material_Purity.wp P (f_material_Purity.post R) (env0 v_material_Purity args) h) : Runs P n_material_Purity args h R := fn_of P_mixed Go.Proofs.Try.func33 c_material_Purity (by rw [Go.Proofs.Try.ntmps33]; exact hn) hs
theorem vr_material_Purity {kp : Bool} {args : List A} {H : List Blk} {R : A → List Blk → Prop} (hlen : args.length ≤ 36) (hk : kp = false ∨ H = []) (hw : (∀ B ∈ H, A.bdL H.length B.cells = true) → A.bdL H.length args = true → s_material_Purity.aw P H.length (postA H.length f_material_Purity R) (envA v_material_Purity args) H) : VR P kp n_material_Purity args H R := VR.of (F := f_material_Purity) (V := v_material_Purity) of_material_Purity hlen hk fun h1 h2 => aw_sound (hw h1 h2)
theorem r_material_Purity : Fun.res f_material_Purity = [(.var 2), (.var 3)] := rfl

/-- recycling/material.Add -/
abbrev n_material_Add : Nat := 34
def s_material_Add : S :=
 (.set 2 (.lit (.slice none 0 0))
 (.set 3 (.lit (.int .i64 0))
 (.call false (some 4) 42 (.cn (.var 0) (.cn (.var 1) (.cn (.lit (.func (.func 43) #[] #[])) (.cn (.lit (.int .i64 2)) .nl))))
 (.chk (.u (.ext 0) (.var 4))
 (.chk (.u (.ext 1) (.var 4))
 (.set 2 (.u (.ext 0) (.var 4))
 (.set 3 (.u (.ext 1) (.var 4))
 .ret)))))))
def f_material_Add : Fun := ⟨s_material_Add, [(.var 2), (.var 3)]⟩
abbrev v_material_Add : List Nat := [0, 1, 4, 5, 8]
theorem c_material_Add : compF P Go.Proofs.Try.f34 v_material_Add = some f_material_Add := by kernel_rfl
theorem of_material_Add {args : List Value} (hn : args.length ≤ 11) {h : Heap} {R : Value → Heap → Prop} (hs : s_material_Add.wp P (f_material_Add.post R) (env0 v_material_Add args) h) : Runs P n_material_Add args h R := fn_of P_mixed Go.Proofs.Try.func34 c_material_Add (by rw [Go.Proofs.Try.ntmps34]; exact hn) hs
theorem vr_material_Add {kp : Bool} {args : List A} {H : List Blk} {R : A → List Blk → Prop} (hlen : args.length ≤ 11) (hk : kp = false ∨ H = []) (hw : (∀ B ∈ H, A.bdL H.length B.cells = true) → A.bdL H.length args = true → s_material_Add.aw P H.length (postA H.length f_material_Add R) (envA v_material_Add args) H) : VR P kp n_material_Add args H R := VR.of (F := f_material_Add) (V := v_material_Add) of_material_Add hlen hk fun h1 h2 => aw_sound (hw h1 h2)
theorem r_material_Add : Fun.res f_material_Add = [(.var 2), (.var 3)] := rfl

/-- recycling/bale.moment -/
abbrev n_bale_moment : Nat := 36
def s_bale_moment : S :=
 (.set 1 (.lit (.bool false))
 (.set 1 (.ite (.b (.bin .geq) (.var 0) (.lit (.int .i64 0))) (.b (.bin .leq) (.var 0) (.lit (.int .i64 3155759999))) (.lit (.bool false)))
 .ret))
def f_bale_moment : Fun := ⟨s_bale_moment, [(.var 1)]⟩
abbrev v_bale_moment : List Nat := [0, 2]
theorem c_bale_moment : compF P Go.Proofs.Try.f36 v_bale_moment = some f_bale_moment := by kernel_rfl
theorem of_bale_moment {args : List Value} (hn : args.length ≤ 9) {h : Heap} {R : Value → Heap → Prop} (hs : s_bale_moment.wp P (f_bale_moment.post R) (env0 v_bale_moment args) h) : Runs P n_bale_moment args h R := fn_of P_mixed Go.Proofs.Try.func36 c_bale_moment (by rw [Go.Proofs.Try.ntmps36]; exact hn) hs
theorem vr_bale_moment {kp : Bool} {args : List A} {H : List Blk} {R : A → List Blk → Prop} (hlen : args.length ≤ 9) (hk : kp = false ∨ H = []) (hw : (∀ B ∈ H, A.bdL H.length B.cells = true) → A.bdL H.length args = true → s_bale_moment.aw P H.length (postA H.length f_bale_moment R) (envA v_bale_moment args) H) : VR P kp n_bale_moment args H R := VR.of (F := f_bale_moment) (V := v_bale_moment) of_bale_moment hlen hk fun h1 h2 => aw_sound (hw h1 h2)
theorem r_bale_moment : Fun.res f_bale_moment = [(.var 1)] := rfl

/-- recycling/share.Split -/
abbrev n_share_Split : Nat := 37
def s_share_Split : S :=
 (.set 2 (.lit (.slice none 0 0))
 (.set 3 (.lit (.int .i64 0))
 (.seq
  (.ite (.ite (.b (.bin .lss) (.var 0) (.lit (.int .i64 0))) (.lit (.bool true)) (.b (.bin .gtr) (.var 0) (.lit (.int .i64 70368744177664))))
   (.set 2 (.lit (.slice none 0 0))
   (.set 3 (.lit (.int .i64 1))
   .ret))
   .nxt)
 (.call false (some 25) 44 (.cn (.var 1) .nl)
 (.chk (.u (.ext 0) (.var 25))
 (.chk (.u (.ext 1) (.var 25))
 (.set 4 (.u (.ext 0) (.var 25))
 (.set 5 (.u (.ext 1) (.var 25))
 (.seq
  (.ite (.b (.bin .neq) (.var 5) (.lit (.int .i64 0)))
   (.set 2 (.lit (.slice none 0 0))
   (.set 3 (.var 5)
   .ret))
   .nxt)
 (.seq
  (.ite (.ite (.b (.bin .eql) (.var 4) (.lit (.int .i64 0))) (.b (.bin .gtr) (.var 0) (.lit (.int .i64 0))) (.lit (.bool false)))
   (.set 2 (.lit (.slice none 0 0))
   (.set 3 (.lit (.int .i64 10))
   .ret))
   .nxt)
 (.eff false (some 26) (.mk 3 1 8 [(.int .i64 0)] (.u .len (.var 1)) (.u .len (.var 1)))
 (.eff false (some 30) (.mk 3 1 8 [(.int .i64 0)] (.u .len (.var 1)) (.u .len (.var 1)))
 (.eff false (some 31) (.mk 3 1 8 [(.int .i64 0)] (.u .len (.var 1)) (.u .len (.var 1)))
 (.eff false (some 19) (.alloc 22 [(.slice none 0 0)])
 (.set 6 (.var 26)
 (.eff false none (.st 1 (.var 19) (.var 30))
 (.set 7 (.var 31)
 (.set 8 (.var 0)
 (.set 12 (.var 1)
 (.set 10 (.u .len (.var 12))
 (.set 9 (.lit (.int .i64 0))
 (.seq
  (.blk 0
   (.loop
    (.set 11 (.b (.bin .lss) (.var 9) (.var 10))
    (.seq
     (.ite (.var 11)
      .nxt
      (.exit 0))
    (.seq
     (.blk 1
      (.chk (.u .ld1 (.b (.idx 1) (.var 12) (.var 9)))
      (.set 13 (.var 9)
      (.set 14 (.u .ld1 (.b (.idx 1) (.var 12) (.var 9)))
      (.eff false none (.st 1 (.b (.idx 1) (.var 7) (.var 13)) (.var 13))
      (.seq
       (.ite (.b (.bin .gtr) (.var 4) (.lit (.int .i64 0)))
        (.call false (some 27) 45 (.cn (.u (.conv .u64) (.var 0)) (.cn (.u (.conv .u64) (.var 14)) .nl))
        (.chk (.u (.ext 0) (.var 27))
        (.chk (.u (.ext 1) (.var 27))
        (.set 15 (.u (.ext 0) (.var 27))
        (.set 16 (.u (.ext 1) (.var 27))
        (.call false (some 28) 46 (.cn (.var 15) (.cn (.var 16) (.cn (.u (.conv .u64) (.var 4)) .nl)))
        (.chk (.u (.ext 0) (.var 28))
        (.chk (.u (.ext 1) (.var 28))
        (.set 17 (.u (.ext 0) (.var 28))
        (.set 18 (.u (.ext 1) (.var 28))
        (.both
         (.set 29 (.u .ld1 (.var 19))
         (.chk (.u (.conv .i64) (.var 17))
         (.chk (.u (.conv .i64) (.var 18))
         (.eff false none (.st 1 (.b (.idx 1) (.var 6) (.var 13)) (.u (.conv .i64) (.var 17)))
         (.eff false none (.st 1 (.b (.idx 1) (.var 29) (.var 13)) (.u (.conv .i64) (.var 18)))
         .nxt)))))
         (.chk (.u (.conv .i64) (.var 17))
         (.chk (.u (.conv .i64) (.var 18))
         (.eff false none (.st 1 (.b (.idx 1) (.var 6) (.var 13)) (.u (.conv .i64) (.var 17)))
         (.set 29 (.u .ld1 (.var 19))
         (.eff false none (.st 1 (.b (.idx 1) (.var 29) (.var 13)) (.u (.conv .i64) (.var 18)))
         .nxt))))))))))))))))
        .nxt)
      (.set 8 (.b (.bin .sub) (.var 8) (.u .ld1 (.b (.idx 1) (.var 6) (.var 13))))
      .nxt)))))))
    (.set 9 (.b (.bin .add) (.var 9) (.lit (.int .i64 1)))
    .nxt))))))
 (.chk (.fn 48 (.cn (.var 19) .nl))
 (.call false none 47 (.cn (.var 7) (.cn (.fn 48 (.cn (.var 19) .nl)) .nl))
 (.set 23 (.slc none 1 (.var 7) (.lit (.int .i64 0)) (.var 8) .nl)
 (.set 21 (.u .len (.var 23))
 (.set 20 (.lit (.int .i64 0))
 (.seq
  (.blk 2
   (.loop
    (.set 22 (.b (.bin .lss) (.var 20) (.var 21))
    (.seq
     (.ite (.var 22)
      .nxt
      (.exit 2))
    (.seq
     (.blk 3
      (.set 24 (.u .ld1 (.b (.idx 1) (.var 23) (.var 20)))
      (.eff false none (.st 1 (.b (.idx 1) (.var 6) (.var 24)) (.b (.bin .add) (.u .ld1 (.b (.idx 1) (.var 6) (.var 24))) (.lit (.int .i64 1))))
      .nxt)))
    (.set 20 (.b (.bin .add) (.var 20) (.lit (.int .i64 1)))
    .nxt))))))
 (.set 2 (.var 6)
 (.set 3 (.lit (.int .i64 0))
 .ret))))))))))))))))))))))))))))))
def f_share_Split : Fun := ⟨s_share_Split, [(.var 2), (.var 3)]⟩
abbrev v_share_Split : List Nat := [0, 1, 4, 5, 6, 7, 8, 10, 11, 52, 51, 53, 50, 12, 13, 14, 15, 16, 17, 9, 103, 102, 104, 101, 19, 28, 42, 68, 76, 81, 45, 48]
theorem c_share_Split : compF P Go.Proofs.Try.f37 v_share_Split = some f_share_Split := by kernel_rfl
theorem of_share_Split {args : List Value} (hn : args.length ≤ 115) {h : Heap} {R : Value → Heap → Prop} (hs : s_share_Split.wp P (f_share_Split.post R) (env0 v_share_Split args) h) : Runs P n_share_Split args h R := fn_of P_mixed Go.Proofs.Try.func37 c_share_Split (by rw [Go.Proofs.Try.ntmps37]; exact hn) hs
theorem vr_share_Split {kp : Bool} {args : List A} {H : List Blk} {R : A → List Blk → Prop} (hlen : args.length ≤ 115) (hk : kp = false ∨ H = []) (hw : (∀ B ∈ H, A.bdL H.length B.cells = true) → A.bdL H.length args = true → s_share_Split.aw P H.length (postA H.length f_share_Split R) (envA v_share_Split args) H) : VR P kp n_share_Split args H R := VR.of (F := f_share_Split) (V := v_share_Split) of_share_Split hlen hk fun h1 h2 => aw_sound (hw h1 h2)
theorem r_share_Split : Fun.res f_share_Split = [(.var 2), (.var 3)] := rfl
abbrev g_share_Split_0 : List Nat := [8, 9, 11, 13, 14, 15, 16, 17, 18, 27, 28, 29]
abbrev g_share_Split_1 : List Nat := [20, 22, 24]

/-- slices.IndexFunc[[]recycling/api.Bale,recycling/api.Bale] -/
abbrev n_slices_IndexFuncapi_Bale_api_Bale : Nat := 40
def s_slices_IndexFuncapi_Bale_api_Bale : S :=
 (.set 2 (.lit (.int .i64 0))
 (.set 4 (.u .len (.var 0))
 (.set 3 (.lit (.int .i64 0))
 (.seq
  (.blk 0
   (.loop
    (.set 5 (.b (.bin .lss) (.var 3) (.var 4))
    (.seq
     (.ite (.var 5)
      .nxt
      (.exit 0))
    (.seq
     (.blk 1
      (.set 6 (.var 3)
      (.callv false (some 7) (.var 1) (.cn (.u (.lda 4) (.b (.idx 4) (.var 0) (.var 6))) .nl)
      (.ite (.var 7)
       (.set 2 (.var 6)
       .ret)
       .nxt))))
    (.set 3 (.b (.bin .add) (.var 3) (.lit (.int .i64 1)))
    .nxt))))))
 (.set 2 (.lit (.int .i64 (-1)))
 .ret)))))
def f_slices_IndexFuncapi_Bale_api_Bale : Fun := ⟨s_slices_IndexFuncapi_Bale_api_Bale, [(.var 2)]⟩
abbrev v_slices_IndexFuncapi_Bale_api_Bale : List Nat := [0, 1, 4, 8, 7, 9, 5, 16]
theorem c_slices_IndexFuncapi_Bale_api_Bale : compF P Go.Proofs.Try.f40 v_slices_IndexFuncapi_Bale_api_Bale = some f_slices_IndexFuncapi_Bale_api_Bale := by kernel_rfl
theorem of_slices_IndexFuncapi_Bale_api_Bale {args : List Value} (hn : args.length ≤ 19) {h : Heap} {R : Value → Heap → Prop} (hs : s_slices_IndexFuncapi_Bale_api_Bale.wp P (f_slices_IndexFuncapi_Bale_api_Bale.post R) (env0 v_slices_IndexFuncapi_Bale_api_Bale args) h) : Runs P n_slices_IndexFuncapi_Bale_api_Bale args h R := fn_of P_mixed Go.Proofs.Try.func40 c_slices_IndexFuncapi_Bale_api_Bale (by rw [Go.Proofs.Try.ntmps40]; exact hn) hs
theorem vr_slices_IndexFuncapi_Bale_api_Bale {kp : Bool} {args : List A} {H : List Blk} {R : A → List Blk → Prop} (hlen : args.length ≤ 19) (hk : kp = false ∨ H = []) (hw : (∀ B ∈ H, A.bdL H.length B.cells = true) → A.bdL H.length args = true → s_slices_IndexFuncapi_Bale_api_Bale.aw P H.length (postA H.length f_slices_IndexFuncapi_Bale_api_Bale R) (envA v_slices_IndexFuncapi_Bale_api_Bale args) H) : VR P kp n_slices_IndexFuncapi_Bale_api_Bale args H R := VR.of (F := f_slices_IndexFuncapi_Bale_api_Bale) (V := v_slices_IndexFuncapi_Bale_api_Bale) of_slices_IndexFuncapi_Bale_api_Bale hlen hk fun h1 h2 => aw_sound (hw h1 h2)
theorem r_slices_IndexFuncapi_Bale_api_Bale : Fun.res f_slices_IndexFuncapi_Bale_api_Bale = [(.var 2)] := rfl
abbrev g_slices_IndexFuncapi_Bale_api_Bale_0 : List Nat := [2, 3, 5, 6, 7]

/-- recycling/material.check -/
abbrev n_material_check : Nat := 41
def s_material_check : S :=
 (.set 1 (.lit (.int .i64 0))
 (.set 5 (.var 0)
 (.set 3 (.u .len (.var 5))
 (.set 2 (.lit (.int .i64 0))
 (.seq
  (.blk 0
   (.loop
    (.set 4 (.b (.bin .lss) (.var 2) (.var 3))
    (.seq
     (.ite (.var 4)
      .nxt
      (.exit 0))
    (.seq
     (.blk 1
      (.set 6 (.u .ld1 (.b (.idx 1) (.var 5) (.var 2)))
      (.seq
       (.ite (.b (.bin .gtr) (.u .len (.var 6)) (.lit (.int .i64 16)))
        (.set 1 (.lit (.int .i64 18))
        .ret)
        .nxt)
      (.call false (some 7) 49 (.cn (.var 6) (.cn (.lit (.func (.func 50) #[] #[])) .nl))
      (.ite (.var 7)
       (.set 1 (.lit (.int .i64 1))
       .ret)
       .nxt)))))
    (.set 2 (.b (.bin .add) (.var 2) (.lit (.int .i64 1)))
    .nxt))))))
 (.set 1 (.lit (.int .i64 0))
 .ret))))))
def f_material_check : Fun := ⟨s_material_check, [(.var 1)]⟩
abbrev v_material_check : List Nat := [0, 2, 7, 6, 8, 5, 4, 15]
theorem c_material_check : compF P Go.Proofs.Try.f41 v_material_check = some f_material_check := by kernel_rfl
theorem of_material_check {args : List Value} (hn : args.length ≤ 17) {h : Heap} {R : Value → Heap → Prop} (hs : s_material_check.wp P (f_material_check.post R) (env0 v_material_check args) h) : Runs P n_material_check args h R := fn_of P_mixed Go.Proofs.Try.func41 c_material_check (by rw [Go.Proofs.Try.ntmps41]; exact hn) hs
theorem vr_material_check {kp : Bool} {args : List A} {H : List Blk} {R : A → List Blk → Prop} (hlen : args.length ≤ 17) (hk : kp = false ∨ H = []) (hw : (∀ B ∈ H, A.bdL H.length B.cells = true) → A.bdL H.length args = true → s_material_check.aw P H.length (postA H.length f_material_check R) (envA v_material_check args) H) : VR P kp n_material_check args H R := VR.of (F := f_material_check) (V := v_material_check) of_material_check hlen hk fun h1 h2 => aw_sound (hw h1 h2)
theorem r_material_check : Fun.res f_material_check = [(.var 1)] := rfl
abbrev g_material_check_0 : List Nat := [1, 2, 4, 6, 7]

/-- recycling/material.combine -/
abbrev n_material_combine : Nat := 42
def s_material_combine : S :=
 (.set 4 (.lit (.slice none 0 0))
 (.set 5 (.lit (.int .i64 0))
 (.eff false (some 12) (.lit 23 1 2 [(.slice none 0 0)] (.pl 0 1 (.var 0) (.pl 1 1 (.var 1) .nl)))
 (.call false (some 16) 41 (.cn (.var 12) .nl)
 (.set 6 (.var 16)
 (.seq
  (.ite (.b (.bin .neq) (.var 6) (.lit (.int .i64 0)))
   (.set 4 (.lit (.slice none 0 0))
   (.set 5 (.var 6)
   .ret))
   .nxt)
 (.seq
  (.ite (.b (.bin .neq) (.u .len (.var 0)) (.u .len (.var 1)))
   (.set 4 (.lit (.slice none 0 0))
   (.set 5 (.lit (.int .i64 18))
   .ret))
   .nxt)
 (.eff false (some 13) (.mk 3 1 8 [(.int .i64 0)] (.u .len (.var 0)) (.u .len (.var 0)))
 (.set 7 (.var 13)
 (.set 9 (.u .len (.var 0))
 (.set 8 (.lit (.int .i64 0))
 (.seq
  (.blk 0
   (.loop
    (.set 10 (.b (.bin .lss) (.var 8) (.var 9))
    (.seq
     (.ite (.var 10)
      .nxt
      (.exit 0))
    (.seq
     (.blk 1
      (.set 11 (.var 8)
      (.callv false (some 14) (.var 2) (.cn (.u .ld1 (.b (.idx 1) (.var 0) (.var 11))) (.cn (.u .ld1 (.b (.idx 1) (.var 1) (.var 11))) .nl))
      (.eff false none (.st 1 (.b (.idx 1) (.var 7) (.var 11)) (.var 14))
      .nxt))))
    (.set 8 (.b (.bin .add) (.var 8) (.lit (.int .i64 1)))
    .nxt))))))
 (.eff false (some 15) (.lit 23 1 1 [(.slice none 0 0)] (.pl 0 1 (.var 7) .nl))
 (.call false (some 17) 41 (.cn (.var 15) .nl)
 (.seq
  (.ite (.b (.bin .neq) (.var 17) (.lit (.int .i64 0)))
   (.set 4 (.lit (.slice none 0 0))
   (.set 5 (.var 3)
   .ret))
   .nxt)
 (.set 4 (.var 7)
 (.set 5 (.lit (.int .i64 0))
 .ret)))))))))))))))))
def f_material_combine : Fun := ⟨s_material_combine, [(.var 4), (.var 5)]⟩
abbrev v_material_combine : List Nat := [0, 1, 2, 3, 8, 9, 10, 11, 30, 29, 31, 12, 15, 27, 44, 48, 16, 49]
theorem c_material_combine : compF P Go.Proofs.Try.f42 v_material_combine = some f_material_combine := by kernel_rfl
theorem of_material_combine {args : List Value} (hn : args.length ≤ 53) {h : Heap} {R : Value → Heap → Prop} (hs : s_material_combine.wp P (f_material_combine.post R) (env0 v_material_combine args) h) : Runs P n_material_combine args h R := fn_of P_mixed Go.Proofs.Try.func42 c_material_combine (by rw [Go.Proofs.Try.ntmps42]; exact hn) hs
theorem vr_material_combine {kp : Bool} {args : List A} {H : List Blk} {R : A → List Blk → Prop} (hlen : args.length ≤ 53) (hk : kp = false ∨ H = []) (hw : (∀ B ∈ H, A.bdL H.length B.cells = true) → A.bdL H.length args = true → s_material_combine.aw P H.length (postA H.length f_material_combine R) (envA v_material_combine args) H) : VR P kp n_material_combine args H R := VR.of (F := f_material_combine) (V := v_material_combine) of_material_combine hlen hk fun h1 h2 => aw_sound (hw h1 h2)
theorem r_material_combine : Fun.res f_material_combine = [(.var 4), (.var 5)] := rfl
abbrev g_material_combine_0 : List Nat := [8, 10, 11, 14]

/-- recycling/material.Add$1 -/
abbrev n_material_Add_1 : Nat := 43
def s_material_Add_1 : S :=
 (.set 2 (.lit (.int .i64 0))
 (.set 2 (.b (.bin .add) (.var 0) (.var 1))
 .ret))
def f_material_Add_1 : Fun := ⟨s_material_Add_1, [(.var 2)]⟩
abbrev v_material_Add_1 : List Nat := [0, 1, 4]
theorem c_material_Add_1 : compF P Go.Proofs.Try.f43 v_material_Add_1 = some f_material_Add_1 := by kernel_rfl
theorem of_material_Add_1 {args : List Value} (hn : args.length ≤ 8) {h : Heap} {R : Value → Heap → Prop} (hs : s_material_Add_1.wp P (f_material_Add_1.post R) (env0 v_material_Add_1 args) h) : Runs P n_material_Add_1 args h R := fn_of P_mixed Go.Proofs.Try.func43 c_material_Add_1 (by rw [Go.Proofs.Try.ntmps43]; exact hn) hs
theorem vr_material_Add_1 {kp : Bool} {args : List A} {H : List Blk} {R : A → List Blk → Prop} (hlen : args.length ≤ 8) (hk : kp = false ∨ H = []) (hw : (∀ B ∈ H, A.bdL H.length B.cells = true) → A.bdL H.length args = true → s_material_Add_1.aw P H.length (postA H.length f_material_Add_1 R) (envA v_material_Add_1 args) H) : VR P kp n_material_Add_1 args H R := VR.of (F := f_material_Add_1) (V := v_material_Add_1) of_material_Add_1 hlen hk fun h1 h2 => aw_sound (hw h1 h2)
theorem r_material_Add_1 : Fun.res f_material_Add_1 = [(.var 2)] := rfl

/-- recycling/share.weighed -/
abbrev n_share_weighed : Nat := 44
def s_share_weighed : S :=
 (.set 1 (.lit (.int .i64 0))
 (.set 2 (.lit (.int .i64 0))
 (.seq
  (.ite (.ite (.b (.bin .lss) (.u .len (.var 0)) (.lit (.int .i64 1))) (.lit (.bool true)) (.b (.bin .gtr) (.u .len (.var 0)) (.lit (.int .i64 512))))
   (.set 1 (.lit (.int .i64 0))
   (.set 2 (.lit (.int .i64 1))
   .ret))
   .nxt)
 (.set 6 (.var 0)
 (.set 4 (.u .len (.var 6))
 (.set 3 (.lit (.int .i64 0))
 (.seq
  (.blk 0
   (.loop
    (.set 5 (.b (.bin .lss) (.var 3) (.var 4))
    (.seq
     (.ite (.var 5)
      .nxt
      (.exit 0))
    (.seq
     (.blk 1
      (.set 7 (.u .ld1 (.b (.idx 1) (.var 6) (.var 3)))
      (.ite (.ite (.b (.bin .lss) (.var 7) (.lit (.int .i64 0))) (.lit (.bool true)) (.b (.bin .gtr) (.var 7) (.lit (.int .i64 1125899906842624))))
       (.set 1 (.lit (.int .i64 0))
       (.set 2 (.lit (.int .i64 1))
       .ret))
       .nxt)))
    (.set 3 (.b (.bin .add) (.var 3) (.lit (.int .i64 1)))
    .nxt))))))
 (.call false (some 8) 51 (.cn (.var 0) .nl)
 (.chk (.u (.ext 0) (.var 8))
 (.chk (.u (.ext 1) (.var 8))
 (.set 1 (.u (.ext 0) (.var 8))
 (.set 2 (.u (.ext 1) (.var 8))
 .ret))))))))))))
def f_share_weighed : Fun := ⟨s_share_weighed, [(.var 1), (.var 2)]⟩
abbrev v_share_weighed : List Nat := [0, 2, 3, 16, 15, 17, 14, 5, 28]
theorem c_share_weighed : compF P Go.Proofs.Try.f44 v_share_weighed = some f_share_weighed := by kernel_rfl
theorem of_share_weighed {args : List Value} (hn : args.length ≤ 31) {h : Heap} {R : Value → Heap → Prop} (hs : s_share_weighed.wp P (f_share_weighed.post R) (env0 v_share_weighed args) h) : Runs P n_share_weighed args h R := fn_of P_mixed Go.Proofs.Try.func44 c_share_weighed (by rw [Go.Proofs.Try.ntmps44]; exact hn) hs
theorem vr_share_weighed {kp : Bool} {args : List A} {H : List Blk} {R : A → List Blk → Prop} (hlen : args.length ≤ 31) (hk : kp = false ∨ H = []) (hw : (∀ B ∈ H, A.bdL H.length B.cells = true) → A.bdL H.length args = true → s_share_weighed.aw P H.length (postA H.length f_share_weighed R) (envA v_share_weighed args) H) : VR P kp n_share_weighed args H R := VR.of (F := f_share_weighed) (V := v_share_weighed) of_share_weighed hlen hk fun h1 h2 => aw_sound (hw h1 h2)
theorem r_share_weighed : Fun.res f_share_weighed = [(.var 1), (.var 2)] := rfl
abbrev g_share_weighed_0 : List Nat := [1, 2, 3, 5, 7]

/-- math/bits.Mul64 -/
abbrev n_bits_Mul64 : Nat := 45
def s_bits_Mul64 : S :=
 (.set 2 (.lit (.int .u64 0))
 (.set 3 (.lit (.int .u64 0))
 (.set 4 (.b (.bin .and) (.var 0) (.lit (.int .u64 4294967295)))
 (.set 5 (.b (.bin .shr) (.var 0) (.lit (.int .u64 32)))
 (.set 6 (.b (.bin .and) (.var 1) (.lit (.int .u64 4294967295)))
 (.set 7 (.b (.bin .shr) (.var 1) (.lit (.int .u64 32)))
 (.set 8 (.b (.bin .mul) (.var 4) (.var 6))
 (.set 9 (.b (.bin .add) (.b (.bin .mul) (.var 5) (.var 6)) (.b (.bin .shr) (.var 8) (.lit (.int .u64 32))))
 (.set 10 (.b (.bin .and) (.var 9) (.lit (.int .u64 4294967295)))
 (.set 11 (.b (.bin .shr) (.var 9) (.lit (.int .u64 32)))
 (.set 10 (.b (.bin .add) (.var 10) (.b (.bin .mul) (.var 4) (.var 7)))
 (.set 2 (.b (.bin .add) (.b (.bin .add) (.b (.bin .mul) (.var 5) (.var 7)) (.var 11)) (.b (.bin .shr) (.var 10) (.lit (.int .u64 32))))
 (.set 3 (.b (.bin .mul) (.var 0) (.var 1))
 .ret)))))))))))))
def f_bits_Mul64 : Fun := ⟨s_bits_Mul64, [(.var 2), (.var 3)]⟩
abbrev v_bits_Mul64 : List Nat := [0, 1, 4, 5, 6, 7, 8, 9, 10, 11, 12, 13]
theorem c_bits_Mul64 : compF P Go.Proofs.Try.f45 v_bits_Mul64 = some f_bits_Mul64 := by kernel_rfl
theorem of_bits_Mul64 {args : List Value} (hn : args.length ≤ 51) {h : Heap} {R : Value → Heap → Prop} (hs : s_bits_Mul64.wp P (f_bits_Mul64.post R) (env0 v_bits_Mul64 args) h) : Runs P n_bits_Mul64 args h R := fn_of P_mixed Go.Proofs.Try.func45 c_bits_Mul64 (by rw [Go.Proofs.Try.ntmps45]; exact hn) hs
theorem vr_bits_Mul64 {kp : Bool} {args : List A} {H : List Blk} {R : A → List Blk → Prop} (hlen : args.length ≤ 51) (hk : kp = false ∨ H = []) (hw : (∀ B ∈ H, A.bdL H.length B.cells = true) → A.bdL H.length args = true → s_bits_Mul64.aw P H.length (postA H.length f_bits_Mul64 R) (envA v_bits_Mul64 args) H) : VR P kp n_bits_Mul64 args H R := VR.of (F := f_bits_Mul64) (V := v_bits_Mul64) of_bits_Mul64 hlen hk fun h1 h2 => aw_sound (hw h1 h2)
theorem r_bits_Mul64 : Fun.res f_bits_Mul64 = [(.var 2), (.var 3)] := rfl

/-- math/bits.Div64 -/
abbrev n_bits_Div64 : Nat := 46
def s_bits_Div64 : S :=
 (.set 3 (.lit (.int .u64 0))
 (.set 4 (.lit (.int .u64 0))
 (.seq
  (.ite (.b (.bin .eql) (.var 2) (.lit (.int .u64 0)))
   (.chk (.u .ld1 (.lit (.pointer (some ⟨0, 0, none⟩))))
   .stop)
   .nxt)
 (.seq
  (.ite (.b (.bin .leq) (.var 2) (.var 0))
   (.chk (.u .ld1 (.lit (.pointer (some ⟨1, 0, none⟩))))
   .stop)
   .nxt)
 (.seq
  (.ite (.b (.bin .eql) (.var 0) (.lit (.int .u64 0)))
   (.chk (.b (.bin .quo) (.var 1) (.var 2))
   (.chk (.b (.bin .rem) (.var 1) (.var 2))
   (.set 3 (.b (.bin .quo) (.var 1) (.var 2))
   (.set 4 (.b (.bin .rem) (.var 1) (.var 2))
   .ret))))
   .nxt)
 (.call false (some 16) 52 (.cn (.var 2) .nl)
 (.set 5 (.u (.conv .u64) (.var 16))
 (.set 2 (.b (.bin .shl) (.var 2) (.var 5))
 (.set 6 (.b (.bin .shr) (.var 2) (.lit (.int .u64 32)))
 (.set 7 (.b (.bin .and) (.var 2) (.lit (.int .u64 4294967295)))
 (.set 8 (.b (.bin .or) (.b (.bin .shl) (.var 0) (.var 5)) (.b (.bin .shr) (.var 1) (.b (.bin .sub) (.lit (.int .u64 64)) (.var 5))))
 (.set 9 (.b (.bin .shl) (.var 1) (.var 5))
 (.set 10 (.b (.bin .shr) (.var 9) (.lit (.int .u64 32)))
 (.set 11 (.b (.bin .and) (.var 9) (.lit (.int .u64 4294967295)))
 (.set 12 (.b (.bin .quo) (.var 8) (.var 6))
 (.set 13 (.b (.bin .sub) (.var 8) (.b (.bin .mul) (.var 12) (.var 6)))
 (.seq
  (.blk 0
   (.loop
    (.seq
     (.ite (.ite (.b (.bin .geq) (.var 12) (.lit (.int .u64 4294967296))) (.lit (.bool true)) (.b (.bin .gtr) (.b (.bin .mul) (.var 12) (.var 7)) (.b (.bin .add) (.b (.bin .mul) (.lit (.int .u64 4294967296)) (.var 13)) (.var 10))))
      .nxt
      (.exit 0))
    (.blk 1
     (.set 12 (.b (.bin .sub) (.var 12) (.lit (.int .u64 1)))
     (.set 13 (.b (.bin .add) (.var 13) (.var 6))
     (.ite (.b (.bin .geq) (.var 13) (.lit (.int .u64 4294967296)))
      (.exit 0)
      .nxt)))))))
 (.set 14 (.b (.bin .sub) (.b (.bin .add) (.b (.bin .mul) (.var 8) (.lit (.int .u64 4294967296))) (.var 10)) (.b (.bin .mul) (.var 12) (.var 2)))
 (.set 15 (.b (.bin .quo) (.var 14) (.var 6))
 (.set 13 (.b (.bin .sub) (.var 14) (.b (.bin .mul) (.var 15) (.var 6)))
 (.seq
  (.blk 2
   (.loop
    (.seq
     (.ite (.ite (.b (.bin .geq) (.var 15) (.lit (.int .u64 4294967296))) (.lit (.bool true)) (.b (.bin .gtr) (.b (.bin .mul) (.var 15) (.var 7)) (.b (.bin .add) (.b (.bin .mul) (.lit (.int .u64 4294967296)) (.var 13)) (.var 11))))
      .nxt
      (.exit 2))
    (.blk 3
     (.set 15 (.b (.bin .sub) (.var 15) (.lit (.int .u64 1)))
     (.set 13 (.b (.bin .add) (.var 13) (.var 6))
     (.ite (.b (.bin .geq) (.var 13) (.lit (.int .u64 4294967296)))
      (.exit 2)
      .nxt)))))))
 (.chk (.b (.bin .add) (.b (.bin .mul) (.var 12) (.lit (.int .u64 4294967296))) (.var 15))
 (.chk (.b (.bin .shr) (.b (.bin .sub) (.b (.bin .add) (.b (.bin .mul) (.var 14) (.lit (.int .u64 4294967296))) (.var 11)) (.b (.bin .mul) (.var 15) (.var 2))) (.var 5))
 (.set 3 (.b (.bin .add) (.b (.bin .mul) (.var 12) (.lit (.int .u64 4294967296))) (.var 15))
 (.set 4 (.b (.bin .shr) (.b (.bin .sub) (.b (.bin .add) (.b (.bin .mul) (.var 14) (.lit (.int .u64 4294967296))) (.var 11)) (.b (.bin .mul) (.var 15) (.var 2))) (.var 5))
 .ret)))))))))))))))))))))))))
def f_bits_Div64 : Fun := ⟨s_bits_Div64, [(.var 3), (.var 4)]⟩
abbrev v_bits_Div64 : List Nat := [0, 1, 2, 6, 7, 8, 9, 10, 11, 12, 13, 14, 15, 16, 17, 18, 35]
theorem c_bits_Div64 : compF P Go.Proofs.Try.f46 v_bits_Div64 = some f_bits_Div64 := by kernel_rfl
theorem of_bits_Div64 {args : List Value} (hn : args.length ≤ 135) {h : Heap} {R : Value → Heap → Prop} (hs : s_bits_Div64.wp P (f_bits_Div64.post R) (env0 v_bits_Div64 args) h) : Runs P n_bits_Div64 args h R := fn_of P_mixed Go.Proofs.Try.func46 c_bits_Div64 (by rw [Go.Proofs.Try.ntmps46]; exact hn) hs
theorem vr_bits_Div64 {kp : Bool} {args : List A} {H : List Blk} {R : A → List Blk → Prop} (hlen : args.length ≤ 135) (hk : kp = false ∨ H = []) (hw : (∀ B ∈ H, A.bdL H.length B.cells = true) → A.bdL H.length args = true → s_bits_Div64.aw P H.length (postA H.length f_bits_Div64 R) (envA v_bits_Div64 args) H) : VR P kp n_bits_Div64 args H R := VR.of (F := f_bits_Div64) (V := v_bits_Div64) of_bits_Div64 hlen hk fun h1 h2 => aw_sound (hw h1 h2)
theorem r_bits_Div64 : Fun.res f_bits_Div64 = [(.var 3), (.var 4)] := rfl
/-- slices.SortStableFunc[[]int,int] -/
abbrev n_slices_SortStableFuncint_int : Nat := 47
def s_slices_SortStableFuncint_int : S :=
 (.call false none 53 (.cn (.var 0) (.cn (.u .len (.var 0)) (.cn (.var 1) .nl)))
 .nxt)
def f_slices_SortStableFuncint_int : Fun := ⟨s_slices_SortStableFuncint_int, []⟩
abbrev v_slices_SortStableFuncint_int : List Nat := [0, 1]
theorem c_slices_SortStableFuncint_int : compF P Go.Proofs.Try.f47 v_slices_SortStableFuncint_int = some f_slices_SortStableFuncint_int := by kernel_rfl
theorem of_slices_SortStableFuncint_int {args : List Value} (hn : args.length ≤ 9) {h : Heap} {R : Value → Heap → Prop} (hs : s_slices_SortStableFuncint_int.wp P (f_slices_SortStableFuncint_int.post R) (env0 v_slices_SortStableFuncint_int args) h) : Runs P n_slices_SortStableFuncint_int args h R := fn_of P_mixed Go.Proofs.Try.func47 c_slices_SortStableFuncint_int (by rw [Go.Proofs.Try.ntmps47]; exact hn) hs
theorem vr_slices_SortStableFuncint_int {kp : Bool} {args : List A} {H : List Blk} {R : A → List Blk → Prop} (hlen : args.length ≤ 9) (hk : kp = false ∨ H = []) (hw : (∀ B ∈ H, A.bdL H.length B.cells = true) → A.bdL H.length args = true → s_slices_SortStableFuncint_int.aw P H.length (postA H.length f_slices_SortStableFuncint_int R) (envA v_slices_SortStableFuncint_int args) H) : VR P kp n_slices_SortStableFuncint_int args H R := VR.of (F := f_slices_SortStableFuncint_int) (V := v_slices_SortStableFuncint_int) of_slices_SortStableFuncint_int hlen hk fun h1 h2 => aw_sound (hw h1 h2)
theorem r_slices_SortStableFuncint_int : Fun.res f_slices_SortStableFuncint_int = [] := rfl

/-- recycling/share.Split$1 -/
abbrev n_share_Split_1 : Nat := 48
def s_share_Split_1 : S :=
 (.set 3 (.lit (.int .i64 0))
 (.set 3 (.b (.bin .sub) (.u .ld1 (.b (.idx 1) (.u .ld1 (.var 2)) (.var 1))) (.u .ld1 (.b (.idx 1) (.u .ld1 (.var 2)) (.var 0))))
 .ret))
def f_share_Split_1 : Fun := ⟨s_share_Split_1, [(.var 3)]⟩
abbrev v_share_Split_1 : List Nat := [0, 1, 2, 5]
theorem c_share_Split_1 : compF P Go.Proofs.Try.f48 v_share_Split_1 = some f_share_Split_1 := by kernel_rfl
theorem of_share_Split_1 {args : List Value} (hn : args.length ≤ 15) {h : Heap} {R : Value → Heap → Prop} (hs : s_share_Split_1.wp P (f_share_Split_1.post R) (env0 v_share_Split_1 args) h) : Runs P n_share_Split_1 args h R := fn_of P_mixed Go.Proofs.Try.func48 c_share_Split_1 (by rw [Go.Proofs.Try.ntmps48]; exact hn) hs
theorem vr_share_Split_1 {kp : Bool} {args : List A} {H : List Blk} {R : A → List Blk → Prop} (hlen : args.length ≤ 15) (hk : kp = false ∨ H = []) (hw : (∀ B ∈ H, A.bdL H.length B.cells = true) → A.bdL H.length args = true → s_share_Split_1.aw P H.length (postA H.length f_share_Split_1 R) (envA v_share_Split_1 args) H) : VR P kp n_share_Split_1 args H R := VR.of (F := f_share_Split_1) (V := v_share_Split_1) of_share_Split_1 hlen hk fun h1 h2 => aw_sound (hw h1 h2)
theorem r_share_Split_1 : Fun.res f_share_Split_1 = [(.var 3)] := rfl

/-- slices.ContainsFunc[recycling/api.Mix,int] -/
abbrev n_slices_ContainsFunc : Nat := 49
def s_slices_ContainsFunc : S :=
 (.set 2 (.lit (.bool false))
 (.call false (some 3) 54 (.cn (.var 0) (.cn (.var 1) .nl))
 (.set 2 (.b (.bin .geq) (.var 3) (.lit (.int .i64 0)))
 .ret)))
def f_slices_ContainsFunc : Fun := ⟨s_slices_ContainsFunc, [(.var 2)]⟩
abbrev v_slices_ContainsFunc : List Nat := [0, 1, 4, 7]
theorem c_slices_ContainsFunc : compF P Go.Proofs.Try.f49 v_slices_ContainsFunc = some f_slices_ContainsFunc := by kernel_rfl
theorem of_slices_ContainsFunc {args : List Value} (hn : args.length ≤ 9) {h : Heap} {R : Value → Heap → Prop} (hs : s_slices_ContainsFunc.wp P (f_slices_ContainsFunc.post R) (env0 v_slices_ContainsFunc args) h) : Runs P n_slices_ContainsFunc args h R := fn_of P_mixed Go.Proofs.Try.func49 c_slices_ContainsFunc (by rw [Go.Proofs.Try.ntmps49]; exact hn) hs
theorem vr_slices_ContainsFunc {kp : Bool} {args : List A} {H : List Blk} {R : A → List Blk → Prop} (hlen : args.length ≤ 9) (hk : kp = false ∨ H = []) (hw : (∀ B ∈ H, A.bdL H.length B.cells = true) → A.bdL H.length args = true → s_slices_ContainsFunc.aw P H.length (postA H.length f_slices_ContainsFunc R) (envA v_slices_ContainsFunc args) H) : VR P kp n_slices_ContainsFunc args H R := VR.of (F := f_slices_ContainsFunc) (V := v_slices_ContainsFunc) of_slices_ContainsFunc hlen hk fun h1 h2 => aw_sound (hw h1 h2)
theorem r_slices_ContainsFunc : Fun.res f_slices_ContainsFunc = [(.var 2)] := rfl

/-- recycling/material.check$1 -/
abbrev n_material_check_1 : Nat := 50
def s_material_check_1 : S :=
 (.set 1 (.lit (.bool false))
 (.set 1 (.ite (.b (.bin .lss) (.var 0) (.lit (.int .i64 0))) (.lit (.bool true)) (.b (.bin .gtr) (.var 0) (.lit (.int .i64 1073741824))))
 .ret))
def f_material_check_1 : Fun := ⟨s_material_check_1, [(.var 1)]⟩
abbrev v_material_check_1 : List Nat := [0, 2]
theorem c_material_check_1 : compF P Go.Proofs.Try.f50 v_material_check_1 = some f_material_check_1 := by kernel_rfl
theorem of_material_check_1 {args : List Value} (hn : args.length ≤ 9) {h : Heap} {R : Value → Heap → Prop} (hs : s_material_check_1.wp P (f_material_check_1.post R) (env0 v_material_check_1 args) h) : Runs P n_material_check_1 args h R := fn_of P_mixed Go.Proofs.Try.func50 c_material_check_1 (by rw [Go.Proofs.Try.ntmps50]; exact hn) hs
theorem vr_material_check_1 {kp : Bool} {args : List A} {H : List Blk} {R : A → List Blk → Prop} (hlen : args.length ≤ 9) (hk : kp = false ∨ H = []) (hw : (∀ B ∈ H, A.bdL H.length B.cells = true) → A.bdL H.length args = true → s_material_check_1.aw P H.length (postA H.length f_material_check_1 R) (envA v_material_check_1 args) H) : VR P kp n_material_check_1 args H R := VR.of (F := f_material_check_1) (V := v_material_check_1) of_material_check_1 hlen hk fun h1 h2 => aw_sound (hw h1 h2)
theorem r_material_check_1 : Fun.res f_material_check_1 = [(.var 1)] := rfl

/-- recycling/num.Sum -/
abbrev n_num_Sum : Nat := 51
def s_num_Sum : S :=
 (.set 1 (.lit (.int .i64 0))
 (.set 2 (.lit (.int .i64 0))
 (.set 3 (.lit (.int .i64 0))
 (.set 4 (.lit (.int .i64 0))
 (.set 8 (.var 0)
 (.set 6 (.u .len (.var 8))
 (.set 5 (.lit (.int .i64 0))
 (.seq
  (.blk 0
   (.loop
    (.set 7 (.b (.bin .lss) (.var 5) (.var 6))
    (.seq
     (.ite (.var 7)
      .nxt
      (.exit 0))
    (.seq
     (.blk 1
      (.set 9 (.u .ld1 (.b (.idx 1) (.var 8) (.var 5)))
      (.eff false (some 10) (.lit 3 1 1 [(.int .i64 0)] (.pl 0 1 (.var 9) .nl))
      (.call false (some 12) 55 (.cn (.var 10) .nl)
      (.seq
       (.ite (.u (.un .not) (.var 12))
        (.set 1 (.lit (.int .i64 0))
        (.set 2 (.lit (.int .i64 1))
        .ret))
        .nxt)
      (.set 3 (.b (.bin .add) (.var 3) (.b (.bin .shr) (.var 9) (.lit (.int .u64 25))))
      (.set 4 (.b (.bin .add) (.var 4) (.b (.bin .and) (.var 9) (.lit (.int .i64 33554431))))
      .nxt)))))))
    (.set 5 (.b (.bin .add) (.var 5) (.lit (.int .i64 1)))
    .nxt))))))
 (.set 3 (.b (.bin .add) (.var 3) (.b (.bin .shr) (.var 4) (.lit (.int .u64 25))))
 (.seq
  (.ite (.ite (.b (.bin .lss) (.var 3) (.lit (.int .i64 (-67108864)))) (.lit (.bool true)) (.b (.bin .gtr) (.var 3) (.lit (.int .i64 67108864))))
   (.set 1 (.lit (.int .i64 0))
   (.set 2 (.lit (.int .i64 2))
   .ret))
   .nxt)
 (.call false (some 11) 56 (.cn (.b (.bin .add) (.b (.bin .shl) (.var 3) (.lit (.int .u64 25))) (.b (.bin .and) (.var 4) (.lit (.int .i64 33554431)))) .nl)
 (.chk (.u (.ext 0) (.var 11))
 (.chk (.u (.ext 1) (.var 11))
 (.set 1 (.u (.ext 0) (.var 11))
 (.set 2 (.u (.ext 1) (.var 11))
 .ret)))))))))))))))
def f_num_Sum : Fun := ⟨s_num_Sum, [(.var 1), (.var 2)]⟩
abbrev v_num_Sum : List Nat := [0, 2, 3, 4, 5, 10, 9, 11, 8, 7, 15, 42, 16]
theorem c_num_Sum : compF P Go.Proofs.Try.f51 v_num_Sum = some f_num_Sum := by kernel_rfl
theorem of_num_Sum {args : List Value} (hn : args.length ≤ 45) {h : Heap} {R : Value → Heap → Prop} (hs : s_num_Sum.wp P (f_num_Sum.post R) (env0 v_num_Sum args) h) : Runs P n_num_Sum args h R := fn_of P_mixed Go.Proofs.Try.func51 c_num_Sum (by rw [Go.Proofs.Try.ntmps51]; exact hn) hs
theorem vr_num_Sum {kp : Bool} {args : List A} {H : List Blk} {R : A → List Blk → Prop} (hlen : args.length ≤ 45) (hk : kp = false ∨ H = []) (hw : (∀ B ∈ H, A.bdL H.length B.cells = true) → A.bdL H.length args = true → s_num_Sum.aw P H.length (postA H.length f_num_Sum R) (envA v_num_Sum args) H) : VR P kp n_num_Sum args H R := VR.of (F := f_num_Sum) (V := v_num_Sum) of_num_Sum hlen hk fun h1 h2 => aw_sound (hw h1 h2)
theorem r_num_Sum : Fun.res f_num_Sum = [(.var 1), (.var 2)] := rfl
abbrev g_num_Sum_0 : List Nat := [1, 2, 3, 4, 5, 7, 9, 10, 12]

/-- slices.stableCmpFunc[int] -/
abbrev n_slices_stableCmpFunc : Nat := 53
def s_slices_stableCmpFunc : S :=
 (.set 3 (.lit (.int .i64 20))
 (.set 4 (.lit (.int .i64 0))
 (.set 5 (.var 3)
 (.seq
  (.blk 0
   (.loop
    (.seq
     (.ite (.b (.bin .leq) (.var 5) (.var 1))
      .nxt
      (.exit 0))
    (.blk 1
     (.call false none 58 (.cn (.var 0) (.cn (.var 4) (.cn (.var 5) (.cn (.var 2) .nl))))
     (.set 4 (.var 5)
     (.set 5 (.b (.bin .add) (.var 5) (.var 3))
     .nxt)))))))
 (.call false none 58 (.cn (.var 0) (.cn (.var 4) (.cn (.var 1) (.cn (.var 2) .nl))))
 (.blk 2
  (.loop
   (.seq
    (.ite (.b (.bin .lss) (.var 3) (.var 1))
     .nxt
     (.exit 2))
   (.blk 3
    (.chk (.b (.bin .mul) (.lit (.int .i64 2)) (.var 3))
    (.set 4 (.lit (.int .i64 0))
    (.set 5 (.b (.bin .mul) (.lit (.int .i64 2)) (.var 3))
    (.seq
     (.blk 4
      (.loop
       (.seq
        (.ite (.b (.bin .leq) (.var 5) (.var 1))
         .nxt
         (.exit 4))
       (.blk 5
        (.call false none 59 (.cn (.var 0) (.cn (.var 4) (.cn (.b (.bin .add) (.var 4) (.var 3)) (.cn (.var 5) (.cn (.var 2) .nl)))))
        (.set 4 (.var 5)
        (.set 5 (.b (.bin .add) (.var 5) (.b (.bin .mul) (.lit (.int .i64 2)) (.var 3)))
        .nxt)))))))
    (.set 6 (.b (.bin .add) (.var 4) (.var 3))
    (.seq
     (.ite (.b (.bin .lss) (.var 6) (.var 1))
      (.call false none 59 (.cn (.var 0) (.cn (.var 4) (.cn (.var 6) (.cn (.var 1) (.cn (.var 2) .nl)))))
      .nxt)
      .nxt)
    (.set 3 (.b (.bin .mul) (.var 3) (.lit (.int .i64 2)))
    .nxt))))))))))))))))
def f_slices_stableCmpFunc : Fun := ⟨s_slices_stableCmpFunc, []⟩
abbrev v_slices_stableCmpFunc : List Nat := [0, 1, 2, 6, 7, 8, 9]
theorem c_slices_stableCmpFunc : compF P Go.Proofs.Try.f53 v_slices_stableCmpFunc = some f_slices_stableCmpFunc := by kernel_rfl
theorem of_slices_stableCmpFunc {args : List Value} (hn : args.length ≤ 63) {h : Heap} {R : Value → Heap → Prop} (hs : s_slices_stableCmpFunc.wp P (f_slices_stableCmpFunc.post R) (env0 v_slices_stableCmpFunc args) h) : Runs P n_slices_stableCmpFunc args h R := fn_of P_mixed Go.Proofs.Try.func53 c_slices_stableCmpFunc (by rw [Go.Proofs.Try.ntmps53]; exact hn) hs
theorem vr_slices_stableCmpFunc {kp : Bool} {args : List A} {H : List Blk} {R : A → List Blk → Prop} (hlen : args.length ≤ 63) (hk : kp = false ∨ H = []) (hw : (∀ B ∈ H, A.bdL H.length B.cells = true) → A.bdL H.length args = true → s_slices_stableCmpFunc.aw P H.length (postA H.length f_slices_stableCmpFunc R) (envA v_slices_stableCmpFunc args) H) : VR P kp n_slices_stableCmpFunc args H R := VR.of (F := f_slices_stableCmpFunc) (V := v_slices_stableCmpFunc) of_slices_stableCmpFunc hlen hk fun h1 h2 => aw_sound (hw h1 h2)
theorem r_slices_stableCmpFunc : Fun.res f_slices_stableCmpFunc = [] := rfl
abbrev g_slices_stableCmpFunc_0 : List Nat := [4, 5]
abbrev g_slices_stableCmpFunc_1 : List Nat := [3, 4, 5, 6]
abbrev g_slices_stableCmpFunc_2 : List Nat := [4, 5]

/-- slices.IndexFunc[recycling/api.Mix,int] -/
abbrev n_slices_IndexFunc : Nat := 54
def s_slices_IndexFunc : S :=
 (.set 2 (.lit (.int .i64 0))
 (.set 4 (.u .len (.var 0))
 (.set 3 (.lit (.int .i64 0))
 (.seq
  (.blk 0
   (.loop
    (.set 5 (.b (.bin .lss) (.var 3) (.var 4))
    (.seq
     (.ite (.var 5)
      .nxt
      (.exit 0))
    (.seq
     (.blk 1
      (.set 6 (.var 3)
      (.callv false (some 7) (.var 1) (.cn (.u .ld1 (.b (.idx 1) (.var 0) (.var 6))) .nl)
      (.ite (.var 7)
       (.set 2 (.var 6)
       .ret)
       .nxt))))
    (.set 3 (.b (.bin .add) (.var 3) (.lit (.int .i64 1)))
    .nxt))))))
 (.set 2 (.lit (.int .i64 (-1)))
 .ret)))))
def f_slices_IndexFunc : Fun := ⟨s_slices_IndexFunc, [(.var 2)]⟩
abbrev v_slices_IndexFunc : List Nat := [0, 1, 4, 8, 7, 9, 5, 16]
theorem c_slices_IndexFunc : compF P Go.Proofs.Try.f54 v_slices_IndexFunc = some f_slices_IndexFunc := by kernel_rfl
theorem of_slices_IndexFunc {args : List Value} (hn : args.length ≤ 19) {h : Heap} {R : Value → Heap → Prop} (hs : s_slices_IndexFunc.wp P (f_slices_IndexFunc.post R) (env0 v_slices_IndexFunc args) h) : Runs P n_slices_IndexFunc args h R := fn_of P_mixed Go.Proofs.Try.func54 c_slices_IndexFunc (by rw [Go.Proofs.Try.ntmps54]; exact hn) hs
theorem vr_slices_IndexFunc {kp : Bool} {args : List A} {H : List Blk} {R : A → List Blk → Prop} (hlen : args.length ≤ 19) (hk : kp = false ∨ H = []) (hw : (∀ B ∈ H, A.bdL H.length B.cells = true) → A.bdL H.length args = true → s_slices_IndexFunc.aw P H.length (postA H.length f_slices_IndexFunc R) (envA v_slices_IndexFunc args) H) : VR P kp n_slices_IndexFunc args H R := VR.of (F := f_slices_IndexFunc) (V := v_slices_IndexFunc) of_slices_IndexFunc hlen hk fun h1 h2 => aw_sound (hw h1 h2)
theorem r_slices_IndexFunc : Fun.res f_slices_IndexFunc = [(.var 2)] := rfl
abbrev g_slices_IndexFunc_0 : List Nat := [2, 3, 5, 6, 7]

/-- recycling/num.in -/
abbrev n_num_in : Nat := 55
def s_num_in : S :=
 (.set 1 (.lit (.bool false))
 (.set 5 (.var 0)
 (.set 3 (.u .len (.var 5))
 (.set 2 (.lit (.int .i64 0))
 (.seq
  (.blk 0
   (.loop
    (.set 4 (.b (.bin .lss) (.var 2) (.var 3))
    (.seq
     (.ite (.var 4)
      .nxt
      (.exit 0))
    (.seq
     (.blk 1
      (.set 6 (.u .ld1 (.b (.idx 1) (.var 5) (.var 2)))
      (.ite (.ite (.b (.bin .lss) (.var 6) (.lit (.int .i64 (-1125899906842624)))) (.lit (.bool true)) (.b (.bin .gtr) (.var 6) (.lit (.int .i64 1125899906842624))))
       (.set 1 (.lit (.bool false))
       .ret)
       .nxt)))
    (.set 2 (.b (.bin .add) (.var 2) (.lit (.int .i64 1)))
    .nxt))))))
 (.set 1 (.lit (.bool true))
 .ret))))))
def f_num_in : Fun := ⟨s_num_in, [(.var 1)]⟩
abbrev v_num_in : List Nat := [0, 2, 7, 6, 8, 5, 4]
theorem c_num_in : compF P Go.Proofs.Try.f55 v_num_in = some f_num_in := by kernel_rfl
theorem of_num_in {args : List Value} (hn : args.length ≤ 18) {h : Heap} {R : Value → Heap → Prop} (hs : s_num_in.wp P (f_num_in.post R) (env0 v_num_in args) h) : Runs P n_num_in args h R := fn_of P_mixed Go.Proofs.Try.func55 c_num_in (by rw [Go.Proofs.Try.ntmps55]; exact hn) hs
theorem vr_num_in {kp : Bool} {args : List A} {H : List Blk} {R : A → List Blk → Prop} (hlen : args.length ≤ 18) (hk : kp = false ∨ H = []) (hw : (∀ B ∈ H, A.bdL H.length B.cells = true) → A.bdL H.length args = true → s_num_in.aw P H.length (postA H.length f_num_in R) (envA v_num_in args) H) : VR P kp n_num_in args H R := VR.of (F := f_num_in) (V := v_num_in) of_num_in hlen hk fun h1 h2 => aw_sound (hw h1 h2)
theorem r_num_in : Fun.res f_num_in = [(.var 1)] := rfl
abbrev g_num_in_0 : List Nat := [1, 2, 4, 6]

/-- recycling/num.checked -/
abbrev n_num_checked : Nat := 56
def s_num_checked : S :=
 (.set 1 (.lit (.int .i64 0))
 (.set 2 (.lit (.int .i64 0))
 (.eff false (some 3) (.lit 3 1 1 [(.int .i64 0)] (.pl 0 1 (.var 0) .nl))
 (.call false (some 4) 55 (.cn (.var 3) .nl)
 (.seq
  (.ite (.u (.un .not) (.var 4))
   (.set 1 (.lit (.int .i64 0))
   (.set 2 (.lit (.int .i64 2))
   .ret))
   .nxt)
 (.set 1 (.var 0)
 (.set 2 (.lit (.int .i64 0))
 .ret)))))))
def f_num_checked : Fun := ⟨s_num_checked, [(.var 1), (.var 2)]⟩
abbrev v_num_checked : List Nat := [0, 2, 3, 5, 6]
theorem c_num_checked : compF P Go.Proofs.Try.f56 v_num_checked = some f_num_checked := by kernel_rfl
theorem of_num_checked {args : List Value} (hn : args.length ≤ 9) {h : Heap} {R : Value → Heap → Prop} (hs : s_num_checked.wp P (f_num_checked.post R) (env0 v_num_checked args) h) : Runs P n_num_checked args h R := fn_of P_mixed Go.Proofs.Try.func56 c_num_checked (by rw [Go.Proofs.Try.ntmps56]; exact hn) hs
theorem vr_num_checked {kp : Bool} {args : List A} {H : List Blk} {R : A → List Blk → Prop} (hlen : args.length ≤ 9) (hk : kp = false ∨ H = []) (hw : (∀ B ∈ H, A.bdL H.length B.cells = true) → A.bdL H.length args = true → s_num_checked.aw P H.length (postA H.length f_num_checked R) (envA v_num_checked args) H) : VR P kp n_num_checked args H R := VR.of (F := f_num_checked) (V := v_num_checked) of_num_checked hlen hk fun h1 h2 => aw_sound (hw h1 h2)
theorem r_num_checked : Fun.res f_num_checked = [(.var 1), (.var 2)] := rfl

/-- slices.insertionSortCmpFunc[int] -/
abbrev n_slices_insertionSortCmpFunc : Nat := 58
def s_slices_insertionSortCmpFunc : S :=
 (.set 4 (.b (.bin .add) (.var 1) (.lit (.int .i64 1)))
 (.blk 0
  (.loop
   (.seq
    (.ite (.b (.bin .lss) (.var 4) (.var 2))
     .nxt
     (.exit 0))
   (.seq
    (.blk 1
     (.set 5 (.var 4)
     (.blk 2
      (.loop
       (.chk (.ite (.b (.bin .gtr) (.var 5) (.var 1)) (.u .ld1 (.b (.idx 1) (.var 0) (.var 5))) (.lit undef))
       (.chk (.ite (.b (.bin .gtr) (.var 5) (.var 1)) (.u .ld1 (.b (.idx 1) (.var 0) (.b (.bin .sub) (.var 5) (.lit (.int .i64 1))))) (.lit undef))
       (.seq
        (.ite (.b (.bin .gtr) (.var 5) (.var 1))
         (.callv false (some 6) (.var 3) (.cn (.u .ld1 (.b (.idx 1) (.var 0) (.var 5))) (.cn (.u .ld1 (.b (.idx 1) (.var 0) (.b (.bin .sub) (.var 5) (.lit (.int .i64 1))))) .nl))
         (.ite (.b (.bin .lss) (.var 6) (.lit (.int .i64 0)))
          .nxt
          (.exit 2)))
         (.set 6 (.lit undef)
         (.ite (.lit (.bool false))
          .nxt
          (.exit 2))))
       (.seq
        (.blk 3
         (.chk (.u .ld1 (.b (.idx 1) (.var 0) (.b (.bin .sub) (.var 5) (.lit (.int .i64 1)))))
         (.set 7 (.u .ld1 (.b (.idx 1) (.var 0) (.var 5)))
         (.eff false none (.st 1 (.b (.idx 1) (.var 0) (.var 5)) (.u .ld1 (.b (.idx 1) (.var 0) (.b (.bin .sub) (.var 5) (.lit (.int .i64 1))))))
         (.eff false none (.st 1 (.b (.idx 1) (.var 0) (.b (.bin .sub) (.var 5) (.lit (.int .i64 1)))) (.var 7))
         .nxt)))))
       (.set 5 (.b (.bin .sub) (.var 5) (.lit (.int .i64 1)))
       .nxt)))))))))
   (.set 4 (.b (.bin .add) (.var 4) (.lit (.int .i64 1)))
   .nxt))))))
def f_slices_insertionSortCmpFunc : Fun := ⟨s_slices_insertionSortCmpFunc, []⟩
abbrev v_slices_insertionSortCmpFunc : List Nat := [0, 1, 2, 3, 8, 9, 32, 50]
theorem c_slices_insertionSortCmpFunc : compF P Go.Proofs.Try.f58 v_slices_insertionSortCmpFunc = some f_slices_insertionSortCmpFunc := by kernel_rfl
theorem of_slices_insertionSortCmpFunc {args : List Value} (hn : args.length ≤ 53) {h : Heap} {R : Value → Heap → Prop} (hs : s_slices_insertionSortCmpFunc.wp P (f_slices_insertionSortCmpFunc.post R) (env0 v_slices_insertionSortCmpFunc args) h) : Runs P n_slices_insertionSortCmpFunc args h R := fn_of P_mixed Go.Proofs.Try.func58 c_slices_insertionSortCmpFunc (by rw [Go.Proofs.Try.ntmps58]; exact hn) hs
theorem vr_slices_insertionSortCmpFunc {kp : Bool} {args : List A} {H : List Blk} {R : A → List Blk → Prop} (hlen : args.length ≤ 53) (hk : kp = false ∨ H = []) (hw : (∀ B ∈ H, A.bdL H.length B.cells = true) → A.bdL H.length args = true → s_slices_insertionSortCmpFunc.aw P H.length (postA H.length f_slices_insertionSortCmpFunc R) (envA v_slices_insertionSortCmpFunc args) H) : VR P kp n_slices_insertionSortCmpFunc args H R := VR.of (F := f_slices_insertionSortCmpFunc) (V := v_slices_insertionSortCmpFunc) of_slices_insertionSortCmpFunc hlen hk fun h1 h2 => aw_sound (hw h1 h2)
theorem r_slices_insertionSortCmpFunc : Fun.res f_slices_insertionSortCmpFunc = [] := rfl
abbrev g_slices_insertionSortCmpFunc_0 : List Nat := [4, 5, 6, 7]
abbrev g_slices_insertionSortCmpFunc_1 : List Nat := [5, 6, 7]

/-- slices.symMergeCmpFunc[int] -/
abbrev n_slices_symMergeCmpFunc : Nat := 59
def s_slices_symMergeCmpFunc : S :=
 (.seq
  (.ite (.b (.bin .eql) (.b (.bin .sub) (.var 2) (.var 1)) (.lit (.int .i64 1)))
   (.set 5 (.var 2)
   (.set 6 (.var 3)
   (.seq
    (.blk 0
     (.loop
      (.seq
       (.ite (.b (.bin .lss) (.var 5) (.var 6))
        .nxt
        (.exit 0))
      (.blk 1
       (.set 7 (.u (.conv .i64) (.b (.bin .shr) (.u (.conv .u64) (.b (.bin .add) (.var 5) (.var 6))) (.lit (.int .u64 1))))
       (.callv false (some 20) (.var 4) (.cn (.u .ld1 (.b (.idx 1) (.var 0) (.var 7))) (.cn (.u .ld1 (.b (.idx 1) (.var 0) (.var 1))) .nl))
       (.ite (.b (.bin .lss) (.var 20) (.lit (.int .i64 0)))
        (.set 5 (.b (.bin .add) (.var 7) (.lit (.int .i64 1)))
        .nxt)
        (.set 6 (.var 7)
        .nxt))))))))
   (.set 8 (.var 1)
   (.seq
    (.blk 2
     (.loop
      (.seq
       (.ite (.b (.bin .lss) (.var 8) (.b (.bin .sub) (.var 5) (.lit (.int .i64 1))))
        .nxt
        (.exit 2))
      (.seq
       (.blk 3
        (.chk (.u .ld1 (.b (.idx 1) (.var 0) (.b (.bin .add) (.var 8) (.lit (.int .i64 1)))))
        (.set 21 (.u .ld1 (.b (.idx 1) (.var 0) (.var 8)))
        (.eff false none (.st 1 (.b (.idx 1) (.var 0) (.var 8)) (.u .ld1 (.b (.idx 1) (.var 0) (.b (.bin .add) (.var 8) (.lit (.int .i64 1))))))
        (.eff false none (.st 1 (.b (.idx 1) (.var 0) (.b (.bin .add) (.var 8) (.lit (.int .i64 1)))) (.var 21))
        .nxt)))))
      (.set 8 (.b (.bin .add) (.var 8) (.lit (.int .i64 1)))
      .nxt)))))
   .ret)))))
   .nxt)
 (.seq
  (.ite (.b (.bin .eql) (.b (.bin .sub) (.var 3) (.var 2)) (.lit (.int .i64 1)))
   (.set 9 (.var 1)
   (.set 10 (.var 2)
   (.seq
    (.blk 4
     (.loop
      (.seq
       (.ite (.b (.bin .lss) (.var 9) (.var 10))
        .nxt
        (.exit 4))
      (.blk 5
       (.set 11 (.u (.conv .i64) (.b (.bin .shr) (.u (.conv .u64) (.b (.bin .add) (.var 9) (.var 10))) (.lit (.int .u64 1))))
       (.callv false (some 22) (.var 4) (.cn (.u .ld1 (.b (.idx 1) (.var 0) (.var 2))) (.cn (.u .ld1 (.b (.idx 1) (.var 0) (.var 11))) .nl))
       (.ite (.u (.un .not) (.b (.bin .lss) (.var 22) (.lit (.int .i64 0))))
        (.set 9 (.b (.bin .add) (.var 11) (.lit (.int .i64 1)))
        .nxt)
        (.set 10 (.var 11)
        .nxt))))))))
   (.set 12 (.var 2)
   (.seq
    (.blk 6
     (.loop
      (.seq
       (.ite (.b (.bin .gtr) (.var 12) (.var 9))
        .nxt
        (.exit 6))
      (.seq
       (.blk 7
        (.chk (.u .ld1 (.b (.idx 1) (.var 0) (.b (.bin .sub) (.var 12) (.lit (.int .i64 1)))))
        (.set 23 (.u .ld1 (.b (.idx 1) (.var 0) (.var 12)))
        (.eff false none (.st 1 (.b (.idx 1) (.var 0) (.var 12)) (.u .ld1 (.b (.idx 1) (.var 0) (.b (.bin .sub) (.var 12) (.lit (.int .i64 1))))))
        (.eff false none (.st 1 (.b (.idx 1) (.var 0) (.b (.bin .sub) (.var 12) (.lit (.int .i64 1)))) (.var 23))
        .nxt)))))
      (.set 12 (.b (.bin .sub) (.var 12) (.lit (.int .i64 1)))
      .nxt)))))
   .ret)))))
   .nxt)
 (.set 13 (.u (.conv .i64) (.b (.bin .shr) (.u (.conv .u64) (.b (.bin .add) (.var 1) (.var 3))) (.lit (.int .u64 1))))
 (.set 14 (.b (.bin .add) (.var 13) (.var 2))
 (.set 15 (.lit (.int .i64 0))
 (.set 16 (.lit (.int .i64 0))
 (.seq
  (.ite (.b (.bin .gtr) (.var 2) (.var 13))
   (.set 15 (.b (.bin .sub) (.var 14) (.var 3))
   (.set 16 (.var 13)
   .nxt))
   (.set 15 (.var 1)
   (.set 16 (.var 2)
   .nxt)))
 (.set 17 (.b (.bin .sub) (.var 14) (.lit (.int .i64 1)))
 (.seq
  (.blk 8
   (.loop
    (.seq
     (.ite (.b (.bin .lss) (.var 15) (.var 16))
      .nxt
      (.exit 8))
    (.blk 9
     (.set 18 (.u (.conv .i64) (.b (.bin .shr) (.u (.conv .u64) (.b (.bin .add) (.var 15) (.var 16))) (.lit (.int .u64 1))))
     (.callv false (some 24) (.var 4) (.cn (.u .ld1 (.b (.idx 1) (.var 0) (.b (.bin .sub) (.var 17) (.var 18)))) (.cn (.u .ld1 (.b (.idx 1) (.var 0) (.var 18))) .nl))
     (.ite (.u (.un .not) (.b (.bin .lss) (.var 24) (.lit (.int .i64 0))))
      (.set 15 (.b (.bin .add) (.var 18) (.lit (.int .i64 1)))
      .nxt)
      (.set 16 (.var 18)
      .nxt))))))))
 (.set 19 (.b (.bin .sub) (.var 14) (.var 15))
 (.seq
  (.ite (.ite (.b (.bin .lss) (.var 15) (.var 2)) (.b (.bin .lss) (.var 2) (.var 19)) (.lit (.bool false)))
   (.call false none 60 (.cn (.var 0) (.cn (.var 15) (.cn (.var 2) (.cn (.var 19) (.cn (.var 4) .nl)))))
   .nxt)
   .nxt)
 (.seq
  (.ite (.ite (.b (.bin .lss) (.var 1) (.var 15)) (.b (.bin .lss) (.var 15) (.var 13)) (.lit (.bool false)))
   (.call false none 59 (.cn (.var 0) (.cn (.var 1) (.cn (.var 15) (.cn (.var 13) (.cn (.var 4) .nl)))))
   .nxt)
   .nxt)
 (.ite (.ite (.b (.bin .lss) (.var 13) (.var 19)) (.b (.bin .lss) (.var 19) (.var 3)) (.lit (.bool false)))
  (.call false none 59 (.cn (.var 0) (.cn (.var 13) (.cn (.var 19) (.cn (.var 3) (.cn (.var 4) .nl)))))
  .nxt)
  .nxt)))))))))))))
def f_slices_symMergeCmpFunc : Fun := ⟨s_slices_symMergeCmpFunc, []⟩
abbrev v_slices_symMergeCmpFunc : List Nat := [0, 1, 2, 3, 4, 10, 11, 12, 13, 14, 15, 16, 17, 18, 19, 20, 21, 22, 23, 24, 49, 74, 101, 126, 169]
theorem c_slices_symMergeCmpFunc : compF P Go.Proofs.Try.f59 v_slices_symMergeCmpFunc = some f_slices_symMergeCmpFunc := by kernel_rfl
theorem of_slices_symMergeCmpFunc {args : List Value} (hn : args.length ≤ 220) {h : Heap} {R : Value → Heap → Prop} (hs : s_slices_symMergeCmpFunc.wp P (f_slices_symMergeCmpFunc.post R) (env0 v_slices_symMergeCmpFunc args) h) : Runs P n_slices_symMergeCmpFunc args h R := fn_of P_mixed Go.Proofs.Try.func59 c_slices_symMergeCmpFunc (by rw [Go.Proofs.Try.ntmps59]; exact hn) hs
theorem vr_slices_symMergeCmpFunc {kp : Bool} {args : List A} {H : List Blk} {R : A → List Blk → Prop} (hlen : args.length ≤ 220) (hk : kp = false ∨ H = []) (hw : (∀ B ∈ H, A.bdL H.length B.cells = true) → A.bdL H.length args = true → s_slices_symMergeCmpFunc.aw P H.length (postA H.length f_slices_symMergeCmpFunc R) (envA v_slices_symMergeCmpFunc args) H) : VR P kp n_slices_symMergeCmpFunc args H R := VR.of (F := f_slices_symMergeCmpFunc) (V := v_slices_symMergeCmpFunc) of_slices_symMergeCmpFunc hlen hk fun h1 h2 => aw_sound (hw h1 h2)
theorem r_slices_symMergeCmpFunc : Fun.res f_slices_symMergeCmpFunc = [] := rfl
abbrev g_slices_symMergeCmpFunc_0 : List Nat := [5, 6, 7, 20]
abbrev g_slices_symMergeCmpFunc_1 : List Nat := [8, 21]
abbrev g_slices_symMergeCmpFunc_2 : List Nat := [9, 10, 11, 22]
abbrev g_slices_symMergeCmpFunc_3 : List Nat := [12, 23]
abbrev g_slices_symMergeCmpFunc_4 : List Nat := [15, 16, 18, 24]

/-- slices.rotateCmpFunc[int] -/
abbrev n_slices_rotateCmpFunc : Nat := 60
def s_slices_rotateCmpFunc : S :=
 (.set 5 (.b (.bin .sub) (.var 2) (.var 1))
 (.set 6 (.b (.bin .sub) (.var 3) (.var 2))
 (.seq
  (.blk 0
   (.loop
    (.seq
     (.ite (.b (.bin .neq) (.var 5) (.var 6))
      .nxt
      (.exit 0))
    (.blk 1
     (.ite (.b (.bin .gtr) (.var 5) (.var 6))
      (.call false none 61 (.cn (.var 0) (.cn (.b (.bin .sub) (.var 2) (.var 5)) (.cn (.var 2) (.cn (.var 6) (.cn (.var 4) .nl)))))
      (.set 5 (.b (.bin .sub) (.var 5) (.var 6))
      .nxt))
      (.call false none 61 (.cn (.var 0) (.cn (.b (.bin .sub) (.var 2) (.var 5)) (.cn (.b (.bin .sub) (.b (.bin .add) (.var 2) (.var 6)) (.var 5)) (.cn (.var 5) (.cn (.var 4) .nl)))))
      (.set 6 (.b (.bin .sub) (.var 6) (.var 5))
      .nxt)))))))
 (.call false none 61 (.cn (.var 0) (.cn (.b (.bin .sub) (.var 2) (.var 5)) (.cn (.var 2) (.cn (.var 5) (.cn (.var 4) .nl)))))
 .nxt))))
def f_slices_rotateCmpFunc : Fun := ⟨s_slices_rotateCmpFunc, []⟩
abbrev v_slices_rotateCmpFunc : List Nat := [0, 1, 2, 3, 4, 10, 11]
theorem c_slices_rotateCmpFunc : compF P Go.Proofs.Try.f60 v_slices_rotateCmpFunc = some f_slices_rotateCmpFunc := by kernel_rfl
theorem of_slices_rotateCmpFunc {args : List Value} (hn : args.length ≤ 58) {h : Heap} {R : Value → Heap → Prop} (hs : s_slices_rotateCmpFunc.wp P (f_slices_rotateCmpFunc.post R) (env0 v_slices_rotateCmpFunc args) h) : Runs P n_slices_rotateCmpFunc args h R := fn_of P_mixed Go.Proofs.Try.func60 c_slices_rotateCmpFunc (by rw [Go.Proofs.Try.ntmps60]; exact hn) hs
theorem vr_slices_rotateCmpFunc {kp : Bool} {args : List A} {H : List Blk} {R : A → List Blk → Prop} (hlen : args.length ≤ 58) (hk : kp = false ∨ H = []) (hw : (∀ B ∈ H, A.bdL H.length B.cells = true) → A.bdL H.length args = true → s_slices_rotateCmpFunc.aw P H.length (postA H.length f_slices_rotateCmpFunc R) (envA v_slices_rotateCmpFunc args) H) : VR P kp n_slices_rotateCmpFunc args H R := VR.of (F := f_slices_rotateCmpFunc) (V := v_slices_rotateCmpFunc) of_slices_rotateCmpFunc hlen hk fun h1 h2 => aw_sound (hw h1 h2)
theorem r_slices_rotateCmpFunc : Fun.res f_slices_rotateCmpFunc = [] := rfl
abbrev g_slices_rotateCmpFunc_0 : List Nat := [5, 6]

/-- slices.swapRangeCmpFunc[int] -/
abbrev n_slices_swapRangeCmpFunc : Nat := 61
def s_slices_swapRangeCmpFunc : S :=
 (.set 5 (.lit (.int .i64 0))
 (.blk 0
  (.loop
   (.seq
    (.ite (.b (.bin .lss) (.var 5) (.var 3))
     .nxt
     (.exit 0))
   (.seq
    (.blk 1
     (.chk (.b (.bin .add) (.var 1) (.var 5))
     (.chk (.u .ld1 (.b (.idx 1) (.var 0) (.b (.bin .add) (.var 2) (.var 5))))
     (.set 6 (.u .ld1 (.b (.idx 1) (.var 0) (.b (.bin .add) (.var 1) (.var 5))))
     (.eff false none (.st 1 (.b (.idx 1) (.var 0) (.b (.bin .add) (.var 1) (.var 5))) (.u .ld1 (.b (.idx 1) (.var 0) (.b (.bin .add) (.var 2) (.var 5)))))
     (.eff false none (.st 1 (.b (.idx 1) (.var 0) (.b (.bin .add) (.var 2) (.var 5))) (.var 6))
     .nxt))))))
   (.set 5 (.b (.bin .add) (.var 5) (.lit (.int .i64 1)))
   .nxt))))))
def f_slices_swapRangeCmpFunc : Fun := ⟨s_slices_swapRangeCmpFunc, []⟩
abbrev v_slices_swapRangeCmpFunc : List Nat := [0, 1, 2, 3, 4, 10, 35]
theorem c_slices_swapRangeCmpFunc : compF P Go.Proofs.Try.f61 v_slices_swapRangeCmpFunc = some f_slices_swapRangeCmpFunc := by kernel_rfl
theorem of_slices_swapRangeCmpFunc {args : List Value} (hn : args.length ≤ 38) {h : Heap} {R : Value → Heap → Prop} (hs : s_slices_swapRangeCmpFunc.wp P (f_slices_swapRangeCmpFunc.post R) (env0 v_slices_swapRangeCmpFunc args) h) : Runs P n_slices_swapRangeCmpFunc args h R := fn_of P_mixed Go.Proofs.Try.func61 c_slices_swapRangeCmpFunc (by rw [Go.Proofs.Try.ntmps61]; exact hn) hs
theorem vr_slices_swapRangeCmpFunc {kp : Bool} {args : List A} {H : List Blk} {R : A → List Blk → Prop} (hlen : args.length ≤ 38) (hk : kp = false ∨ H = []) (hw : (∀ B ∈ H, A.bdL H.length B.cells = true) → A.bdL H.length args = true → s_slices_swapRangeCmpFunc.aw P H.length (postA H.length f_slices_swapRangeCmpFunc R) (envA v_slices_swapRangeCmpFunc args) H) : VR P kp n_slices_swapRangeCmpFunc args H R := VR.of (F := f_slices_swapRangeCmpFunc) (V := v_slices_swapRangeCmpFunc) of_slices_swapRangeCmpFunc hlen hk fun h1 h2 => aw_sound (hw h1 h2)
theorem r_slices_swapRangeCmpFunc : Fun.res f_slices_swapRangeCmpFunc = [] := rfl
abbrev g_slices_swapRangeCmpFunc_0 : List Nat := [5, 6]

end Go.Proofs.Ytbgmhbjfcpddkaa
namespace Go.Proofs.Ytbgmhbjfcpddkaa
open Go Go.Lft
set_option linter.unusedSimpArgs false
set_option linter.unusedVariables false

/-- The first error in a list. -/
def firstE {α : Type} (f : α → Int) : List α → Int
  | [] => 0
  | x :: r => if f x ≠ 0 then f x else firstE f r
theorem firstE_hit {α : Type} {f : α → Int} (d : α) : ∀ {l : List α} {k : Nat}, k < l.length → (∀ i, i < k → f (l.getD i d) = 0) → f (l.getD k d) ≠ 0 → firstE f l = f (l.getD k d)
  | [], k, hk, _, _ => by simp at hk
  | x :: r, 0, _, _, hn => by simp only [List.getD_cons_zero] at hn ⊢; simp [firstE, hn]
  | x :: r, k + 1, hk, h, hn => by
    have h0 := h 0 (by omega)
    simp only [List.getD_cons_zero] at h0
    simp only [List.getD_cons_succ] at hn ⊢
    rw [← firstE_hit d (by simpa using hk) (fun i hi => by have := h (i + 1) (by omega); simpa using this) hn]
    simp [firstE, h0]
theorem firstE_none {α : Type} {f : α → Int} (d : α) : ∀ {l : List α}, (∀ i, i < l.length → f (l.getD i d) = 0) → firstE f l = 0
  | [], _ => rfl
  | x :: r, h => by
    have h0 := h 0 (by simp)
    simp only [List.getD_cons_zero] at h0
    simp only [firstE, h0]
    exact firstE_none d (l := r) fun i hi => by have := h (i + 1) (by simpa using hi); simpa using this
theorem firstE_all {α : Type} {f : α → Int} : ∀ {l : List α}, firstE f l = 0 → ∀ x ∈ l, f x = 0
  | [], _, x, hx => by simp at hx
  | y :: r, h, x, hx => by
    unfold firstE at h
    split at h
    · contradiction
    · rename_i h0
      rcases List.mem_cons.1 hx with rfl | hx
      · exact Classical.not_not.1 h0
      · exact firstE_all h x hx

/-- The first place at which p holds, or -1. -/
def idxE {α : Type} (p : α → Prop) [DecidablePred p] : List α → Int
  | [] => -1
  | x :: r => if p x then 0 else if idxE p r < 0 then -1 else idxE p r + 1
theorem idxE_ge {α : Type} (p : α → Prop) [DecidablePred p] : ∀ (l : List α), -1 ≤ idxE p l ∧ idxE p l < l.length
  | [] => by simp [idxE]
  | x :: r => by
    have := idxE_ge p r
    simp only [idxE, List.length_cons]
    split
    · omega
    · split <;> omega
theorem idxE_hit {α : Type} {p : α → Prop} [DecidablePred p] (d : α) : ∀ {l : List α} {k : Nat}, k < l.length → (∀ i, i < k → ¬ p (l.getD i d)) → p (l.getD k d) → idxE p l = k
  | [], k, hk, _, _ => by simp at hk
  | x :: r, 0, _, _, hn => by simp only [List.getD_cons_zero] at hn; simp [idxE, hn]
  | x :: r, k + 1, hk, h, hn => by
    have h0 := h 0 (by omega)
    simp only [List.getD_cons_zero] at h0
    simp only [List.getD_cons_succ] at hn
    have := idxE_hit d (p := p) (l := r) (by simpa using hk) (fun i hi => by have := h (i + 1) (by omega); simpa using this) hn
    simp only [idxE, this, h0, if_false]
    rw [if_neg (by omega)]; omega
theorem idxE_none {α : Type} {p : α → Prop} [DecidablePred p] (d : α) : ∀ {l : List α}, (∀ i, i < l.length → ¬ p (l.getD i d)) → idxE p l = -1
  | [], _ => rfl
  | x :: r, h => by
    have h0 := h 0 (by simp)
    simp only [List.getD_cons_zero] at h0
    have := idxE_none d (p := p) (l := r) fun i hi => by have := h (i + 1) (by simpa using hi); simpa using this
    simp [idxE, h0, this]
theorem idxE_at {α : Type} {p : α → Prop} [DecidablePred p] (d : α) : ∀ {l : List α}, 0 ≤ idxE p l → p (l.getD (idxE p l).toNat d)
  | [], h => by simp [idxE] at h
  | x :: r, h => by
    unfold idxE at h ⊢
    by_cases hx : p x
    · simp [hx]
    · simp only [hx, if_false] at h ⊢
      by_cases h2 : idxE p r < 0
      · rw [if_pos h2] at h; omega
      · rw [if_neg h2] at h ⊢
        have := idxE_at d (p := p) (l := r) (by omega)
        rw [show (idxE p r + 1).toNat = (idxE p r).toNat + 1 by omega]
        simpa using this
theorem idxE_neg {α : Type} {p : α → Prop} [DecidablePred p] {l : List α} (h : idxE p l < 0) : ∀ x ∈ l, ¬ p x := by
  induction l with
  | nil => intro x hx; simp at hx
  | cons y r ih =>
    intro x hx
    unfold idxE at h
    by_cases hy : p y
    · simp [hy] at h
    · simp only [hy, if_false] at h
      by_cases h2 : idxE p r < 0
      · rcases List.mem_cons.1 hx with rfl | hx
        · exact hy
        · exact ih h2 x hx
      · rw [if_neg h2] at h; omega
theorem mem_get {α : Type} (d : α) {l : List α} {k : Nat} (h : k < l.length) : l.getD k d ∈ l := by
  simp [List.getD_eq_getElem?_getD, h]
theorem get_mem {α : Type} (d : α) {l : List α} {x : α} (h : x ∈ l) : ∃ k, k < l.length ∧ l.getD k d = x := by
  obtain ⟨k, hk, rfl⟩ := List.mem_iff_getElem.1 h
  exact ⟨k, hk, by simp [List.getD_eq_getElem?_getD, hk]⟩
theorem take_succ_get' {α : Type} (l : List α) (k : Nat) (d : α) (h : k < l.length) : l.take (k + 1) = l.take k ++ [l.getD k d] := by
  rw [List.take_succ_eq_append_getElem h]; simp [List.getD_eq_getElem?_getD, h]

/-- Sums of the first numbers of a list. -/
def sumT (l : List Int) (k : Nat) : Int := (l.take k).sum
theorem sumT_zero (l : List Int) : sumT l 0 = 0 := by simp [sumT]
theorem sumT_succ (l : List Int) (k : Nat) (h : k < l.length) : sumT l (k + 1) = sumT l k + l.getD k 0 := by
  unfold sumT; rw [take_succ_get' l k 0 h]; simp
theorem sumT_all (l : List Int) : sumT l l.length = l.sum := by simp [sumT]
theorem sumT_bd (l : List Int) (a b : Int) : ∀ (k : Nat), k ≤ l.length → (∀ i, i < k → a ≤ l.getD i 0 ∧ l.getD i 0 ≤ b) → a * k ≤ sumT l k ∧ sumT l k ≤ b * k
  | 0, _, _ => by simp [sumT_zero]
  | k + 1, hk, h => by
    have h1 := sumT_bd l a b k (by omega) fun i hi => h i (by omega)
    have h2 := h k (by omega)
    rw [sumT_succ l k (by omega), show ((k + 1 : Nat) : Int) = (k : Int) + 1 by omega, Int.mul_add, Int.mul_add]
    omega

/-! ### Machines, belts, plants -/
structure Bt where
  fr : Int
  ot : Int
  to : Int
  ln : Int
def b0 : Bt := ⟨0, 0, 0, 0⟩
def btC (b : Bt) : List A := [.v (.int .i64 b.fr), .v (.int .i64 b.ot), .v (.int .i64 b.to), .v (.int .i64 b.ln)]
def btA (b : Bt) : A := .agg (btC b)
def bts (l : List Bt) : List A := l.map btA
abbrev Mc := List (List Int)
def mcC (w : Bool) (m : Mc) : List A := [.fs w (rows w m)]
def mcA (w : Bool) (m : Mc) : A := .agg (mcC w m)
def mcs (w : Bool) (l : List Mc) : List A := l.map (mcA w)
structure Pl where
  mat : Int
  ms : List Mc
  bs : List Bt
  fd : Int
def plC (w v : Bool) (p : Pl) : List A := [.v (.int .i64 p.mat), .fs w (mcs w p.ms), .fs v (bts p.bs), .v (.int .i64 p.fd)]
def plA (w v : Bool) (p : Pl) : A := .agg (plC w v p)

theorem bt_len (l : List Bt) : (bts l).length = l.length := by simp [bts]
theorem bt_idx (w : Bool) (l : List Bt) (kk : IntKind) (j : Int) (h1 : 0 ≤ j) (h2 : j < l.length) : idxA 4 (.fs w (bts l)) (.v (.int kk j)) = some (.fp w [.v (.int .i64 (l.getD j.toNat b0).fr), .v (.int .i64 (l.getD j.toNat b0).ot), .v (.int .i64 (l.getD j.toNat b0).to), .v (.int .i64 (l.getD j.toNat b0).ln)]) :=
  map_idx 4 w l b0 kk j btC (fun _ => rfl) (fun _ => rfl) h1 h2
theorem bt_bd (n : Nat) (l : List Bt) : A.bdL n (bts l) = true := map_bd n l fun _ => rfl
theorem bt_cl (l : List Bt) : A.clL (bts l) = true := map_cl l fun _ => rfl
theorem mc_len (w : Bool) (l : List Mc) : (mcs w l).length = l.length := by simp [mcs]
theorem mc_idx (w v : Bool) (l : List Mc) (kk : IntKind) (j : Int) (h1 : 0 ≤ j) (h2 : j < l.length) : idxA 1 (.fs w (mcs v l)) (.v (.int kk j)) = some (.fp w [.fs v (rows v (l.getD j.toNat []))]) :=
  map_idx 1 w l [] kk j (mcC v) (fun _ => rfl) (fun _ => rfl) h1 h2
theorem mcA_bd (n : Nat) (w : Bool) (m : Mc) : A.bd n (mcA w m) = true := by simp [mcA, mcC, A.bd, A.bdL, r_bd]
theorem mc_bd (n : Nat) (w : Bool) (l : List Mc) : A.bdL n (mcs w l) = true := map_bd n l fun m => mcA_bd n w m
theorem mc_cl (l : List Mc) : A.clL (mcs true l) = true := map_cl l fun m => by simp [mcA, mcC, A.cl, A.clL, r_cl]
theorem plC_bd (n : Nat) (w v : Bool) (p : Pl) : A.bdL n (plC w v p) = true := by simp [plC, A.bdL, A.bd, mc_bd, bt_bd]
theorem plA_bd (n : Nat) (w v : Bool) (p : Pl) : A.bd n (plA w v p) = true := plC_bd n w v p
theorem aM :
    (∀ (l : List Bt), (bts l).length = l.length) ∧
    (∀ (w : Bool) (l : List Bt) (kk : IntKind) (j : Int) (h1 : 0 ≤ j) (h2 : j < l.length), idxA 4 (.fs w (bts l)) (.v (.int kk j)) = some (.fp w [.v (.int .i64 (l.getD j.toNat b0).fr), .v (.int .i64 (l.getD j.toNat b0).ot), .v (.int .i64 (l.getD j.toNat b0).to), .v (.int .i64 (l.getD j.toNat b0).ln)])) ∧
    (∀ (n : Nat) (l : List Bt), A.bdL n (bts l) = true) ∧
    (∀ (l : List Bt), A.clL (bts l) = true) ∧
    (∀ (w : Bool) (l : List Mc), (mcs w l).length = l.length) ∧
    (∀ (w v : Bool) (l : List Mc) (kk : IntKind) (j : Int) (h1 : 0 ≤ j) (h2 : j < l.length), idxA 1 (.fs w (mcs v l)) (.v (.int kk j)) = some (.fp w [.fs v (rows v (l.getD j.toNat []))])) ∧
    (∀ (n : Nat) (w : Bool) (m : Mc), A.bd n (mcA w m) = true) ∧
    (∀ (n : Nat) (w : Bool) (l : List Mc), A.bdL n (mcs w l) = true) ∧
    (∀ (l : List Mc), A.clL (mcs true l) = true) ∧
    (∀ (n : Nat) (w v : Bool) (p : Pl), A.bdL n (plC w v p) = true) ∧
    (∀ (n : Nat) (w v : Bool) (p : Pl), A.bd n (plA w v p) = true) :=
  ⟨@bt_len, @bt_idx, @bt_bd, @bt_cl, @mc_len, @mc_idx, @mcA_bd, @mc_bd, @mc_cl, @plC_bd, @plA_bd⟩

/-! ### What the document says of machines -/
def rangeE (r : Int) : Int := if r < 0 ∨ 1000 < r then 1 else 0
def rowE (outs : Nat) (r : List Int) : Int :=
  if 4 < r.length then 8 else if r.length ≠ outs then 3 else if firstE rangeE r ≠ 0 then firstE rangeE r else if 0 < r.length ∧ r.sum ≠ 1000 then 17 else 0
def outsN (m : Mc) : Nat := (m.getD 0 []).length
def mcheck (m : Mc) (mat : Int) : Int :=
  if mat < 1 ∨ 16 < mat then 1 else if (m.length : Int) ≠ mat then 18 else firstE (rowE (outsN m)) m
def mainN (m : Mc) (mat : Int) : Int := if mat < 0 ∨ (m.length : Int) ≤ mat then -1 else idxE (fun r : Int => 0 < r) (m.getD mat.toNat [])

end Go.Proofs.Ytbgmhbjfcpddkaa
