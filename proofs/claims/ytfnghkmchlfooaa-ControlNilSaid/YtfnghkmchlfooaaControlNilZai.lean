/- Lemmas and walks that the proof of ControlNil uses. No statement is claimed here. -/
import Derived.Test.YtfnghkmchlfooaaControlNilZah
import Derived.Test.YtfnghkmchlfooaaChecked
import Derived.KernelRfl
namespace Go.Proofs.Ytfnghkmchlfooaa
open Go Go.Lft
set_option maxRecDepth 100000
noncomputable abbrev P : Program := Go.Proofs.Try.prog
theorem P_mixed : P.follows .mixedOrders = true := by kernel_rfl

/-- recycling/recyclinglaw36.ControlNil -/
abbrev n_law36_ControlNil : Nat := 10
def s_law36_ControlNil : S :=
 (.eff false (some 3) (.box 41 (.var 0))
 (.set 1 (.lit (.bool false))
 (.set 2 (.lit (.pointer none))
 (.call false (some 6) 23 (.cn (.var 2) (.cn (.u .ld1 (.u (.fld 1) (.var 3))) .nl))
 (.chk (.u (.ext 0) (.var 6))
 (.chk (.u (.ext 1) (.var 6))
 (.set 4 (.u (.ext 0) (.var 6))
 (.set 5 (.u (.ext 1) (.var 6))
 (.call false (some 7) 18 (.cn (.var 2) (.cn (.u (.lda 2) (.var 3)) .nl))
 (.chk (.ite (.ite (.ite (.b (.bin .eql) (.var 7) (.lit (.int .i64 14))) (.b (.bin .eql) (.var 4) (.lit (.int .i64 0))) (.lit (.bool false))) (.b (.bin .eql) (.var 5) (.lit (.int .i64 14))) (.lit (.bool false))) (.var 2) (.lit undef))
 (.seq
  (.ite (.ite (.ite (.b (.bin .eql) (.var 7) (.lit (.int .i64 14))) (.b (.bin .eql) (.var 4) (.lit (.int .i64 0))) (.lit (.bool false))) (.b (.bin .eql) (.var 5) (.lit (.int .i64 14))) (.lit (.bool false)))
   (.call false (some 8) 20 (.cn (.var 2) .nl)
   (.ite (.u (.un .not) (.var 8))
    (.call false (some 9) 12 .nl
    (.set 1 (.var 9)
    .nxt))
    (.set 9 (.lit undef)
    (.set 1 (.lit (.bool false))
    .nxt))))
   (.set 8 (.lit undef)
   (.set 9 (.lit undef)
   (.set 1 (.lit (.bool false))
   .nxt))))
 .ret)))))))))))
def f_law36_ControlNil : Fun := ⟨s_law36_ControlNil, [(.var 1)]⟩
abbrev v_law36_ControlNil : List Nat := [0, 2, 3, 1, 4, 5, 10, 15, 27, 31]
theorem c_law36_ControlNil : compF P Go.Proofs.Try.f10 v_law36_ControlNil = some f_law36_ControlNil := by kernel_rfl
theorem of_law36_ControlNil {args : List Value} (hn : args.length ≤ 33) {h : Heap} {R : Value → Heap → Prop} (hs : s_law36_ControlNil.wp P (f_law36_ControlNil.post R) (env0 v_law36_ControlNil args) h) : Runs P n_law36_ControlNil args h R := fn_of P_mixed Go.Proofs.Try.func10 c_law36_ControlNil (by rw [Go.Proofs.Try.ntmps10]; exact hn) hs
theorem vr_law36_ControlNil {kp : Bool} {args : List A} {H : List Blk} {R : A → List Blk → Prop} (hlen : args.length ≤ 33) (hk : kp = false ∨ H = []) (hw : (∀ B ∈ H, A.bdL H.length B.cells = true) → A.bdL H.length args = true → s_law36_ControlNil.aw P H.length (postA H.length f_law36_ControlNil R) (envA v_law36_ControlNil args) H) : VR P kp n_law36_ControlNil args H R := VR.of (F := f_law36_ControlNil) (V := v_law36_ControlNil) of_law36_ControlNil hlen hk fun h1 h2 => aw_sound (hw h1 h2)
theorem r_law36_ControlNil : Fun.res f_law36_ControlNil = [(.var 1)] := rfl

/-- recycling/recyclinglaw36.awake -/
abbrev n_law36_awake : Nat := 12
def s_law36_awake : S :=
 (.set 0 (.lit (.bool false))
 (.call false (some 17) 31 .nl
 (.call false (some 29) 13 (.cn (.var 17) .nl)
 (.chk (.u (.ext 0) (.var 29))
 (.chk (.u (.ext 1) (.var 29))
 (.set 1 (.u (.ext 0) (.var 29))
 (.set 2 (.u (.ext 1) (.var 29))
 (.call false (some 18) 31 .nl
 (.call false (some 30) 16 (.cn (.var 18) .nl)
 (.chk (.u (.ext 0) (.var 30))
 (.chk (.u (.ext 1) (.var 30))
 (.set 3 (.u (.ext 0) (.var 30))
 (.set 4 (.u (.ext 1) (.var 30))
 (.seq
  (.ite (.ite (.ite (.b (.eqp false) (.var 3) (.lit (.pointer none))) (.lit (.bool true)) (.b (.bin .neq) (.var 2) (.lit (.int .i64 0)))) (.lit (.bool true)) (.b (.bin .neq) (.var 4) (.lit (.int .i64 0))))
   (.set 0 (.lit (.bool false))
   .ret)
   .nxt)
 (.call false (some 19) 27 (.cn (.var 3) (.cn (.lit (.int .i64 0)) .nl))
 (.set 5 (.var 19)
 (.call false (some 20) 27 (.cn (.var 3) (.cn (.lit (.int .i64 2)) .nl))
 (.call false (some 31) 27 (.cn (.var 3) (.cn (.lit (.int .i64 3)) .nl))
 (.call false (some 33) 27 (.cn (.var 3) (.cn (.lit (.int .i64 1)) .nl))
 (.set 6 (.var 20)
 (.set 7 (.var 31)
 (.set 8 (.var 33)
 (.call false (some 21) 30 (.cn (.var 3) (.cn (.lit (.int .i64 2)) .nl))
 (.set 9 (.var 21)
 (.call false (some 22) 27 (.cn (.var 3) (.cn (.lit (.int .i64 2)) .nl))
 (.set 10 (.var 22)
 (.call false (some 23) 23 (.cn (.var 3) (.cn (.lit (.int .i64 2)) .nl))
 (.chk (.u (.ext 0) (.var 23))
 (.chk (.u (.ext 1) (.var 23))
 (.set 11 (.u (.ext 0) (.var 23))
 (.set 12 (.u (.ext 1) (.var 23))
 (.call false (some 24) 23 (.cn (.var 3) (.cn (.lit (.int .i64 0)) .nl))
 (.chk (.u (.ext 0) (.var 24))
 (.chk (.u (.ext 1) (.var 24))
 (.set 13 (.u (.ext 0) (.var 24))
 (.set 14 (.u (.ext 1) (.var 24))
 (.call false (some 25) 23 (.cn (.var 3) (.cn (.lit (.int .i64 3)) .nl))
 (.chk (.u (.ext 0) (.var 25))
 (.chk (.u (.ext 1) (.var 25))
 (.set 15 (.u (.ext 0) (.var 25))
 (.set 16 (.u (.ext 1) (.var 25))
 (.eff false (some 26) (.lit 3 1 1 [(.int .i64 0)] (.pl 0 1 (.lit (.int .i64 2)) .nl))
 (.eff false (some 27) (.lit 3 1 1 [(.int .i64 0)] (.pl 0 1 (.lit (.int .i64 3)) .nl))
 (.eff false (some 28) (.lit 3 1 2 [(.int .i64 0)] (.pl 0 1 (.lit (.int .i64 0)) (.pl 1 1 (.lit (.int .i64 1)) .nl)))
 (.eff false (some 32) (.lit 44 1 3 [(.slice none 0 0)] (.pl 0 1 (.var 26) (.pl 1 1 (.var 27) (.pl 2 1 (.var 28) .nl))))
 (.call false (some 34) 15 (.cn (.var 1) (.cn (.var 32) .nl))
 (.chk (.ite (.ite (.ite (.ite (.ite (.ite (.ite (.ite (.ite (.ite (.ite (.ite (.ite (.var 34) (.b (.bin .eql) (.var 5) (.lit (.int .i64 13))) (.lit (.bool false))) (.b (.bin .eql) (.var 6) (.lit (.int .i64 0))) (.lit (.bool false))) (.b (.bin .eql) (.var 7) (.lit (.int .i64 0))) (.lit (.bool false))) (.b (.bin .eql) (.var 8) (.lit (.int .i64 0))) (.lit (.bool false))) (.b (.bin .eql) (.var 9) (.lit (.int .i64 0))) (.lit (.bool false))) (.b (.bin .eql) (.var 10) (.lit (.int .i64 24))) (.lit (.bool false))) (.b (.bin .eql) (.var 11) (.lit (.int .i64 2))) (.lit (.bool false))) (.b (.bin .eql) (.var 12) (.lit (.int .i64 0))) (.lit (.bool false))) (.b (.bin .eql) (.var 13) (.lit (.int .i64 0))) (.lit (.bool false))) (.b (.bin .eql) (.var 14) (.lit (.int .i64 0))) (.lit (.bool false))) (.b (.bin .eql) (.var 15) (.lit (.int .i64 1))) (.lit (.bool false))) (.b (.bin .eql) (.var 16) (.lit (.int .i64 0))) (.lit (.bool false))) (.var 3) (.lit undef))
 (.seq
  (.ite (.ite (.ite (.ite (.ite (.ite (.ite (.ite (.ite (.ite (.ite (.ite (.ite (.var 34) (.b (.bin .eql) (.var 5) (.lit (.int .i64 13))) (.lit (.bool false))) (.b (.bin .eql) (.var 6) (.lit (.int .i64 0))) (.lit (.bool false))) (.b (.bin .eql) (.var 7) (.lit (.int .i64 0))) (.lit (.bool false))) (.b (.bin .eql) (.var 8) (.lit (.int .i64 0))) (.lit (.bool false))) (.b (.bin .eql) (.var 9) (.lit (.int .i64 0))) (.lit (.bool false))) (.b (.bin .eql) (.var 10) (.lit (.int .i64 24))) (.lit (.bool false))) (.b (.bin .eql) (.var 11) (.lit (.int .i64 2))) (.lit (.bool false))) (.b (.bin .eql) (.var 12) (.lit (.int .i64 0))) (.lit (.bool false))) (.b (.bin .eql) (.var 13) (.lit (.int .i64 0))) (.lit (.bool false))) (.b (.bin .eql) (.var 14) (.lit (.int .i64 0))) (.lit (.bool false))) (.b (.bin .eql) (.var 15) (.lit (.int .i64 1))) (.lit (.bool false))) (.b (.bin .eql) (.var 16) (.lit (.int .i64 0))) (.lit (.bool false)))
   (.call false (some 35) 26 (.cn (.var 3) (.cn (.lit (.int .i64 2)) .nl))
   (.chk (.ite (.b (.bin .eql) (.var 35) (.lit (.int .i64 0))) (.var 3) (.lit undef))
   (.ite (.b (.bin .eql) (.var 35) (.lit (.int .i64 0)))
    (.call false (some 36) 20 (.cn (.var 3) .nl)
    (.set 0 (.var 36)
    .nxt))
    (.set 36 (.lit undef)
    (.set 0 (.lit (.bool false))
    .nxt)))))
   (.set 35 (.lit undef)
   (.set 36 (.lit undef)
   (.set 0 (.lit (.bool false))
   .nxt))))
 .ret))))))))))))))))))))))))))))))))))))))))))))))))
def f_law36_awake : Fun := ⟨s_law36_awake, [(.var 0)]⟩
abbrev v_law36_awake : List Nat := [0, 1, 2, 3, 4, 5, 6, 7, 8, 9, 10, 11, 12, 13, 14, 15, 16, 18, 23, 38, 40, 46, 48, 51, 56, 61, 65, 66, 67, 19, 24, 42, 68, 44, 69, 120, 125]
theorem c_law36_awake : compF P Go.Proofs.Try.f12 v_law36_awake = some f_law36_awake := by kernel_rfl
theorem of_law36_awake {args : List Value} (hn : args.length ≤ 127) {h : Heap} {R : Value → Heap → Prop} (hs : s_law36_awake.wp P (f_law36_awake.post R) (env0 v_law36_awake args) h) : Runs P n_law36_awake args h R := fn_of P_mixed Go.Proofs.Try.func12 c_law36_awake (by rw [Go.Proofs.Try.ntmps12]; exact hn) hs
theorem vr_law36_awake {kp : Bool} {args : List A} {H : List Blk} {R : A → List Blk → Prop} (hlen : args.length ≤ 127) (hk : kp = false ∨ H = []) (hw : (∀ B ∈ H, A.bdL H.length B.cells = true) → A.bdL H.length args = true → s_law36_awake.aw P H.length (postA H.length f_law36_awake R) (envA v_law36_awake args) H) : VR P kp n_law36_awake args H R := VR.of (F := f_law36_awake) (V := v_law36_awake) of_law36_awake hlen hk fun h1 h2 => aw_sound (hw h1 h2)
theorem r_law36_awake : Fun.res f_law36_awake = [(.var 0)] := rfl

/-- recycling/control.Order -/
abbrev n_control_Order : Nat := 13
def s_control_Order : S :=
 (.eff false (some 3) (.box 25 (.var 0))
 (.set 1 (.lit (.slice none 0 0))
 (.set 2 (.lit (.int .i64 0))
 (.call false (some 12) 32 (.cn (.u (.lda 4) (.var 3)) .nl)
 (.chk (.u (.ext 0) (.var 12))
 (.chk (.u (.ext 1) (.var 12))
 (.chk (.u (.ext 2) (.var 12))
 (.chk (.u (.ext 3) (.var 12))
 (.eff false (some 7) (.alloc 52 [(.int .i64 0), (.slice none 0 0)])
 (.eff false (some 5) (.alloc 28 [(.slice none 0 0)])
 (.eff false (some 8) (.alloc 44 [(.slice none 0 0)])
 (.eff false none (.st 2 (.var 7) (.u (.ext 0) (.var 12)))
 (.eff false none (.st 1 (.var 5) (.u (.ext 1) (.var 12)))
 (.eff false none (.st 1 (.var 8) (.u (.ext 2) (.var 12)))
 (.set 4 (.u (.ext 3) (.var 12))
 (.seq
  (.ite (.b (.bin .neq) (.var 4) (.lit (.int .i64 0)))
   (.set 1 (.lit (.slice none 0 0))
   (.set 2 (.var 4)
   .ret))
   .nxt)
 (.eff false (some 13) (.mk 4 1 1 [(.bool false)] (.u .len (.u .ld1 (.var 5))) (.u .len (.u .ld1 (.var 5))))
 (.eff false (some 6) (.alloc 62 [(.slice none 0 0)])
 (.eff false none (.st 1 (.var 6) (.var 13))
 (.chk (.fn 33 (.cn (.var 5) (.cn (.var 6) (.cn (.var 7) (.cn (.var 8) .nl)))))
 (.set 9 (.fn 33 (.cn (.var 5) (.cn (.var 6) (.cn (.var 7) (.cn (.var 8) .nl)))))
 (.set 10 (.lit (.slice none 0 0))
 (.callv false (some 14) (.var 9) .nl
 (.set 11 (.var 14)
 (.seq
  (.blk 0
   (.loop
    (.seq
     (.ite (.b (.bin .geq) (.var 11) (.lit (.int .i64 0)))
      .nxt
      (.exit 0))
    (.seq
     (.blk 1
      (.eff false none (.st 1 (.b (.idx 1) (.u .ld1 (.var 6)) (.var 11)) (.lit (.bool true)))
      (.eff false (some 15) (.lit 44 1 1 [(.slice none 0 0)] (.pl 0 1 (.u .ld1 (.b (.idx 1) (.u .ld1 (.var 5)) (.var 11))) .nl))
      (.eff false (some 17) (.app 44 1 24 [(.slice none 0 0)] (.var 10) (.var 15))
      (.set 10 (.var 17)
      .nxt)))))
    (.callv false (some 16) (.var 9) .nl
    (.set 11 (.var 16)
    .nxt))))))
 (.set 1 (.var 10)
 (.set 2 (.lit (.int .i64 0))
 .ret)))))))))))))))))))))))))))
def f_control_Order : Fun := ⟨s_control_Order, [(.var 1), (.var 2)]⟩
abbrev v_control_Order : List Nat := [0, 2, 3, 1, 7, 5, 8, 4, 6, 9, 10, 11, 14, 24, 27, 40, 31, 41]
theorem c_control_Order : compF P Go.Proofs.Try.f13 v_control_Order = some f_control_Order := by kernel_rfl
theorem of_control_Order {args : List Value} (hn : args.length ≤ 43) {h : Heap} {R : Value → Heap → Prop} (hs : s_control_Order.wp P (f_control_Order.post R) (env0 v_control_Order args) h) : Runs P n_control_Order args h R := fn_of P_mixed Go.Proofs.Try.func13 c_control_Order (by rw [Go.Proofs.Try.ntmps13]; exact hn) hs
theorem vr_control_Order {kp : Bool} {args : List A} {H : List Blk} {R : A → List Blk → Prop} (hlen : args.length ≤ 43) (hk : kp = false ∨ H = []) (hw : (∀ B ∈ H, A.bdL H.length B.cells = true) → A.bdL H.length args = true → s_control_Order.aw P H.length (postA H.length f_control_Order R) (envA v_control_Order args) H) : VR P kp n_control_Order args H R := VR.of (F := f_control_Order) (V := v_control_Order) of_control_Order hlen hk fun h1 h2 => aw_sound (hw h1 h2)
theorem r_control_Order : Fun.res f_control_Order = [(.var 1), (.var 2)] := rfl
abbrev g_control_Order_0 : List Nat := [10, 11, 15, 16, 17]

/-- recycling/recyclingref09.Lists -/
abbrev n_ref09_Lists : Nat := 15
def s_ref09_Lists : S :=
 (.set 2 (.lit (.bool false))
 (.seq
  (.ite (.b (.bin .neq) (.u .len (.var 0)) (.u .len (.var 1)))
   (.set 2 (.lit (.bool false))
   .ret)
   .nxt)
 (.set 4 (.u .len (.var 0))
 (.set 3 (.lit (.int .i64 0))
 (.seq
  (.blk 0
   (.loop
    (.set 5 (.b (.bin .lss) (.var 3) (.var 4))
    (.seq
     (.ite (.var 5)
      .nxt
      (.exit 0))
    (.seq
     (.blk 1
      (.set 6 (.var 3)
      (.call false (some 7) 25 (.cn (.u .ld1 (.b (.idx 1) (.var 0) (.var 6))) (.cn (.u .ld1 (.b (.idx 1) (.var 1) (.var 6))) .nl))
      (.ite (.u (.un .not) (.var 7))
       (.set 2 (.lit (.bool false))
       .ret)
       .nxt))))
    (.set 3 (.b (.bin .add) (.var 3) (.lit (.int .i64 1)))
    .nxt))))))
 (.set 2 (.lit (.bool true))
 .ret))))))
def f_ref09_Lists : Fun := ⟨s_ref09_Lists, [(.var 2)]⟩
abbrev v_ref09_Lists : List Nat := [0, 1, 4, 13, 12, 14, 5, 24]
theorem c_ref09_Lists : compF P Go.Proofs.Try.f15 v_ref09_Lists = some f_ref09_Lists := by kernel_rfl
theorem of_ref09_Lists {args : List Value} (hn : args.length ≤ 27) {h : Heap} {R : Value → Heap → Prop} (hs : s_ref09_Lists.wp P (f_ref09_Lists.post R) (env0 v_ref09_Lists args) h) : Runs P n_ref09_Lists args h R := fn_of P_mixed Go.Proofs.Try.func15 c_ref09_Lists (by rw [Go.Proofs.Try.ntmps15]; exact hn) hs
theorem vr_ref09_Lists {kp : Bool} {args : List A} {H : List Blk} {R : A → List Blk → Prop} (hlen : args.length ≤ 27) (hk : kp = false ∨ H = []) (hw : (∀ B ∈ H, A.bdL H.length B.cells = true) → A.bdL H.length args = true → s_ref09_Lists.aw P H.length (postA H.length f_ref09_Lists R) (envA v_ref09_Lists args) H) : VR P kp n_ref09_Lists args H R := VR.of (F := f_ref09_Lists) (V := v_ref09_Lists) of_ref09_Lists hlen hk fun h1 h2 => aw_sound (hw h1 h2)
theorem r_ref09_Lists : Fun.res f_ref09_Lists = [(.var 2)] := rfl
abbrev g_ref09_Lists_0 : List Nat := [2, 3, 5, 6, 7]

/-- recycling/control.New -/
abbrev n_control_New : Nat := 16
def s_control_New : S :=
 (.eff false (some 3) (.box 25 (.var 0))
 (.set 1 (.lit (.pointer none))
 (.set 2 (.lit (.int .i64 0))
 (.call false (some 8) 32 (.cn (.u (.lda 4) (.var 3)) .nl)
 (.chk (.u (.ext 0) (.var 8))
 (.chk (.u (.ext 1) (.var 8))
 (.chk (.u (.ext 2) (.var 8))
 (.chk (.u (.ext 3) (.var 8))
 (.eff false (some 7) (.alloc 52 [(.int .i64 0), (.slice none 0 0)])
 (.eff false none (.st 2 (.var 7) (.u (.ext 0) (.var 8)))
 (.set 4 (.u (.ext 1) (.var 8))
 (.set 5 (.u (.ext 2) (.var 8))
 (.set 6 (.u (.ext 3) (.var 8))
 (.seq
  (.ite (.b (.bin .neq) (.var 6) (.lit (.int .i64 0)))
   (.set 1 (.lit (.pointer none))
   (.set 2 (.var 6)
   .ret))
   .nxt)
 (.chk (.u (.lda 2) (.var 7))
 (.eff false (some 9) (.mk 3 1 8 [(.int .i64 0)] (.u .ld1 (.u (.fld 0) (.var 7))) (.u .ld1 (.u (.fld 0) (.var 7))))
 (.chk (.bld [(.int .i64 0), (.slice none 0 0), (.slice none 0 0), (.slice none 0 0), (.slice none 0 0)] (.pl 0 2 (.u (.lda 2) (.var 7)) (.pl 2 1 (.var 4) (.pl 3 1 (.var 5) (.pl 4 1 (.var 9) .nl)))))
 (.eff false (some 10) (.box 78 (.bld [(.int .i64 0), (.slice none 0 0), (.slice none 0 0), (.slice none 0 0), (.slice none 0 0)] (.pl 0 2 (.u (.lda 2) (.var 7)) (.pl 2 1 (.var 4) (.pl 3 1 (.var 5) (.pl 4 1 (.var 9) .nl))))))
 (.set 1 (.var 10)
 (.set 2 (.lit (.int .i64 0))
 .ret))))))))))))))))))))
def f_control_New : Fun := ⟨s_control_New, [(.var 1), (.var 2)]⟩
abbrev v_control_New : List Nat := [0, 2, 3, 1, 5, 6, 7, 4, 10, 23, 25]
theorem c_control_New : compF P Go.Proofs.Try.f16 v_control_New = some f_control_New := by kernel_rfl
theorem of_control_New {args : List Value} (hn : args.length ≤ 26) {h : Heap} {R : Value → Heap → Prop} (hs : s_control_New.wp P (f_control_New.post R) (env0 v_control_New args) h) : Runs P n_control_New args h R := fn_of P_mixed Go.Proofs.Try.func16 c_control_New (by rw [Go.Proofs.Try.ntmps16]; exact hn) hs
theorem vr_control_New {kp : Bool} {args : List A} {H : List Blk} {R : A → List Blk → Prop} (hlen : args.length ≤ 26) (hk : kp = false ∨ H = []) (hw : (∀ B ∈ H, A.bdL H.length B.cells = true) → A.bdL H.length args = true → s_control_New.aw P H.length (postA H.length f_control_New R) (envA v_control_New args) H) : VR P kp n_control_New args H R := VR.of (F := f_control_New) (V := v_control_New) of_control_New hlen hk fun h1 h2 => aw_sound (hw h1 h2)
theorem r_control_New : Fun.res f_control_New = [(.var 1), (.var 2)] := rfl

/-- recycling/recyclinglaw36.do -/
abbrev n_law36_do : Nat := 18
def s_law36_do : S :=
 (.eff false (some 3) (.box 41 (.var 1))
 (.set 2 (.lit (.int .i64 0))
 (.set 4 (.u .ld1 (.u (.fld 0) (.var 3)))
 (.seq
  (.blk 0
   (.set 5 (.b (.bin .eql) (.var 4) (.lit (.int .i64 0)))
   (.ite (.var 5)
    (.call false (some 8) 27 (.cn (.var 0) (.cn (.u .ld1 (.u (.fld 1) (.var 3))) .nl))
    (.set 2 (.var 8)
    .ret))
    (.set 6 (.b (.bin .eql) (.var 4) (.lit (.int .i64 1)))
    (.ite (.var 6)
     (.call false (some 9) 28 (.cn (.var 0) (.cn (.u .ld1 (.u (.fld 1) (.var 3))) .nl))
     (.set 2 (.var 9)
     .ret))
     (.set 7 (.b (.bin .eql) (.var 4) (.lit (.int .i64 2)))
     (.ite (.var 7)
      (.call false (some 10) 30 (.cn (.var 0) (.cn (.u .ld1 (.u (.fld 1) (.var 3))) .nl))
      (.set 2 (.var 10)
      .ret))
      .nxt)))))))
 (.call false (some 11) 26 (.cn (.var 0) (.cn (.u .ld1 (.u (.fld 1) (.var 3))) .nl))
 (.set 2 (.var 11)
 .ret))))))
def f_law36_do : Fun := ⟨s_law36_do, [(.var 2)]⟩
abbrev v_law36_do : List Nat := [0, 1, 4, 3, 6, 7, 13, 19, 12, 18, 24, 28]
theorem c_law36_do : compF P Go.Proofs.Try.f18 v_law36_do = some f_law36_do := by kernel_rfl
theorem of_law36_do {args : List Value} (hn : args.length ≤ 29) {h : Heap} {R : Value → Heap → Prop} (hs : s_law36_do.wp P (f_law36_do.post R) (env0 v_law36_do args) h) : Runs P n_law36_do args h R := fn_of P_mixed Go.Proofs.Try.func18 c_law36_do (by rw [Go.Proofs.Try.ntmps18]; exact hn) hs
theorem vr_law36_do {kp : Bool} {args : List A} {H : List Blk} {R : A → List Blk → Prop} (hlen : args.length ≤ 29) (hk : kp = false ∨ H = []) (hw : (∀ B ∈ H, A.bdL H.length B.cells = true) → A.bdL H.length args = true → s_law36_do.aw P H.length (postA H.length f_law36_do R) (envA v_law36_do args) H) : VR P kp n_law36_do args H R := VR.of (F := f_law36_do) (V := v_law36_do) of_law36_do hlen hk fun h1 h2 => aw_sound (hw h1 h2)
theorem r_law36_do : Fun.res f_law36_do = [(.var 2)] := rfl

/-- (*recycling/control.Panel).Safe -/
abbrev n_control_Panel_Safe : Nat := 20
def s_control_Panel_Safe : S :=
 (.eff false (some 2) (.box 34 (.var 0))
 (.set 1 (.lit (.bool false))
 (.seq
  (.ite (.b (.eqp false) (.u .ld1 (.var 2)) (.lit (.pointer none)))
   (.set 1 (.lit (.bool false))
   .ret)
   .nxt)
 (.chk (.u .ld1 (.u (.fld 1) (.u (.fld 0) (.u .nilc (.u .ld1 (.var 2))))))
 (.chk (.fn 42 (.cn (.var 2) .nl))
 (.call false (some 3) 41 (.cn (.u .ld1 (.u (.fld 1) (.u (.fld 0) (.u .nilc (.u .ld1 (.var 2)))))) (.cn (.fn 42 (.cn (.var 2) .nl)) .nl))
 (.set 1 (.u (.un .not) (.var 3))
 .ret)))))))
def f_control_Panel_Safe : Fun := ⟨s_control_Panel_Safe, [(.var 1)]⟩
abbrev v_control_Panel_Safe : List Nat := [0, 2, 1, 11]
theorem c_control_Panel_Safe : compF P Go.Proofs.Try.f20 v_control_Panel_Safe = some f_control_Panel_Safe := by kernel_rfl
theorem of_control_Panel_Safe {args : List Value} (hn : args.length ≤ 13) {h : Heap} {R : Value → Heap → Prop} (hs : s_control_Panel_Safe.wp P (f_control_Panel_Safe.post R) (env0 v_control_Panel_Safe args) h) : Runs P n_control_Panel_Safe args h R := fn_of P_mixed Go.Proofs.Try.func20 c_control_Panel_Safe (by rw [Go.Proofs.Try.ntmps20]; exact hn) hs
theorem vr_control_Panel_Safe {kp : Bool} {args : List A} {H : List Blk} {R : A → List Blk → Prop} (hlen : args.length ≤ 13) (hk : kp = false ∨ H = []) (hw : (∀ B ∈ H, A.bdL H.length B.cells = true) → A.bdL H.length args = true → s_control_Panel_Safe.aw P H.length (postA H.length f_control_Panel_Safe R) (envA v_control_Panel_Safe args) H) : VR P kp n_control_Panel_Safe args H R := VR.of (F := f_control_Panel_Safe) (V := v_control_Panel_Safe) of_control_Panel_Safe hlen hk fun h1 h2 => aw_sound (hw h1 h2)
theorem r_control_Panel_Safe : Fun.res f_control_Panel_Safe = [(.var 1)] := rfl

/-- (*recycling/control.Panel).State -/
abbrev n_control_Panel_State : Nat := 23
def s_control_Panel_State : S :=
 (.set 2 (.lit (.int .i64 0))
 (.set 3 (.lit (.int .i64 0))
 (.call false (some 5) 43 (.cn (.var 0) (.cn (.var 1) .nl))
 (.set 4 (.var 5)
 (.seq
  (.ite (.b (.bin .neq) (.var 4) (.lit (.int .i64 0)))
   (.set 2 (.lit (.int .i64 0))
   (.set 3 (.var 4)
   .ret))
   .nxt)
 (.set 2 (.u .ld1 (.b (.idx 1) (.u .ld1 (.u (.fld 4) (.u .nilc (.var 0)))) (.var 1)))
 (.set 3 (.lit (.int .i64 0))
 .ret)))))))
def f_control_Panel_State : Fun := ⟨s_control_Panel_State, [(.var 2), (.var 3)]⟩
abbrev v_control_Panel_State : List Nat := [0, 1, 4, 5, 6, 9]
theorem c_control_Panel_State : compF P Go.Proofs.Try.f23 v_control_Panel_State = some f_control_Panel_State := by kernel_rfl
theorem of_control_Panel_State {args : List Value} (hn : args.length ≤ 20) {h : Heap} {R : Value → Heap → Prop} (hs : s_control_Panel_State.wp P (f_control_Panel_State.post R) (env0 v_control_Panel_State args) h) : Runs P n_control_Panel_State args h R := fn_of P_mixed Go.Proofs.Try.func23 c_control_Panel_State (by rw [Go.Proofs.Try.ntmps23]; exact hn) hs
theorem vr_control_Panel_State {kp : Bool} {args : List A} {H : List Blk} {R : A → List Blk → Prop} (hlen : args.length ≤ 20) (hk : kp = false ∨ H = []) (hw : (∀ B ∈ H, A.bdL H.length B.cells = true) → A.bdL H.length args = true → s_control_Panel_State.aw P H.length (postA H.length f_control_Panel_State R) (envA v_control_Panel_State args) H) : VR P kp n_control_Panel_State args H R := VR.of (F := f_control_Panel_State) (V := v_control_Panel_State) of_control_Panel_State hlen hk fun h1 h2 => aw_sound (hw h1 h2)
theorem r_control_Panel_State : Fun.res f_control_Panel_State = [(.var 2), (.var 3)] := rfl

/-- recycling/recyclingref09.Ints -/
abbrev n_ref09_Ints : Nat := 25
def s_ref09_Ints : S :=
 (.set 2 (.lit (.bool false))
 (.seq
  (.ite (.b (.bin .neq) (.u .len (.var 0)) (.u .len (.var 1)))
   (.set 2 (.lit (.bool false))
   .ret)
   .nxt)
 (.set 4 (.u .len (.var 0))
 (.set 3 (.lit (.int .i64 0))
 (.seq
  (.blk 0
   (.loop
    (.set 5 (.b (.bin .lss) (.var 3) (.var 4))
    (.seq
     (.ite (.var 5)
      .nxt
      (.exit 0))
    (.seq
     (.blk 1
      (.set 6 (.var 3)
      (.ite (.b (.bin .neq) (.u .ld1 (.b (.idx 1) (.var 0) (.var 6))) (.u .ld1 (.b (.idx 1) (.var 1) (.var 6))))
       (.set 2 (.lit (.bool false))
       .ret)
       .nxt)))
    (.set 3 (.b (.bin .add) (.var 3) (.lit (.int .i64 1)))
    .nxt))))))
 (.set 2 (.lit (.bool true))
 .ret))))))
def f_ref09_Ints : Fun := ⟨s_ref09_Ints, [(.var 2)]⟩
abbrev v_ref09_Ints : List Nat := [0, 1, 4, 13, 12, 14, 5]
theorem c_ref09_Ints : compF P Go.Proofs.Try.f25 v_ref09_Ints = some f_ref09_Ints := by kernel_rfl
theorem of_ref09_Ints {args : List Value} (hn : args.length ≤ 26) {h : Heap} {R : Value → Heap → Prop} (hs : s_ref09_Ints.wp P (f_ref09_Ints.post R) (env0 v_ref09_Ints args) h) : Runs P n_ref09_Ints args h R := fn_of P_mixed Go.Proofs.Try.func25 c_ref09_Ints (by rw [Go.Proofs.Try.ntmps25]; exact hn) hs
theorem vr_ref09_Ints {kp : Bool} {args : List A} {H : List Blk} {R : A → List Blk → Prop} (hlen : args.length ≤ 26) (hk : kp = false ∨ H = []) (hw : (∀ B ∈ H, A.bdL H.length B.cells = true) → A.bdL H.length args = true → s_ref09_Ints.aw P H.length (postA H.length f_ref09_Ints R) (envA v_ref09_Ints args) H) : VR P kp n_ref09_Ints args H R := VR.of (F := f_ref09_Ints) (V := v_ref09_Ints) of_ref09_Ints hlen hk fun h1 h2 => aw_sound (hw h1 h2)
theorem r_ref09_Ints : Fun.res f_ref09_Ints = [(.var 2)] := rfl
abbrev g_ref09_Ints_0 : List Nat := [2, 3, 5, 6]

/-- (*recycling/control.Panel).Clear -/
abbrev n_control_Panel_Clear : Nat := 26
def s_control_Panel_Clear : S :=
 (.set 2 (.lit (.int .i64 0))
 (.call false (some 4) 43 (.cn (.var 0) (.cn (.var 1) .nl))
 (.set 3 (.var 4)
 (.seq
  (.ite (.b (.bin .neq) (.var 3) (.lit (.int .i64 0)))
   (.set 2 (.var 3)
   .ret)
   .nxt)
 (.seq
  (.ite (.b (.bin .neq) (.u .ld1 (.b (.idx 1) (.u .ld1 (.u (.fld 4) (.u .nilc (.var 0)))) (.var 1))) (.lit (.int .i64 2)))
   (.set 2 (.lit (.int .i64 13))
   .ret)
   .nxt)
 (.eff false none (.st 1 (.b (.idx 1) (.u .ld1 (.u (.fld 4) (.u .nilc (.var 0)))) (.var 1)) (.lit (.int .i64 0)))
 (.set 2 (.lit (.int .i64 0))
 .ret)))))))
def f_control_Panel_Clear : Fun := ⟨s_control_Panel_Clear, [(.var 2)]⟩
abbrev v_control_Panel_Clear : List Nat := [0, 1, 4, 5, 8]
theorem c_control_Panel_Clear : compF P Go.Proofs.Try.f26 v_control_Panel_Clear = some f_control_Panel_Clear := by kernel_rfl
theorem of_control_Panel_Clear {args : List Value} (hn : args.length ≤ 26) {h : Heap} {R : Value → Heap → Prop} (hs : s_control_Panel_Clear.wp P (f_control_Panel_Clear.post R) (env0 v_control_Panel_Clear args) h) : Runs P n_control_Panel_Clear args h R := fn_of P_mixed Go.Proofs.Try.func26 c_control_Panel_Clear (by rw [Go.Proofs.Try.ntmps26]; exact hn) hs
theorem vr_control_Panel_Clear {kp : Bool} {args : List A} {H : List Blk} {R : A → List Blk → Prop} (hlen : args.length ≤ 26) (hk : kp = false ∨ H = []) (hw : (∀ B ∈ H, A.bdL H.length B.cells = true) → A.bdL H.length args = true → s_control_Panel_Clear.aw P H.length (postA H.length f_control_Panel_Clear R) (envA v_control_Panel_Clear args) H) : VR P kp n_control_Panel_Clear args H R := VR.of (F := f_control_Panel_Clear) (V := v_control_Panel_Clear) of_control_Panel_Clear hlen hk fun h1 h2 => aw_sound (hw h1 h2)
theorem r_control_Panel_Clear : Fun.res f_control_Panel_Clear = [(.var 2)] := rfl

/-- (*recycling/control.Panel).Start -/
abbrev n_control_Panel_Start : Nat := 27
def s_control_Panel_Start : S :=
 (.set 2 (.lit (.int .i64 0))
 (.call false (some 20) 43 (.cn (.var 0) (.cn (.var 1) .nl))
 (.set 3 (.var 20)
 (.seq
  (.ite (.b (.bin .neq) (.var 3) (.lit (.int .i64 0)))
   (.set 2 (.var 3)
   .ret)
   .nxt)
 (.set 4 (.u .ld1 (.b (.idx 1) (.u .ld1 (.u (.fld 3) (.u .nilc (.var 0)))) (.var 1)))
 (.set 8 (.u .ld1 (.b (.idx 1) (.u .ld1 (.u (.fld 2) (.u .nilc (.var 0)))) (.var 4)))
 (.set 6 (.u .len (.var 8))
 (.set 5 (.lit (.int .i64 0))
 (.seq
  (.blk 0
   (.loop
    (.set 7 (.b (.bin .lss) (.var 5) (.var 6))
    (.seq
     (.ite (.var 7)
      .nxt
      (.exit 0))
    (.seq
     (.blk 1
      (.set 9 (.u .ld1 (.b (.idx 1) (.var 8) (.var 5)))
      (.ite (.b (.bin .eql) (.u .ld1 (.b (.idx 1) (.u .ld1 (.u (.fld 4) (.u .nilc (.var 0)))) (.var 9))) (.lit (.int .i64 2)))
       (.set 2 (.lit (.int .i64 24))
       .ret)
       .nxt)))
    (.set 5 (.b (.bin .add) (.var 5) (.lit (.int .i64 1)))
    .nxt))))))
 (.set 13 (.u .ld1 (.u (.fld 1) (.u (.fld 0) (.u .nilc (.var 0)))))
 (.set 11 (.u .len (.var 13))
 (.set 10 (.lit (.int .i64 0))
 (.seq
  (.blk 2
   (.loop
    (.set 12 (.b (.bin .lss) (.var 10) (.var 11))
    (.seq
     (.ite (.var 12)
      .nxt
      (.exit 2))
    (.seq
     (.blk 3
      (.chk (.u (.lda 2) (.b (.idx 2) (.var 13) (.var 10)))
      (.eff false (some 14) (.alloc 61 [(.int .i64 0), (.int .i64 0)])
      (.eff false none (.st 2 (.var 14) (.u (.lda 2) (.b (.idx 2) (.var 13) (.var 10))))
      (.ite (.ite (.ite (.b (.bin .eql) (.u .ld1 (.b (.idx 1) (.u .ld1 (.u (.fld 3) (.u .nilc (.var 0)))) (.u .ld1 (.u (.fld 0) (.var 14))))) (.var 4)) (.b (.bin .neq) (.u .ld1 (.b (.idx 1) (.u .ld1 (.u (.fld 3) (.u .nilc (.var 0)))) (.u .ld1 (.u (.fld 1) (.var 14))))) (.var 4)) (.lit (.bool false))) (.b (.bin .neq) (.u .ld1 (.b (.idx 1) (.u .ld1 (.u (.fld 4) (.u .nilc (.var 0)))) (.u .ld1 (.u (.fld 1) (.var 14))))) (.lit (.int .i64 1))) (.lit (.bool false)))
       (.set 2 (.lit (.int .i64 13))
       .ret)
       .nxt)))))
    (.set 10 (.b (.bin .add) (.var 10) (.lit (.int .i64 1)))
    .nxt))))))
 (.set 18 (.u .ld1 (.b (.idx 1) (.u .ld1 (.u (.fld 2) (.u .nilc (.var 0)))) (.var 4)))
 (.set 16 (.u .len (.var 18))
 (.set 15 (.lit (.int .i64 0))
 (.seq
  (.blk 4
   (.loop
    (.set 17 (.b (.bin .lss) (.var 15) (.var 16))
    (.seq
     (.ite (.var 17)
      .nxt
      (.exit 4))
    (.seq
     (.blk 5
      (.set 19 (.u .ld1 (.b (.idx 1) (.var 18) (.var 15)))
      (.eff false none (.st 1 (.b (.idx 1) (.u .ld1 (.u (.fld 4) (.u .nilc (.var 0)))) (.var 19)) (.lit (.int .i64 1)))
      .nxt)))
    (.set 15 (.b (.bin .add) (.var 15) (.lit (.int .i64 1)))
    .nxt))))))
 (.set 2 (.lit (.int .i64 0))
 .ret))))))))))))))))))
def f_control_Panel_Start : Fun := ⟨s_control_Panel_Start, [(.var 2)]⟩
abbrev v_control_Panel_Start : List Nat := [0, 1, 4, 5, 6, 34, 33, 35, 32, 8, 53, 52, 54, 51, 10, 99, 98, 100, 97, 12, 15]
theorem c_control_Panel_Start : compF P Go.Proofs.Try.f27 v_control_Panel_Start = some f_control_Panel_Start := by kernel_rfl
theorem of_control_Panel_Start {args : List Value} (hn : args.length ≤ 110) {h : Heap} {R : Value → Heap → Prop} (hs : s_control_Panel_Start.wp P (f_control_Panel_Start.post R) (env0 v_control_Panel_Start args) h) : Runs P n_control_Panel_Start args h R := fn_of P_mixed Go.Proofs.Try.func27 c_control_Panel_Start (by rw [Go.Proofs.Try.ntmps27]; exact hn) hs
theorem vr_control_Panel_Start {kp : Bool} {args : List A} {H : List Blk} {R : A → List Blk → Prop} (hlen : args.length ≤ 110) (hk : kp = false ∨ H = []) (hw : (∀ B ∈ H, A.bdL H.length B.cells = true) → A.bdL H.length args = true → s_control_Panel_Start.aw P H.length (postA H.length f_control_Panel_Start R) (envA v_control_Panel_Start args) H) : VR P kp n_control_Panel_Start args H R := VR.of (F := f_control_Panel_Start) (V := v_control_Panel_Start) of_control_Panel_Start hlen hk fun h1 h2 => aw_sound (hw h1 h2)
theorem r_control_Panel_Start : Fun.res f_control_Panel_Start = [(.var 2)] := rfl
abbrev g_control_Panel_Start_0 : List Nat := [2, 5, 7, 9]
abbrev g_control_Panel_Start_1 : List Nat := [2, 10, 12, 14]
abbrev g_control_Panel_Start_2 : List Nat := [15, 17, 19]

/-- (*recycling/control.Panel).Stop -/
abbrev n_control_Panel_Stop : Nat := 28
def s_control_Panel_Stop : S :=
 (.set 2 (.lit (.int .i64 0))
 (.call false (some 12) 43 (.cn (.var 0) (.cn (.var 1) .nl))
 (.set 3 (.var 12)
 (.seq
  (.ite (.b (.bin .neq) (.var 3) (.lit (.int .i64 0)))
   (.set 2 (.var 3)
   .ret)
   .nxt)
 (.call false (some 13) 45 (.cn (.u (.lda 2) (.u (.fld 0) (.u .nilc (.var 0)))) (.cn (.var 1) .nl))
 (.chk (.u (.ext 0) (.var 13))
 (.chk (.u (.ext 1) (.var 13))
 (.set 4 (.u (.ext 0) (.var 13))
 (.set 5 (.u (.ext 1) (.var 13))
 (.seq
  (.ite (.b (.bin .neq) (.var 5) (.lit (.int .i64 0)))
   (.set 2 (.var 5)
   .ret)
   .nxt)
 (.set 9 (.var 4)
 (.set 7 (.u .len (.var 9))
 (.set 6 (.lit (.int .i64 0))
 (.seq
  (.blk 0
   (.loop
    (.set 8 (.b (.bin .lss) (.var 6) (.var 7))
    (.seq
     (.ite (.var 8)
      .nxt
      (.exit 0))
    (.seq
     (.blk 1
      (.chk (.u .ld1 (.b (.idx 1) (.var 9) (.var 6)))
      (.set 10 (.var 6)
      (.set 11 (.u .ld1 (.b (.idx 1) (.var 9) (.var 6)))
      (.ite (.var 11)
       (.set 14 (.u .ld1 (.u (.fld 4) (.u .nilc (.var 0))))
       (.call true (some 15) 46 (.cn (.u .ld1 (.b (.idx 1) (.u .ld1 (.u (.fld 4) (.u .nilc (.var 0)))) (.var 10))) .nl)
       (.eff false none (.st 1 (.b (.idx 1) (.var 14) (.var 10)) (.var 15))
       .nxt)))
       .nxt)))))
    (.set 6 (.b (.bin .add) (.var 6) (.lit (.int .i64 1)))
    .nxt))))))
 (.set 2 (.lit (.int .i64 0))
 .ret)))))))))))))))
def f_control_Panel_Stop : Fun := ⟨s_control_Panel_Stop, [(.var 2)]⟩
abbrev v_control_Panel_Stop : List Nat := [0, 1, 4, 5, 6, 7, 30, 29, 31, 28, 8, 9, 12, 22, 39, 48]
theorem c_control_Panel_Stop : compF P Go.Proofs.Try.f28 v_control_Panel_Stop = some f_control_Panel_Stop := by kernel_rfl
theorem of_control_Panel_Stop {args : List Value} (hn : args.length ≤ 51) {h : Heap} {R : Value → Heap → Prop} (hs : s_control_Panel_Stop.wp P (f_control_Panel_Stop.post R) (env0 v_control_Panel_Stop args) h) : Runs P n_control_Panel_Stop args h R := fn_of P_mixed Go.Proofs.Try.func28 c_control_Panel_Stop (by rw [Go.Proofs.Try.ntmps28]; exact hn) hs
theorem vr_control_Panel_Stop {kp : Bool} {args : List A} {H : List Blk} {R : A → List Blk → Prop} (hlen : args.length ≤ 51) (hk : kp = false ∨ H = []) (hw : (∀ B ∈ H, A.bdL H.length B.cells = true) → A.bdL H.length args = true → s_control_Panel_Stop.aw P H.length (postA H.length f_control_Panel_Stop R) (envA v_control_Panel_Stop args) H) : VR P kp n_control_Panel_Stop args H R := VR.of (F := f_control_Panel_Stop) (V := v_control_Panel_Stop) of_control_Panel_Stop hlen hk fun h1 h2 => aw_sound (hw h1 h2)
theorem r_control_Panel_Stop : Fun.res f_control_Panel_Stop = [(.var 2)] := rfl
abbrev g_control_Panel_Stop_0 : List Nat := [6, 8, 10, 11, 14, 15]

/-- (*recycling/control.Panel).Jam -/
abbrev n_control_Panel_Jam : Nat := 30
def s_control_Panel_Jam : S :=
 (.set 2 (.lit (.int .i64 0))
 (.call false (some 4) 28 (.cn (.var 0) (.cn (.var 1) .nl))
 (.set 3 (.var 4)
 (.seq
  (.ite (.b (.bin .neq) (.var 3) (.lit (.int .i64 0)))
   (.set 2 (.var 3)
   .ret)
   .nxt)
 (.eff false none (.st 1 (.b (.idx 1) (.u .ld1 (.u (.fld 4) (.u .nilc (.var 0)))) (.var 1)) (.lit (.int .i64 2)))
 (.set 2 (.lit (.int .i64 0))
 .ret))))))
def f_control_Panel_Jam : Fun := ⟨s_control_Panel_Jam, [(.var 2)]⟩
abbrev v_control_Panel_Jam : List Nat := [0, 1, 4, 5, 8]
theorem c_control_Panel_Jam : compF P Go.Proofs.Try.f30 v_control_Panel_Jam = some f_control_Panel_Jam := by kernel_rfl
theorem of_control_Panel_Jam {args : List Value} (hn : args.length ≤ 18) {h : Heap} {R : Value → Heap → Prop} (hs : s_control_Panel_Jam.wp P (f_control_Panel_Jam.post R) (env0 v_control_Panel_Jam args) h) : Runs P n_control_Panel_Jam args h R := fn_of P_mixed Go.Proofs.Try.func30 c_control_Panel_Jam (by rw [Go.Proofs.Try.ntmps30]; exact hn) hs
theorem vr_control_Panel_Jam {kp : Bool} {args : List A} {H : List Blk} {R : A → List Blk → Prop} (hlen : args.length ≤ 18) (hk : kp = false ∨ H = []) (hw : (∀ B ∈ H, A.bdL H.length B.cells = true) → A.bdL H.length args = true → s_control_Panel_Jam.aw P H.length (postA H.length f_control_Panel_Jam R) (envA v_control_Panel_Jam args) H) : VR P kp n_control_Panel_Jam args H R := VR.of (F := f_control_Panel_Jam) (V := v_control_Panel_Jam) of_control_Panel_Jam hlen hk fun h1 h2 => aw_sound (hw h1 h2)
theorem r_control_Panel_Jam : Fun.res f_control_Panel_Jam = [(.var 2)] := rfl

/-- recycling/recyclinglaw36.example -/
abbrev n_law36_example : Nat := 31
def s_law36_example : S :=
 (.eff false (some 0) (.alloc 25 [(.int .i64 0), (.slice none 0 0), (.slice none 0 0), (.int .i64 0)])
 (.eff false (some 3) (.lit 3 1 2 [(.int .i64 0)] (.pl 0 1 (.lit (.int .i64 600)) (.pl 1 1 (.lit (.int .i64 400)) .nl)))
 (.eff false (some 7) (.lit 44 1 1 [(.slice none 0 0)] (.pl 0 1 (.var 3) .nl))
 (.chk (.bld [(.slice none 0 0)] (.pl 0 1 (.var 7) .nl))
 (.eff false (some 1) (.alloc 68 [(.slice none 0 0)])
 (.eff false none (.st 1 (.var 1) (.bld [(.slice none 0 0)] (.pl 0 1 (.var 7) .nl)))
 (.eff false (some 4) (.lit 3 1 0 [(.int .i64 0)] .nl)
 (.eff false (some 8) (.lit 44 1 1 [(.slice none 0 0)] (.pl 0 1 (.var 4) .nl))
 (.chk (.bld [(.slice none 0 0)] (.pl 0 1 (.var 8) .nl))
 (.eff false (some 2) (.alloc 68 [(.slice none 0 0)])
 (.eff false none (.st 1 (.var 2) (.bld [(.slice none 0 0)] (.pl 0 1 (.var 8) .nl)))
 (.eff false (some 5) (.lit 68 1 4 [(.slice none 0 0)] (.pl 0 1 (.u (.lda 1) (.var 1)) (.pl 1 1 (.u (.lda 1) (.var 1)) (.pl 2 1 (.u (.lda 1) (.var 2)) (.pl 3 1 (.u (.lda 1) (.var 2)) .nl)))))
 (.chk (.bld [(.int .i64 0), (.int .i64 0), (.int .i64 0), (.int .i64 0)] (.pl 0 1 (.lit (.int .i64 0)) (.pl 1 1 (.lit (.int .i64 0)) (.pl 2 1 (.lit (.int .i64 1)) (.pl 3 1 (.lit (.int .i64 1)) .nl)))))
 (.chk (.bld [(.int .i64 0), (.int .i64 0), (.int .i64 0), (.int .i64 0)] (.pl 0 1 (.lit (.int .i64 0)) (.pl 1 1 (.lit (.int .i64 1)) (.pl 2 1 (.lit (.int .i64 2)) (.pl 3 1 (.lit (.int .i64 1)) .nl)))))
 (.chk (.bld [(.int .i64 0), (.int .i64 0), (.int .i64 0), (.int .i64 0)] (.pl 0 1 (.lit (.int .i64 1)) (.pl 1 1 (.lit (.int .i64 0)) (.pl 2 1 (.lit (.int .i64 0)) (.pl 3 1 (.lit (.int .i64 1)) .nl)))))
 (.chk (.bld [(.int .i64 0), (.int .i64 0), (.int .i64 0), (.int .i64 0)] (.pl 0 1 (.lit (.int .i64 1)) (.pl 1 1 (.lit (.int .i64 1)) (.pl 2 1 (.lit (.int .i64 3)) (.pl 3 1 (.lit (.int .i64 1)) .nl)))))
 (.eff false (some 6) (.lit 57 4 4 [(.int .i64 0), (.int .i64 0), (.int .i64 0), (.int .i64 0)] (.pl 0 4 (.bld [(.int .i64 0), (.int .i64 0), (.int .i64 0), (.int .i64 0)] (.pl 0 1 (.lit (.int .i64 0)) (.pl 1 1 (.lit (.int .i64 0)) (.pl 2 1 (.lit (.int .i64 1)) (.pl 3 1 (.lit (.int .i64 1)) .nl))))) (.pl 4 4 (.bld [(.int .i64 0), (.int .i64 0), (.int .i64 0), (.int .i64 0)] (.pl 0 1 (.lit (.int .i64 0)) (.pl 1 1 (.lit (.int .i64 1)) (.pl 2 1 (.lit (.int .i64 2)) (.pl 3 1 (.lit (.int .i64 1)) .nl))))) (.pl 8 4 (.bld [(.int .i64 0), (.int .i64 0), (.int .i64 0), (.int .i64 0)] (.pl 0 1 (.lit (.int .i64 1)) (.pl 1 1 (.lit (.int .i64 0)) (.pl 2 1 (.lit (.int .i64 0)) (.pl 3 1 (.lit (.int .i64 1)) .nl))))) (.pl 12 4 (.bld [(.int .i64 0), (.int .i64 0), (.int .i64 0), (.int .i64 0)] (.pl 0 1 (.lit (.int .i64 1)) (.pl 1 1 (.lit (.int .i64 1)) (.pl 2 1 (.lit (.int .i64 3)) (.pl 3 1 (.lit (.int .i64 1)) .nl))))) .nl)))))
 (.chk (.bld [(.int .i64 0), (.slice none 0 0), (.slice none 0 0), (.int .i64 0)] (.pl 0 1 (.lit (.int .i64 1)) (.pl 1 1 (.var 5) (.pl 2 1 (.var 6) .nl))))
 (.eff false none (.st 4 (.var 0) (.bld [(.int .i64 0), (.slice none 0 0), (.slice none 0 0), (.int .i64 0)] (.pl 0 1 (.lit (.int .i64 1)) (.pl 1 1 (.var 5) (.pl 2 1 (.var 6) .nl)))))
 .ret)))))))))))))))))))
def f_law36_example : Fun := ⟨s_law36_example, [(.u (.lda 4) (.var 0))]⟩
abbrev v_law36_example : List Nat := [0, 1, 2, 3, 6, 13, 18, 4, 7]
theorem c_law36_example : compF P Go.Proofs.Try.f31 v_law36_example = some f_law36_example := by kernel_rfl
theorem of_law36_example {args : List Value} (hn : args.length ≤ 20) {h : Heap} {R : Value → Heap → Prop} (hs : s_law36_example.wp P (f_law36_example.post R) (env0 v_law36_example args) h) : Runs P n_law36_example args h R := fn_of P_mixed Go.Proofs.Try.func31 c_law36_example (by rw [Go.Proofs.Try.ntmps31]; exact hn) hs
theorem vr_law36_example {kp : Bool} {args : List A} {H : List Blk} {R : A → List Blk → Prop} (hlen : args.length ≤ 20) (hk : kp = false ∨ H = []) (hw : (∀ B ∈ H, A.bdL H.length B.cells = true) → A.bdL H.length args = true → s_law36_example.aw P H.length (postA H.length f_law36_example R) (envA v_law36_example args) H) : VR P kp n_law36_example args H R := VR.of (F := f_law36_example) (V := v_law36_example) of_law36_example hlen hk fun h1 h2 => aw_sound (hw h1 h2)
theorem r_law36_example : Fun.res f_law36_example = [(.u (.lda 4) (.var 0))] := rfl

/-- recycling/control.groups -/
abbrev n_control_groups : Nat := 32
def s_control_groups : S :=
 (.eff false (some 5) (.box 25 (.var 0))
 (.eff false (some 1) (.alloc 52 [(.int .i64 0), (.slice none 0 0)])
 (.set 2 (.lit (.slice none 0 0))
 (.set 3 (.lit (.slice none 0 0))
 (.set 4 (.lit (.int .i64 0))
 (.call false (some 21) 50 (.cn (.u (.lda 4) (.var 5)) .nl)
 (.chk (.u (.ext 0) (.var 21))
 (.chk (.u (.ext 1) (.var 21))
 (.eff false (some 7) (.alloc 52 [(.int .i64 0), (.slice none 0 0)])
 (.eff false none (.st 2 (.var 7) (.u (.ext 0) (.var 21)))
 (.set 6 (.u (.ext 1) (.var 21))
 (.seq
  (.ite (.b (.bin .neq) (.var 6) (.lit (.int .i64 0)))
   (.eff false none (.st 2 (.var 1) (.u (.lda 2) (.var 7)))
   (.set 2 (.lit (.slice none 0 0))
   (.set 3 (.lit (.slice none 0 0))
   (.set 4 (.var 6)
   .ret))))
   .nxt)
 (.call false (some 22) 51 (.cn (.u (.lda 2) (.var 7)) .nl)
 (.chk (.u (.ext 0) (.var 22))
 (.chk (.u (.ext 1) (.var 22))
 (.set 8 (.u (.ext 0) (.var 22))
 (.set 6 (.u (.ext 1) (.var 22))
 (.seq
  (.ite (.b (.bin .neq) (.var 6) (.lit (.int .i64 0)))
   (.eff false none (.st 2 (.var 1) (.u (.lda 2) (.var 7)))
   (.set 2 (.lit (.slice none 0 0))
   (.set 3 (.lit (.slice none 0 0))
   (.set 4 (.var 6)
   .ret))))
   .nxt)
 (.eff false (some 23) (.mk 3 1 8 [(.int .i64 0)] (.u .ld1 (.u (.fld 0) (.var 7))) (.u .ld1 (.u (.fld 0) (.var 7))))
 (.set 9 (.var 23)
 (.set 13 (.var 8)
 (.set 11 (.u .len (.var 13))
 (.set 10 (.lit (.int .i64 0))
 (.seq
  (.blk 0
   (.loop
    (.set 12 (.b (.bin .lss) (.var 10) (.var 11))
    (.seq
     (.ite (.var 12)
      .nxt
      (.exit 0))
    (.seq
     (.blk 1
      (.chk (.u .ld1 (.b (.idx 1) (.var 13) (.var 10)))
      (.set 14 (.var 10)
      (.set 15 (.u .ld1 (.b (.idx 1) (.var 13) (.var 10)))
      (.set 19 (.var 15)
      (.set 17 (.u .len (.var 19))
      (.set 16 (.lit (.int .i64 0))
      (.blk 2
       (.loop
        (.set 18 (.b (.bin .lss) (.var 16) (.var 17))
        (.seq
         (.ite (.var 18)
          .nxt
          (.exit 2))
        (.seq
         (.blk 3
          (.set 20 (.u .ld1 (.b (.idx 1) (.var 19) (.var 16)))
          (.eff false none (.st 1 (.b (.idx 1) (.var 9) (.var 20)) (.var 14))
          .nxt)))
        (.set 16 (.b (.bin .add) (.var 16) (.lit (.int .i64 1)))
        .nxt)))))))))))))
    (.set 10 (.b (.bin .add) (.var 10) (.lit (.int .i64 1)))
    .nxt))))))
 (.eff false none (.st 2 (.var 1) (.u (.lda 2) (.var 7)))
 (.set 2 (.var 8)
 (.set 3 (.var 9)
 (.set 4 (.lit (.int .i64 0))
 .ret))))))))))))))))))))))))))))
def f_control_groups : Fun := ⟨s_control_groups, [(.u (.lda 2) (.var 1)), (.var 2), (.var 3), (.var 4)]⟩
abbrev v_control_groups : List Nat := [0, 2, 3, 4, 5, 1, 7, 6, 8, 9, 37, 36, 38, 35, 10, 11, 44, 43, 45, 42, 13, 16, 25, 34]
theorem c_control_groups : compF P Go.Proofs.Try.f32 v_control_groups = some f_control_groups := by kernel_rfl
theorem of_control_groups {args : List Value} (hn : args.length ≤ 57) {h : Heap} {R : Value → Heap → Prop} (hs : s_control_groups.wp P (f_control_groups.post R) (env0 v_control_groups args) h) : Runs P n_control_groups args h R := fn_of P_mixed Go.Proofs.Try.func32 c_control_groups (by rw [Go.Proofs.Try.ntmps32]; exact hn) hs
theorem vr_control_groups {kp : Bool} {args : List A} {H : List Blk} {R : A → List Blk → Prop} (hlen : args.length ≤ 57) (hk : kp = false ∨ H = []) (hw : (∀ B ∈ H, A.bdL H.length B.cells = true) → A.bdL H.length args = true → s_control_groups.aw P H.length (postA H.length f_control_groups R) (envA v_control_groups args) H) : VR P kp n_control_groups args H R := VR.of (F := f_control_groups) (V := v_control_groups) of_control_groups hlen hk fun h1 h2 => aw_sound (hw h1 h2)
theorem r_control_groups : Fun.res f_control_groups = [(.u (.lda 2) (.var 1)), (.var 2), (.var 3), (.var 4)] := rfl
abbrev g_control_groups_0 : List Nat := [10, 12, 14, 15, 16, 17, 18, 19, 20]
abbrev g_control_groups_1 : List Nat := [16, 18, 20]

/-- recycling/control.Order$1 -/
abbrev n_control_Order_1 : Nat := 33
def s_control_Order_1 : S :=
 (.set 4 (.lit (.int .i64 0))
 (.set 6 (.u .len (.u .ld1 (.var 0)))
 (.set 5 (.lit (.int .i64 0))
 (.seq
  (.blk 0
   (.loop
    (.set 7 (.b (.bin .lss) (.var 5) (.var 6))
    (.seq
     (.ite (.var 7)
      .nxt
      (.exit 0))
    (.seq
     (.blk 1
      (.set 8 (.var 5)
      (.set 9 (.u (.un .not) (.u .ld1 (.b (.idx 1) (.u .ld1 (.var 1)) (.var 8))))
      (.set 13 (.u .ld1 (.u (.fld 1) (.var 2)))
      (.set 11 (.u .len (.var 13))
      (.set 10 (.lit (.int .i64 0))
      (.seq
       (.blk 2
        (.loop
         (.set 12 (.b (.bin .lss) (.var 10) (.var 11))
         (.seq
          (.ite (.var 12)
           .nxt
           (.exit 2))
         (.seq
          (.blk 3
           (.chk (.u (.lda 2) (.b (.idx 2) (.var 13) (.var 10)))
           (.eff false (some 14) (.alloc 61 [(.int .i64 0), (.int .i64 0)])
           (.eff false none (.st 2 (.var 14) (.u (.lda 2) (.b (.idx 2) (.var 13) (.var 10))))
           (.set 9 (.ite (.var 9) (.ite (.ite (.b (.bin .neq) (.u .ld1 (.b (.idx 1) (.u .ld1 (.var 3)) (.u .ld1 (.u (.fld 0) (.var 14))))) (.var 8)) (.lit (.bool true)) (.b (.bin .eql) (.u .ld1 (.b (.idx 1) (.u .ld1 (.var 3)) (.u .ld1 (.u (.fld 1) (.var 14))))) (.var 8))) (.lit (.bool true)) (.u .ld1 (.b (.idx 1) (.u .ld1 (.var 1)) (.u .ld1 (.b (.idx 1) (.u .ld1 (.var 3)) (.u .ld1 (.u (.fld 1) (.var 14)))))))) (.lit (.bool false)))
           .nxt)))))
         (.set 10 (.b (.bin .add) (.var 10) (.lit (.int .i64 1)))
         .nxt))))))
      (.ite (.var 9)
       (.set 4 (.var 8)
       .ret)
       .nxt))))))))
    (.set 5 (.b (.bin .add) (.var 5) (.lit (.int .i64 1)))
    .nxt))))))
 (.set 4 (.lit (.int .i64 (-1)))
 .ret)))))
def f_control_Order_1 : Fun := ⟨s_control_Order_1, [(.var 4)]⟩
abbrev v_control_Order_1 : List Nat := [0, 1, 2, 3, 4, 11, 10, 12, 5, 6, 22, 21, 23, 20, 8]
theorem c_control_Order_1 : compF P Go.Proofs.Try.f33 v_control_Order_1 = some f_control_Order_1 := by kernel_rfl
theorem of_control_Order_1 {args : List Value} (hn : args.length ≤ 59) {h : Heap} {R : Value → Heap → Prop} (hs : s_control_Order_1.wp P (f_control_Order_1.post R) (env0 v_control_Order_1 args) h) : Runs P n_control_Order_1 args h R := fn_of P_mixed Go.Proofs.Try.func33 c_control_Order_1 (by rw [Go.Proofs.Try.ntmps33]; exact hn) hs
theorem vr_control_Order_1 {kp : Bool} {args : List A} {H : List Blk} {R : A → List Blk → Prop} (hlen : args.length ≤ 59) (hk : kp = false ∨ H = []) (hw : (∀ B ∈ H, A.bdL H.length B.cells = true) → A.bdL H.length args = true → s_control_Order_1.aw P H.length (postA H.length f_control_Order_1 R) (envA v_control_Order_1 args) H) : VR P kp n_control_Order_1 args H R := VR.of (F := f_control_Order_1) (V := v_control_Order_1) of_control_Order_1 hlen hk fun h1 h2 => aw_sound (hw h1 h2)
theorem r_control_Order_1 : Fun.res f_control_Order_1 = [(.var 4)] := rfl
abbrev g_control_Order_1_0 : List Nat := [4, 5, 7, 8, 9, 10, 11, 12, 13, 14]
abbrev g_control_Order_1_1 : List Nat := [9, 10, 12, 14]

/-- slices.ContainsFunc[[]recycling/api.Arc,recycling/api.Arc] -/
abbrev n_slices_ContainsFuncapi_Arc_api_Arc : Nat := 41
def s_slices_ContainsFuncapi_Arc_api_Arc : S :=
 (.set 2 (.lit (.bool false))
 (.call false (some 3) 55 (.cn (.var 0) (.cn (.var 1) .nl))
 (.set 2 (.b (.bin .geq) (.var 3) (.lit (.int .i64 0)))
 .ret)))
def f_slices_ContainsFuncapi_Arc_api_Arc : Fun := ⟨s_slices_ContainsFuncapi_Arc_api_Arc, [(.var 2)]⟩
abbrev v_slices_ContainsFuncapi_Arc_api_Arc : List Nat := [0, 1, 4, 7]
theorem c_slices_ContainsFuncapi_Arc_api_Arc : compF P Go.Proofs.Try.f41 v_slices_ContainsFuncapi_Arc_api_Arc = some f_slices_ContainsFuncapi_Arc_api_Arc := by kernel_rfl
theorem of_slices_ContainsFuncapi_Arc_api_Arc {args : List Value} (hn : args.length ≤ 9) {h : Heap} {R : Value → Heap → Prop} (hs : s_slices_ContainsFuncapi_Arc_api_Arc.wp P (f_slices_ContainsFuncapi_Arc_api_Arc.post R) (env0 v_slices_ContainsFuncapi_Arc_api_Arc args) h) : Runs P n_slices_ContainsFuncapi_Arc_api_Arc args h R := fn_of P_mixed Go.Proofs.Try.func41 c_slices_ContainsFuncapi_Arc_api_Arc (by rw [Go.Proofs.Try.ntmps41]; exact hn) hs
theorem vr_slices_ContainsFuncapi_Arc_api_Arc {kp : Bool} {args : List A} {H : List Blk} {R : A → List Blk → Prop} (hlen : args.length ≤ 9) (hk : kp = false ∨ H = []) (hw : (∀ B ∈ H, A.bdL H.length B.cells = true) → A.bdL H.length args = true → s_slices_ContainsFuncapi_Arc_api_Arc.aw P H.length (postA H.length f_slices_ContainsFuncapi_Arc_api_Arc R) (envA v_slices_ContainsFuncapi_Arc_api_Arc args) H) : VR P kp n_slices_ContainsFuncapi_Arc_api_Arc args H R := VR.of (F := f_slices_ContainsFuncapi_Arc_api_Arc) (V := v_slices_ContainsFuncapi_Arc_api_Arc) of_slices_ContainsFuncapi_Arc_api_Arc hlen hk fun h1 h2 => aw_sound (hw h1 h2)
theorem r_slices_ContainsFuncapi_Arc_api_Arc : Fun.res f_slices_ContainsFuncapi_Arc_api_Arc = [(.var 2)] := rfl

/-- (*recycling/control.Panel).Safe$1 -/
abbrev n_control_Panel_Safe_1 : Nat := 42
def s_control_Panel_Safe_1 : S :=
 (.eff false (some 3) (.box 61 (.var 0))
 (.set 2 (.lit (.bool false))
 (.set 2 (.ite (.b (.bin .eql) (.u .ld1 (.b (.idx 1) (.u .ld1 (.u (.fld 4) (.u .nilc (.u .ld1 (.var 1))))) (.u .ld1 (.u (.fld 0) (.var 3))))) (.lit (.int .i64 1))) (.b (.bin .neq) (.u .ld1 (.b (.idx 1) (.u .ld1 (.u (.fld 4) (.u .nilc (.u .ld1 (.var 1))))) (.u .ld1 (.u (.fld 1) (.var 3))))) (.lit (.int .i64 1))) (.lit (.bool false)))
 .ret)))
def f_control_Panel_Safe_1 : Fun := ⟨s_control_Panel_Safe_1, [(.var 2)]⟩
abbrev v_control_Panel_Safe_1 : List Nat := [0, 1, 3, 2]
theorem c_control_Panel_Safe_1 : compF P Go.Proofs.Try.f42 v_control_Panel_Safe_1 = some f_control_Panel_Safe_1 := by kernel_rfl
theorem of_control_Panel_Safe_1 {args : List Value} (hn : args.length ≤ 24) {h : Heap} {R : Value → Heap → Prop} (hs : s_control_Panel_Safe_1.wp P (f_control_Panel_Safe_1.post R) (env0 v_control_Panel_Safe_1 args) h) : Runs P n_control_Panel_Safe_1 args h R := fn_of P_mixed Go.Proofs.Try.func42 c_control_Panel_Safe_1 (by rw [Go.Proofs.Try.ntmps42]; exact hn) hs
theorem vr_control_Panel_Safe_1 {kp : Bool} {args : List A} {H : List Blk} {R : A → List Blk → Prop} (hlen : args.length ≤ 24) (hk : kp = false ∨ H = []) (hw : (∀ B ∈ H, A.bdL H.length B.cells = true) → A.bdL H.length args = true → s_control_Panel_Safe_1.aw P H.length (postA H.length f_control_Panel_Safe_1 R) (envA v_control_Panel_Safe_1 args) H) : VR P kp n_control_Panel_Safe_1 args H R := VR.of (F := f_control_Panel_Safe_1) (V := v_control_Panel_Safe_1) of_control_Panel_Safe_1 hlen hk fun h1 h2 => aw_sound (hw h1 h2)
theorem r_control_Panel_Safe_1 : Fun.res f_control_Panel_Safe_1 = [(.var 2)] := rfl

/-- (*recycling/control.Panel).find -/
abbrev n_control_Panel_find : Nat := 43
def s_control_Panel_find : S :=
 (.set 2 (.lit (.int .i64 0))
 (.seq
  (.ite (.b (.eqp false) (.var 0) (.lit (.pointer none)))
   (.set 2 (.lit (.int .i64 14))
   .ret)
   .nxt)
 (.seq
  (.ite (.ite (.b (.bin .lss) (.var 1) (.lit (.int .i64 0))) (.lit (.bool true)) (.b (.bin .geq) (.var 1) (.u .len (.u .ld1 (.u (.fld 4) (.u .nilc (.var 0)))))))
   (.set 2 (.lit (.int .i64 7))
   .ret)
   .nxt)
 (.set 2 (.lit (.int .i64 0))
 .ret))))
def f_control_Panel_find : Fun := ⟨s_control_Panel_find, [(.var 2)]⟩
abbrev v_control_Panel_find : List Nat := [0, 1, 4]
theorem c_control_Panel_find : compF P Go.Proofs.Try.f43 v_control_Panel_find = some f_control_Panel_find := by kernel_rfl
theorem of_control_Panel_find {args : List Value} (hn : args.length ≤ 18) {h : Heap} {R : Value → Heap → Prop} (hs : s_control_Panel_find.wp P (f_control_Panel_find.post R) (env0 v_control_Panel_find args) h) : Runs P n_control_Panel_find args h R := fn_of P_mixed Go.Proofs.Try.func43 c_control_Panel_find (by rw [Go.Proofs.Try.ntmps43]; exact hn) hs
theorem vr_control_Panel_find {kp : Bool} {args : List A} {H : List Blk} {R : A → List Blk → Prop} (hlen : args.length ≤ 18) (hk : kp = false ∨ H = []) (hw : (∀ B ∈ H, A.bdL H.length B.cells = true) → A.bdL H.length args = true → s_control_Panel_find.aw P H.length (postA H.length f_control_Panel_find R) (envA v_control_Panel_find args) H) : VR P kp n_control_Panel_find args H R := VR.of (F := f_control_Panel_find) (V := v_control_Panel_find) of_control_Panel_find hlen hk fun h1 h2 => aw_sound (hw h1 h2)
theorem r_control_Panel_find : Fun.res f_control_Panel_find = [(.var 2)] := rfl

/-- recycling/graph.Back -/
abbrev n_graph_Back : Nat := 45
def s_graph_Back : S :=
 (.eff false (some 4) (.box 52 (.var 0))
 (.set 2 (.lit (.slice none 0 0))
 (.set 3 (.lit (.int .i64 0))
 (.call false (some 5) 56 (.cn (.u (.lda 2) (.var 4)) (.cn (.var 1) (.cn (.lit (.func (.func 57) #[] #[])) .nl)))
 (.chk (.u (.ext 0) (.var 5))
 (.chk (.u (.ext 1) (.var 5))
 (.set 2 (.u (.ext 0) (.var 5))
 (.set 3 (.u (.ext 1) (.var 5))
 .ret))))))))
def f_graph_Back : Fun := ⟨s_graph_Back, [(.var 2), (.var 3)]⟩
abbrev v_graph_Back : List Nat := [0, 1, 4, 5, 2, 8]
theorem c_graph_Back : compF P Go.Proofs.Try.f45 v_graph_Back = some f_graph_Back := by kernel_rfl
theorem of_graph_Back {args : List Value} (hn : args.length ≤ 11) {h : Heap} {R : Value → Heap → Prop} (hs : s_graph_Back.wp P (f_graph_Back.post R) (env0 v_graph_Back args) h) : Runs P n_graph_Back args h R := fn_of P_mixed Go.Proofs.Try.func45 c_graph_Back (by rw [Go.Proofs.Try.ntmps45]; exact hn) hs
theorem vr_graph_Back {kp : Bool} {args : List A} {H : List Blk} {R : A → List Blk → Prop} (hlen : args.length ≤ 11) (hk : kp = false ∨ H = []) (hw : (∀ B ∈ H, A.bdL H.length B.cells = true) → A.bdL H.length args = true → s_graph_Back.aw P H.length (postA H.length f_graph_Back R) (envA v_graph_Back args) H) : VR P kp n_graph_Back args H R := VR.of (F := f_graph_Back) (V := v_graph_Back) of_graph_Back hlen hk fun h1 h2 => aw_sound (hw h1 h2)
theorem r_graph_Back : Fun.res f_graph_Back = [(.var 2), (.var 3)] := rfl

/-- recycling/control.stopped -/
abbrev n_control_stopped : Nat := 46
def s_control_stopped : S :=
 (.set 1 (.lit (.int .i64 0))
 (.set 2 (.var 0)
 (.seq
  (.blk 0
   (.seq
    (.blk 2
     (.blk 1
      (.set 3 (.b (.bin .eql) (.var 2) (.lit (.int .i64 1)))
      (.seq
       (.seq
        (.ite (.var 3)
         (.exit 1)
         .nxt)
       (.set 4 (.b (.bin .eql) (.var 2) (.lit (.int .i64 0)))
       (.ite (.var 4)
        (.exit 2)
        .nxt)))
      (.exit 0)))))
   (.set 1 (.lit (.int .i64 0))
   (.seq
    .ret
   (.exit 0)))))
 (.set 1 (.var 0)
 .ret))))
def f_control_stopped : Fun := ⟨s_control_stopped, [(.var 1)]⟩
abbrev v_control_stopped : List Nat := [0, 2, 3, 4, 6]
theorem c_control_stopped : compF P Go.Proofs.Try.f46 v_control_stopped = some f_control_stopped := by kernel_rfl
theorem of_control_stopped {args : List Value} (hn : args.length ≤ 9) {h : Heap} {R : Value → Heap → Prop} (hs : s_control_stopped.wp P (f_control_stopped.post R) (env0 v_control_stopped args) h) : Runs P n_control_stopped args h R := fn_of P_mixed Go.Proofs.Try.func46 c_control_stopped (by rw [Go.Proofs.Try.ntmps46]; exact hn) hs
theorem vr_control_stopped {kp : Bool} {args : List A} {H : List Blk} {R : A → List Blk → Prop} (hlen : args.length ≤ 9) (hk : kp = false ∨ H = []) (hw : (∀ B ∈ H, A.bdL H.length B.cells = true) → A.bdL H.length args = true → s_control_stopped.aw P H.length (postA H.length f_control_stopped R) (envA v_control_stopped args) H) : VR P kp n_control_stopped args H R := VR.of (F := f_control_stopped) (V := v_control_stopped) of_control_stopped hlen hk fun h1 h2 => aw_sound (hw h1 h2)
theorem r_control_stopped : Fun.res f_control_stopped = [(.var 1)] := rfl

/-- recycling/layout.Graph -/
abbrev n_layout_Graph : Nat := 50
def s_layout_Graph : S :=
 (.eff false (some 3) (.box 25 (.var 0))
 (.eff false (some 1) (.alloc 52 [(.int .i64 0), (.slice none 0 0)])
 (.set 2 (.lit (.int .i64 0))
 (.call false (some 11) 58 (.cn (.u (.lda 4) (.var 3)) .nl)
 (.set 4 (.var 11)
 (.seq
  (.ite (.b (.bin .neq) (.var 4) (.lit (.int .i64 0)))
   (.chk (.bld [(.int .i64 0), (.slice none 0 0)] .nl)
   (.eff false none (.st 2 (.var 1) (.bld [(.int .i64 0), (.slice none 0 0)] .nl))
   (.set 2 (.var 4)
   .ret)))
   .nxt)
 (.chk (.bld [(.int .i64 0), (.slice none 0 0)] (.pl 0 1 (.u .len (.u .ld1 (.u (.fld 1) (.var 3)))) .nl))
 (.eff false (some 9) (.alloc 52 [(.int .i64 0), (.slice none 0 0)])
 (.eff false none (.st 2 (.var 9) (.bld [(.int .i64 0), (.slice none 0 0)] (.pl 0 1 (.u .len (.u .ld1 (.u (.fld 1) (.var 3)))) .nl)))
 (.set 8 (.u .ld1 (.u (.fld 2) (.var 3)))
 (.set 6 (.u .len (.var 8))
 (.set 5 (.lit (.int .i64 0))
 (.seq
  (.blk 0
   (.loop
    (.set 7 (.b (.bin .lss) (.var 5) (.var 6))
    (.seq
     (.ite (.var 7)
      .nxt
      (.exit 0))
    (.seq
     (.blk 1
      (.chk (.u (.lda 4) (.b (.idx 4) (.var 8) (.var 5)))
      (.eff false (some 10) (.alloc 57 [(.int .i64 0), (.int .i64 0), (.int .i64 0), (.int .i64 0)])
      (.eff false none (.st 4 (.var 10) (.u (.lda 4) (.b (.idx 4) (.var 8) (.var 5))))
      (.chk (.u .ld1 (.u (.fld 1) (.var 9)))
      (.chk (.bld [(.int .i64 0), (.int .i64 0)] (.pl 0 1 (.u .ld1 (.u (.fld 0) (.var 10))) (.pl 1 1 (.u .ld1 (.u (.fld 2) (.var 10))) .nl)))
      (.eff false (some 12) (.lit 61 2 1 [(.int .i64 0), (.int .i64 0)] (.pl 0 2 (.bld [(.int .i64 0), (.int .i64 0)] (.pl 0 1 (.u .ld1 (.u (.fld 0) (.var 10))) (.pl 1 1 (.u .ld1 (.u (.fld 2) (.var 10))) .nl))) .nl))
      (.eff false (some 13) (.app 61 2 16 [(.int .i64 0), (.int .i64 0)] (.u .ld1 (.u (.fld 1) (.var 9))) (.var 12))
      (.eff false none (.st 1 (.u (.fld 1) (.var 9)) (.var 13))
      .nxt)))))))))
    (.set 5 (.b (.bin .add) (.var 5) (.lit (.int .i64 1)))
    .nxt))))))
 (.eff false none (.st 2 (.var 1) (.u (.lda 2) (.var 9)))
 (.set 2 (.lit (.int .i64 0))
 .ret)))))))))))))))
def f_layout_Graph : Fun := ⟨s_layout_Graph, [(.u (.lda 2) (.var 1)), (.var 2)]⟩
abbrev v_layout_Graph : List Nat := [0, 2, 3, 1, 4, 21, 20, 22, 19, 5, 7, 9, 32, 33]
theorem c_layout_Graph : compF P Go.Proofs.Try.f50 v_layout_Graph = some f_layout_Graph := by kernel_rfl
theorem of_layout_Graph {args : List Value} (hn : args.length ≤ 37) {h : Heap} {R : Value → Heap → Prop} (hs : s_layout_Graph.wp P (f_layout_Graph.post R) (env0 v_layout_Graph args) h) : Runs P n_layout_Graph args h R := fn_of P_mixed Go.Proofs.Try.func50 c_layout_Graph (by rw [Go.Proofs.Try.ntmps50]; exact hn) hs
theorem vr_layout_Graph {kp : Bool} {args : List A} {H : List Blk} {R : A → List Blk → Prop} (hlen : args.length ≤ 37) (hk : kp = false ∨ H = []) (hw : (∀ B ∈ H, A.bdL H.length B.cells = true) → A.bdL H.length args = true → s_layout_Graph.aw P H.length (postA H.length f_layout_Graph R) (envA v_layout_Graph args) H) : VR P kp n_layout_Graph args H R := VR.of (F := f_layout_Graph) (V := v_layout_Graph) of_layout_Graph hlen hk fun h1 h2 => aw_sound (hw h1 h2)
theorem r_layout_Graph : Fun.res f_layout_Graph = [(.u (.lda 2) (.var 1)), (.var 2)] := rfl
abbrev g_layout_Graph_0 : List Nat := [5, 7, 10, 12, 13]

/-- recycling/graph.Groups -/
abbrev n_graph_Groups : Nat := 51
def s_graph_Groups : S :=
 (.eff false (some 3) (.box 52 (.var 0))
 (.set 1 (.lit (.slice none 0 0))
 (.set 2 (.lit (.int .i64 0))
 (.call false (some 20) 59 (.cn (.u (.lda 2) (.var 3)) .nl)
 (.set 4 (.var 20)
 (.seq
  (.ite (.b (.bin .neq) (.var 4) (.lit (.int .i64 0)))
   (.set 1 (.lit (.slice none 0 0))
   (.set 2 (.var 4)
   .ret))
   .nxt)
 (.set 5 (.lit (.slice none 0 0))
 (.eff false (some 21) (.mk 4 1 1 [(.bool false)] (.u .ld1 (.u (.fld 0) (.var 3))) (.u .ld1 (.u (.fld 0) (.var 3))))
 (.set 6 (.var 21)
 (.set 8 (.u .ld1 (.u (.fld 0) (.var 3)))
 (.set 7 (.lit (.int .i64 0))
 (.seq
  (.blk 0
   (.loop
    (.set 9 (.b (.bin .lss) (.var 7) (.var 8))
    (.seq
     (.ite (.var 9)
      .nxt
      (.exit 0))
    (.seq
     (.blk 1
      (.set 10 (.var 7)
      (.seq
       (.ite (.u .ld1 (.b (.idx 1) (.var 6) (.var 10)))
        (.exit 1)
        .nxt)
      (.call false (some 22) 60 (.cn (.u (.lda 2) (.var 3)) (.cn (.var 10) .nl))
      (.chk (.u (.ext 0) (.var 22))
      (.chk (.u (.ext 1) (.var 22))
      (.set 11 (.u (.ext 0) (.var 22))
      (.set 12 (.u (.ext 1) (.var 22))
      (.call false (some 23) 45 (.cn (.u (.lda 2) (.var 3)) (.cn (.var 10) .nl))
      (.chk (.u (.ext 0) (.var 23))
      (.chk (.u (.ext 1) (.var 23))
      (.set 13 (.u (.ext 0) (.var 23))
      (.set 14 (.u (.ext 1) (.var 23))
      (.set 15 (.lit (.slice none 0 0))
      (.set 17 (.u .ld1 (.u (.fld 0) (.var 3)))
      (.set 16 (.lit (.int .i64 0))
      (.seq
       (.blk 2
        (.loop
         (.set 18 (.b (.bin .lss) (.var 16) (.var 17))
         (.seq
          (.ite (.var 18)
           .nxt
           (.exit 2))
         (.seq
          (.blk 3
           (.set 19 (.var 16)
           (.ite (.ite (.u .ld1 (.b (.idx 1) (.var 11) (.var 19))) (.u .ld1 (.b (.idx 1) (.var 13) (.var 19))) (.lit (.bool false)))
            (.eff false none (.st 1 (.b (.idx 1) (.var 6) (.var 19)) (.lit (.bool true)))
            (.eff false (some 24) (.lit 3 1 1 [(.int .i64 0)] (.pl 0 1 (.var 19) .nl))
            (.eff false (some 26) (.app 3 1 8 [(.int .i64 0)] (.var 15) (.var 24))
            (.set 15 (.var 26)
            .nxt))))
            .nxt)))
         (.set 16 (.b (.bin .add) (.var 16) (.lit (.int .i64 1)))
         .nxt))))))
      (.eff false (some 25) (.lit 44 1 1 [(.slice none 0 0)] (.pl 0 1 (.var 15) .nl))
      (.eff false (some 27) (.app 44 1 24 [(.slice none 0 0)] (.var 5) (.var 25))
      (.set 5 (.var 27)
      .nxt))))))))))))))))))))
    (.set 7 (.b (.bin .add) (.var 7) (.lit (.int .i64 1)))
    .nxt))))))
 (.set 1 (.var 5)
 (.set 2 (.lit (.int .i64 0))
 .ret))))))))))))))
def f_graph_Groups : Fun := ⟨s_graph_Groups, [(.var 1), (.var 2)]⟩
abbrev v_graph_Groups : List Nat := [0, 2, 3, 1, 4, 5, 6, 24, 23, 25, 7, 8, 9, 10, 11, 12, 45, 44, 46, 13, 15, 21, 34, 40, 63, 68, 64, 69]
theorem c_graph_Groups : compF P Go.Proofs.Try.f51 v_graph_Groups = some f_graph_Groups := by kernel_rfl
theorem of_graph_Groups {args : List Value} (hn : args.length ≤ 72) {h : Heap} {R : Value → Heap → Prop} (hs : s_graph_Groups.wp P (f_graph_Groups.post R) (env0 v_graph_Groups args) h) : Runs P n_graph_Groups args h R := fn_of P_mixed Go.Proofs.Try.func51 c_graph_Groups (by rw [Go.Proofs.Try.ntmps51]; exact hn) hs
theorem vr_graph_Groups {kp : Bool} {args : List A} {H : List Blk} {R : A → List Blk → Prop} (hlen : args.length ≤ 72) (hk : kp = false ∨ H = []) (hw : (∀ B ∈ H, A.bdL H.length B.cells = true) → A.bdL H.length args = true → s_graph_Groups.aw P H.length (postA H.length f_graph_Groups R) (envA v_graph_Groups args) H) : VR P kp n_graph_Groups args H R := VR.of (F := f_graph_Groups) (V := v_graph_Groups) of_graph_Groups hlen hk fun h1 h2 => aw_sound (hw h1 h2)
theorem r_graph_Groups : Fun.res f_graph_Groups = [(.var 1), (.var 2)] := rfl
abbrev g_graph_Groups_0 : List Nat := [5, 7, 9, 10, 11, 12, 13, 14, 15, 16, 17, 18, 19, 22, 23, 24, 25, 26, 27]
abbrev g_graph_Groups_1 : List Nat := [15, 16, 18, 19, 24, 26]

/-- slices.IndexFunc[[]recycling/api.Arc,recycling/api.Arc] -/
abbrev n_slices_IndexFuncapi_Arc_api_Arc : Nat := 55
def s_slices_IndexFuncapi_Arc_api_Arc : S :=
 (.set 2 (.lit (.int .i64 0))
 (.set 4 (.u .len (.var 0))
 (.set 3 (.lit (.int .i64 0))
 (.seq
  (.blk 0
   (.loop
    (.set 5 (.b (.bin .lss) (.var 3) (.var 4))
    (.seq
     (.ite (.var 5)
      .nxt
      (.exit 0))
    (.seq
     (.blk 1
      (.set 6 (.var 3)
      (.callv false (some 7) (.var 1) (.cn (.u (.lda 2) (.b (.idx 2) (.var 0) (.var 6))) .nl)
      (.ite (.var 7)
       (.set 2 (.var 6)
       .ret)
       .nxt))))
    (.set 3 (.b (.bin .add) (.var 3) (.lit (.int .i64 1)))
    .nxt))))))
 (.set 2 (.lit (.int .i64 (-1)))
 .ret)))))
def f_slices_IndexFuncapi_Arc_api_Arc : Fun := ⟨s_slices_IndexFuncapi_Arc_api_Arc, [(.var 2)]⟩
abbrev v_slices_IndexFuncapi_Arc_api_Arc : List Nat := [0, 1, 4, 8, 7, 9, 5, 16]
theorem c_slices_IndexFuncapi_Arc_api_Arc : compF P Go.Proofs.Try.f55 v_slices_IndexFuncapi_Arc_api_Arc = some f_slices_IndexFuncapi_Arc_api_Arc := by kernel_rfl
theorem of_slices_IndexFuncapi_Arc_api_Arc {args : List Value} (hn : args.length ≤ 19) {h : Heap} {R : Value → Heap → Prop} (hs : s_slices_IndexFuncapi_Arc_api_Arc.wp P (f_slices_IndexFuncapi_Arc_api_Arc.post R) (env0 v_slices_IndexFuncapi_Arc_api_Arc args) h) : Runs P n_slices_IndexFuncapi_Arc_api_Arc args h R := fn_of P_mixed Go.Proofs.Try.func55 c_slices_IndexFuncapi_Arc_api_Arc (by rw [Go.Proofs.Try.ntmps55]; exact hn) hs
theorem vr_slices_IndexFuncapi_Arc_api_Arc {kp : Bool} {args : List A} {H : List Blk} {R : A → List Blk → Prop} (hlen : args.length ≤ 19) (hk : kp = false ∨ H = []) (hw : (∀ B ∈ H, A.bdL H.length B.cells = true) → A.bdL H.length args = true → s_slices_IndexFuncapi_Arc_api_Arc.aw P H.length (postA H.length f_slices_IndexFuncapi_Arc_api_Arc R) (envA v_slices_IndexFuncapi_Arc_api_Arc args) H) : VR P kp n_slices_IndexFuncapi_Arc_api_Arc args H R := VR.of (F := f_slices_IndexFuncapi_Arc_api_Arc) (V := v_slices_IndexFuncapi_Arc_api_Arc) of_slices_IndexFuncapi_Arc_api_Arc hlen hk fun h1 h2 => aw_sound (hw h1 h2)
theorem r_slices_IndexFuncapi_Arc_api_Arc : Fun.res f_slices_IndexFuncapi_Arc_api_Arc = [(.var 2)] := rfl
abbrev g_slices_IndexFuncapi_Arc_api_Arc_0 : List Nat := [2, 3, 5, 6, 7]

/-- recycling/graph.visit -/
abbrev n_graph_visit : Nat := 56
def s_graph_visit : S :=
 (.eff false (some 5) (.box 52 (.var 0))
 (.eff false (some 8) (.box 89 (.var 2))
 (.set 3 (.lit (.slice none 0 0))
 (.set 4 (.lit (.int .i64 0))
 (.call false (some 10) 59 (.cn (.u (.lda 2) (.var 5)) .nl)
 (.set 6 (.var 10)
 (.seq
  (.ite (.b (.bin .neq) (.var 6) (.lit (.int .i64 0)))
   (.set 3 (.lit (.slice none 0 0))
   (.set 4 (.var 6)
   .ret))
   .nxt)
 (.seq
  (.ite (.ite (.b (.bin .lss) (.var 1) (.lit (.int .i64 0))) (.lit (.bool true)) (.b (.bin .geq) (.var 1) (.u .ld1 (.u (.fld 0) (.var 5)))))
   (.set 3 (.lit (.slice none 0 0))
   (.set 4 (.lit (.int .i64 7))
   .ret))
   .nxt)
 (.eff false (some 11) (.mk 4 1 1 [(.bool false)] (.u .ld1 (.u (.fld 0) (.var 5))) (.u .ld1 (.u (.fld 0) (.var 5))))
 (.eff false (some 7) (.alloc 62 [(.slice none 0 0)])
 (.eff false none (.st 1 (.var 7) (.var 11))
 (.eff false (some 9) (.alloc 93 [.nilFunc])
 (.chk (.fn 65 (.cn (.var 7) (.cn (.var 5) (.cn (.var 8) (.cn (.var 9) .nl)))))
 (.eff false none (.st 1 (.var 9) (.fn 65 (.cn (.var 7) (.cn (.var 5) (.cn (.var 8) (.cn (.var 9) .nl))))))
 (.callv false none (.u .ld1 (.var 9)) (.cn (.var 1) .nl)
 (.set 3 (.u .ld1 (.var 7))
 (.set 4 (.lit (.int .i64 0))
 .ret)))))))))))))))))
def f_graph_visit : Fun := ⟨s_graph_visit, [(.var 3), (.var 4)]⟩
abbrev v_graph_visit : List Nat := [0, 1, 2, 6, 7, 3, 8, 9, 5, 10, 12, 26]
theorem c_graph_visit : compF P Go.Proofs.Try.f56 v_graph_visit = some f_graph_visit := by kernel_rfl
theorem of_graph_visit {args : List Value} (hn : args.length ≤ 32) {h : Heap} {R : Value → Heap → Prop} (hs : s_graph_visit.wp P (f_graph_visit.post R) (env0 v_graph_visit args) h) : Runs P n_graph_visit args h R := fn_of P_mixed Go.Proofs.Try.func56 c_graph_visit (by rw [Go.Proofs.Try.ntmps56]; exact hn) hs
theorem vr_graph_visit {kp : Bool} {args : List A} {H : List Blk} {R : A → List Blk → Prop} (hlen : args.length ≤ 32) (hk : kp = false ∨ H = []) (hw : (∀ B ∈ H, A.bdL H.length B.cells = true) → A.bdL H.length args = true → s_graph_visit.aw P H.length (postA H.length f_graph_visit R) (envA v_graph_visit args) H) : VR P kp n_graph_visit args H R := VR.of (F := f_graph_visit) (V := v_graph_visit) of_graph_visit hlen hk fun h1 h2 => aw_sound (hw h1 h2)
theorem r_graph_visit : Fun.res f_graph_visit = [(.var 3), (.var 4)] := rfl

/-- recycling/graph.Back$1 -/
abbrev n_graph_Back_1 : Nat := 57
def s_graph_Back_1 : S :=
 (.eff false (some 3) (.box 61 (.var 0))
 (.set 1 (.lit (.int .i64 0))
 (.set 2 (.lit (.int .i64 0))
 (.chk (.u .ld1 (.u (.fld 1) (.var 3)))
 (.chk (.u .ld1 (.u (.fld 0) (.var 3)))
 (.set 1 (.u .ld1 (.u (.fld 1) (.var 3)))
 (.set 2 (.u .ld1 (.u (.fld 0) (.var 3)))
 .ret)))))))
def f_graph_Back_1 : Fun := ⟨s_graph_Back_1, [(.var 1), (.var 2)]⟩
abbrev v_graph_Back_1 : List Nat := [0, 2, 3, 1]
theorem c_graph_Back_1 : compF P Go.Proofs.Try.f57 v_graph_Back_1 = some f_graph_Back_1 := by kernel_rfl
theorem of_graph_Back_1 {args : List Value} (hn : args.length ≤ 8) {h : Heap} {R : Value → Heap → Prop} (hs : s_graph_Back_1.wp P (f_graph_Back_1.post R) (env0 v_graph_Back_1 args) h) : Runs P n_graph_Back_1 args h R := fn_of P_mixed Go.Proofs.Try.func57 c_graph_Back_1 (by rw [Go.Proofs.Try.ntmps57]; exact hn) hs
theorem vr_graph_Back_1 {kp : Bool} {args : List A} {H : List Blk} {R : A → List Blk → Prop} (hlen : args.length ≤ 8) (hk : kp = false ∨ H = []) (hw : (∀ B ∈ H, A.bdL H.length B.cells = true) → A.bdL H.length args = true → s_graph_Back_1.aw P H.length (postA H.length f_graph_Back_1 R) (envA v_graph_Back_1 args) H) : VR P kp n_graph_Back_1 args H R := VR.of (F := f_graph_Back_1) (V := v_graph_Back_1) of_graph_Back_1 hlen hk fun h1 h2 => aw_sound (hw h1 h2)
theorem r_graph_Back_1 : Fun.res f_graph_Back_1 = [(.var 1), (.var 2)] := rfl

/-- recycling/layout.Check -/
abbrev n_layout_Check : Nat := 58
def s_layout_Check : S :=
 (.eff false (some 2) (.box 25 (.var 0))
 (.set 1 (.lit (.int .i64 0))
 (.seq
  (.blk 0
   (.set 3 (.ite (.b (.bin .lss) (.u .ld1 (.u (.fld 0) (.var 2))) (.lit (.int .i64 1))) (.lit (.bool true)) (.b (.bin .gtr) (.u .ld1 (.u (.fld 0) (.var 2))) (.lit (.int .i64 16))))
   (.ite (.var 3)
    (.set 1 (.lit (.int .i64 1))
    .ret)
    (.set 4 (.b (.bin .eql) (.u .len (.u .ld1 (.u (.fld 1) (.var 2)))) (.lit (.int .i64 0)))
    (.ite (.var 4)
     (.set 1 (.lit (.int .i64 10))
     .ret)
     (.set 5 (.ite (.b (.bin .gtr) (.u .len (.u .ld1 (.u (.fld 1) (.var 2)))) (.lit (.int .i64 24))) (.lit (.bool true)) (.b (.bin .gtr) (.u .len (.u .ld1 (.u (.fld 2) (.var 2)))) (.lit (.int .i64 48))))
     (.ite (.var 5)
      (.set 1 (.lit (.int .i64 8))
      .ret)
      .nxt)))))))
 (.set 9 (.u .ld1 (.u (.fld 1) (.var 2)))
 (.set 7 (.u .len (.var 9))
 (.set 6 (.lit (.int .i64 0))
 (.seq
  (.blk 1
   (.loop
    (.set 8 (.b (.bin .lss) (.var 6) (.var 7))
    (.seq
     (.ite (.var 8)
      .nxt
      (.exit 1))
    (.seq
     (.blk 2
      (.chk (.u (.lda 1) (.b (.idx 1) (.var 9) (.var 6)))
      (.eff false (some 10) (.alloc 68 [(.slice none 0 0)])
      (.eff false none (.st 1 (.var 10) (.u (.lda 1) (.b (.idx 1) (.var 9) (.var 6))))
      (.call false (some 15) 66 (.cn (.u (.lda 1) (.var 10)) (.cn (.u .ld1 (.u (.fld 0) (.var 2))) .nl))
      (.set 11 (.var 15)
      (.ite (.b (.bin .neq) (.var 11) (.lit (.int .i64 0)))
       (.set 1 (.var 11)
       .ret)
       .nxt)))))))
    (.set 6 (.b (.bin .add) (.var 6) (.lit (.int .i64 1)))
    .nxt))))))
 (.call false (some 16) 67 (.cn (.u (.lda 4) (.var 2)) .nl)
 (.set 12 (.var 16)
 (.seq
  (.ite (.b (.bin .neq) (.var 12) (.lit (.int .i64 0)))
   (.set 1 (.var 12)
   .ret)
   .nxt)
 (.seq
  (.blk 3
   (.call false (some 17) 68 (.cn (.u (.lda 4) (.var 2)) (.cn (.u .ld1 (.u (.fld 3) (.var 2))) .nl))
   (.set 13 (.u (.un .not) (.var 17))
   (.ite (.var 13)
    (.set 1 (.lit (.int .i64 7))
    .ret)
    (.call false (some 18) 69 (.cn (.u (.lda 4) (.var 2)) (.cn (.u .ld1 (.u (.fld 3) (.var 2))) .nl))
    (.set 14 (.var 18)
    (.ite (.var 14)
     (.set 1 (.lit (.int .i64 13))
     .ret)
     .nxt)))))))
 (.set 1 (.lit (.int .i64 0))
 .ret))))))))))))
def f_layout_Check : Fun := ⟨s_layout_Check, [(.var 1)]⟩
abbrev v_layout_Check : List Nat := [0, 2, 1, 7, 16, 21, 35, 34, 36, 33, 4, 5, 6, 52, 58, 42, 48, 56, 62]
theorem c_layout_Check : compF P Go.Proofs.Try.f58 v_layout_Check = some f_layout_Check := by kernel_rfl
theorem of_layout_Check {args : List Value} (hn : args.length ≤ 63) {h : Heap} {R : Value → Heap → Prop} (hs : s_layout_Check.wp P (f_layout_Check.post R) (env0 v_layout_Check args) h) : Runs P n_layout_Check args h R := fn_of P_mixed Go.Proofs.Try.func58 c_layout_Check (by rw [Go.Proofs.Try.ntmps58]; exact hn) hs
theorem vr_layout_Check {kp : Bool} {args : List A} {H : List Blk} {R : A → List Blk → Prop} (hlen : args.length ≤ 63) (hk : kp = false ∨ H = []) (hw : (∀ B ∈ H, A.bdL H.length B.cells = true) → A.bdL H.length args = true → s_layout_Check.aw P H.length (postA H.length f_layout_Check R) (envA v_layout_Check args) H) : VR P kp n_layout_Check args H R := VR.of (F := f_layout_Check) (V := v_layout_Check) of_layout_Check hlen hk fun h1 h2 => aw_sound (hw h1 h2)
theorem r_layout_Check : Fun.res f_layout_Check = [(.var 1)] := rfl
abbrev g_layout_Check_0 : List Nat := [1, 6, 8, 10, 11, 15]

/-- recycling/graph.Check -/
abbrev n_graph_Check : Nat := 59
def s_graph_Check : S :=
 (.eff false (some 2) (.box 52 (.var 0))
 (.set 1 (.lit (.int .i64 0))
 (.seq
  (.ite (.ite (.b (.bin .lss) (.u .ld1 (.u (.fld 0) (.var 2))) (.lit (.int .i64 0))) (.lit (.bool true)) (.b (.bin .gtr) (.u .ld1 (.u (.fld 0) (.var 2))) (.lit (.int .i64 64))))
   (.set 1 (.lit (.int .i64 1))
   .ret)
   .nxt)
 (.seq
  (.ite (.b (.bin .gtr) (.u .len (.u .ld1 (.u (.fld 1) (.var 2)))) (.lit (.int .i64 512)))
   (.set 1 (.lit (.int .i64 8))
   .ret)
   .nxt)
 (.set 6 (.u .ld1 (.u (.fld 1) (.var 2)))
 (.set 4 (.u .len (.var 6))
 (.set 3 (.lit (.int .i64 0))
 (.seq
  (.blk 0
   (.loop
    (.set 5 (.b (.bin .lss) (.var 3) (.var 4))
    (.seq
     (.ite (.var 5)
      .nxt
      (.exit 0))
    (.seq
     (.blk 1
      (.chk (.u (.lda 2) (.b (.idx 2) (.var 6) (.var 3)))
      (.eff false (some 7) (.alloc 61 [(.int .i64 0), (.int .i64 0)])
      (.eff false none (.st 2 (.var 7) (.u (.lda 2) (.b (.idx 2) (.var 6) (.var 3))))
      (.ite (.ite (.ite (.ite (.b (.bin .lss) (.u .ld1 (.u (.fld 0) (.var 7))) (.lit (.int .i64 0))) (.lit (.bool true)) (.b (.bin .geq) (.u .ld1 (.u (.fld 0) (.var 7))) (.u .ld1 (.u (.fld 0) (.var 2))))) (.lit (.bool true)) (.b (.bin .lss) (.u .ld1 (.u (.fld 1) (.var 7))) (.lit (.int .i64 0)))) (.lit (.bool true)) (.b (.bin .geq) (.u .ld1 (.u (.fld 1) (.var 7))) (.u .ld1 (.u (.fld 0) (.var 2)))))
       (.set 1 (.lit (.int .i64 7))
       .ret)
       .nxt)))))
    (.set 3 (.b (.bin .add) (.var 3) (.lit (.int .i64 1)))
    .nxt))))))
 (.set 1 (.lit (.int .i64 0))
 .ret)))))))))
def f_graph_Check : Fun := ⟨s_graph_Check, [(.var 1)]⟩
abbrev v_graph_Check : List Nat := [0, 2, 1, 20, 19, 21, 18, 4]
theorem c_graph_Check : compF P Go.Proofs.Try.f59 v_graph_Check = some f_graph_Check := by kernel_rfl
theorem of_graph_Check {args : List Value} (hn : args.length ≤ 47) {h : Heap} {R : Value → Heap → Prop} (hs : s_graph_Check.wp P (f_graph_Check.post R) (env0 v_graph_Check args) h) : Runs P n_graph_Check args h R := fn_of P_mixed Go.Proofs.Try.func59 c_graph_Check (by rw [Go.Proofs.Try.ntmps59]; exact hn) hs
theorem vr_graph_Check {kp : Bool} {args : List A} {H : List Blk} {R : A → List Blk → Prop} (hlen : args.length ≤ 47) (hk : kp = false ∨ H = []) (hw : (∀ B ∈ H, A.bdL H.length B.cells = true) → A.bdL H.length args = true → s_graph_Check.aw P H.length (postA H.length f_graph_Check R) (envA v_graph_Check args) H) : VR P kp n_graph_Check args H R := VR.of (F := f_graph_Check) (V := v_graph_Check) of_graph_Check hlen hk fun h1 h2 => aw_sound (hw h1 h2)
theorem r_graph_Check : Fun.res f_graph_Check = [(.var 1)] := rfl
abbrev g_graph_Check_0 : List Nat := [1, 3, 5, 7]

/-- recycling/graph.Reach -/
abbrev n_graph_Reach : Nat := 60
def s_graph_Reach : S :=
 (.eff false (some 4) (.box 52 (.var 0))
 (.set 2 (.lit (.slice none 0 0))
 (.set 3 (.lit (.int .i64 0))
 (.call false (some 5) 56 (.cn (.u (.lda 2) (.var 4)) (.cn (.var 1) (.cn (.lit (.func (.func 70) #[] #[])) .nl)))
 (.chk (.u (.ext 0) (.var 5))
 (.chk (.u (.ext 1) (.var 5))
 (.set 2 (.u (.ext 0) (.var 5))
 (.set 3 (.u (.ext 1) (.var 5))
 .ret))))))))
def f_graph_Reach : Fun := ⟨s_graph_Reach, [(.var 2), (.var 3)]⟩
abbrev v_graph_Reach : List Nat := [0, 1, 4, 5, 2, 8]
theorem c_graph_Reach : compF P Go.Proofs.Try.f60 v_graph_Reach = some f_graph_Reach := by kernel_rfl
theorem of_graph_Reach {args : List Value} (hn : args.length ≤ 11) {h : Heap} {R : Value → Heap → Prop} (hs : s_graph_Reach.wp P (f_graph_Reach.post R) (env0 v_graph_Reach args) h) : Runs P n_graph_Reach args h R := fn_of P_mixed Go.Proofs.Try.func60 c_graph_Reach (by rw [Go.Proofs.Try.ntmps60]; exact hn) hs
theorem vr_graph_Reach {kp : Bool} {args : List A} {H : List Blk} {R : A → List Blk → Prop} (hlen : args.length ≤ 11) (hk : kp = false ∨ H = []) (hw : (∀ B ∈ H, A.bdL H.length B.cells = true) → A.bdL H.length args = true → s_graph_Reach.aw P H.length (postA H.length f_graph_Reach R) (envA v_graph_Reach args) H) : VR P kp n_graph_Reach args H R := VR.of (F := f_graph_Reach) (V := v_graph_Reach) of_graph_Reach hlen hk fun h1 h2 => aw_sound (hw h1 h2)
theorem r_graph_Reach : Fun.res f_graph_Reach = [(.var 2), (.var 3)] := rfl

/-- recycling/graph.visit$1 -/
abbrev n_graph_visit_1 : Nat := 65
def s_graph_visit_1 : S :=
 (.seq
  (.ite (.u .ld1 (.b (.idx 1) (.u .ld1 (.var 1)) (.var 0)))
   .ret
   .nxt)
 (.eff false none (.st 1 (.b (.idx 1) (.u .ld1 (.var 1)) (.var 0)) (.lit (.bool true)))
 (.set 8 (.u .ld1 (.u (.fld 1) (.var 2)))
 (.set 6 (.u .len (.var 8))
 (.set 5 (.lit (.int .i64 0))
 (.blk 0
  (.loop
   (.set 7 (.b (.bin .lss) (.var 5) (.var 6))
   (.seq
    (.ite (.var 7)
     .nxt
     (.exit 0))
   (.seq
    (.blk 1
     (.chk (.u (.lda 2) (.b (.idx 2) (.var 8) (.var 5)))
     (.eff false (some 9) (.alloc 61 [(.int .i64 0), (.int .i64 0)])
     (.eff false none (.st 2 (.var 9) (.u (.lda 2) (.b (.idx 2) (.var 8) (.var 5))))
     (.callv false (some 12) (.u .ld1 (.var 3)) (.cn (.u (.lda 2) (.var 9)) .nl)
     (.chk (.u (.ext 0) (.var 12))
     (.chk (.u (.ext 1) (.var 12))
     (.set 10 (.u (.ext 0) (.var 12))
     (.set 11 (.u (.ext 1) (.var 12))
     (.ite (.b (.bin .eql) (.var 10) (.var 0))
      (.callv false none (.u .ld1 (.var 4)) (.cn (.var 11) .nl)
      .nxt)
      .nxt))))))))))
   (.set 5 (.b (.bin .add) (.var 5) (.lit (.int .i64 1)))
   .nxt)))))))))))
def f_graph_visit_1 : Fun := ⟨s_graph_visit_1, []⟩
abbrev v_graph_visit_1 : List Nat := [0, 1, 2, 3, 4, 20, 19, 21, 18, 7, 8, 9, 27]
theorem c_graph_visit_1 : compF P Go.Proofs.Try.f65 v_graph_visit_1 = some f_graph_visit_1 := by kernel_rfl
theorem of_graph_visit_1 {args : List Value} (hn : args.length ≤ 37) {h : Heap} {R : Value → Heap → Prop} (hs : s_graph_visit_1.wp P (f_graph_visit_1.post R) (env0 v_graph_visit_1 args) h) : Runs P n_graph_visit_1 args h R := fn_of P_mixed Go.Proofs.Try.func65 c_graph_visit_1 (by rw [Go.Proofs.Try.ntmps65]; exact hn) hs
theorem vr_graph_visit_1 {kp : Bool} {args : List A} {H : List Blk} {R : A → List Blk → Prop} (hlen : args.length ≤ 37) (hk : kp = false ∨ H = []) (hw : (∀ B ∈ H, A.bdL H.length B.cells = true) → A.bdL H.length args = true → s_graph_visit_1.aw P H.length (postA H.length f_graph_visit_1 R) (envA v_graph_visit_1 args) H) : VR P kp n_graph_visit_1 args H R := VR.of (F := f_graph_visit_1) (V := v_graph_visit_1) of_graph_visit_1 hlen hk fun h1 h2 => aw_sound (hw h1 h2)
theorem r_graph_visit_1 : Fun.res f_graph_visit_1 = [] := rfl
abbrev g_graph_visit_1_0 : List Nat := [5, 7, 9, 10, 11, 12]

/-- recycling/machine.Check -/
abbrev n_machine_Check : Nat := 66
def s_machine_Check : S :=
 (.eff false (some 3) (.box 68 (.var 0))
 (.set 2 (.lit (.int .i64 0))
 (.seq
  (.ite (.ite (.b (.bin .lss) (.var 1) (.lit (.int .i64 1))) (.lit (.bool true)) (.b (.bin .gtr) (.var 1) (.lit (.int .i64 16))))
   (.set 2 (.lit (.int .i64 1))
   .ret)
   .nxt)
 (.seq
  (.ite (.b (.bin .neq) (.u .len (.u .ld1 (.u (.fld 0) (.var 3)))) (.var 1))
   (.set 2 (.lit (.int .i64 18))
   .ret)
   .nxt)
 (.set 4 (.lit (.int .i64 0))
 (.set 8 (.u .ld1 (.u (.fld 0) (.var 3)))
 (.set 6 (.u .len (.var 8))
 (.set 5 (.lit (.int .i64 0))
 (.seq
  (.blk 0
   (.loop
    (.set 7 (.b (.bin .lss) (.var 5) (.var 6))
    (.seq
     (.ite (.var 7)
      .nxt
      (.exit 0))
    (.seq
     (.blk 1
      (.set 9 (.u .ld1 (.b (.idx 1) (.var 8) (.var 5)))
      (.set 10 (.lit (.int .i64 0))
      (.seq
       (.ite (.b (.bin .gtr) (.u .len (.var 9)) (.lit (.int .i64 4)))
        (.set 4 (.lit (.int .i64 8))
        (.exit 0))
        .nxt)
      (.seq
       (.ite (.b (.bin .neq) (.u .len (.var 9)) (.u .len (.u .ld1 (.b (.idx 1) (.u .ld1 (.u (.fld 0) (.var 3))) (.lit (.int .i64 0))))))
        (.set 4 (.lit (.int .i64 3))
        (.exit 0))
        .nxt)
      (.set 14 (.var 9)
      (.set 12 (.u .len (.var 14))
      (.set 11 (.lit (.int .i64 0))
      (.seq
       (.blk 2
        (.loop
         (.set 13 (.b (.bin .lss) (.var 11) (.var 12))
         (.seq
          (.ite (.var 13)
           .nxt
           (.exit 2))
         (.seq
          (.blk 3
           (.set 15 (.u .ld1 (.b (.idx 1) (.var 14) (.var 11)))
           (.seq
            (.ite (.ite (.b (.bin .lss) (.var 15) (.lit (.int .i64 0))) (.lit (.bool true)) (.b (.bin .gtr) (.var 15) (.lit (.int .i64 1000))))
             (.set 4 (.lit (.int .i64 1))
             (.exit 0))
             .nxt)
           (.set 10 (.b (.bin .add) (.var 10) (.var 15))
           .nxt))))
         (.set 11 (.b (.bin .add) (.var 11) (.lit (.int .i64 1)))
         .nxt))))))
      (.ite (.ite (.b (.bin .gtr) (.u .len (.var 9)) (.lit (.int .i64 0))) (.b (.bin .neq) (.var 10) (.lit (.int .i64 1000))) (.lit (.bool false)))
       (.set 4 (.lit (.int .i64 17))
       (.exit 0))
       .nxt))))))))))
    (.set 5 (.b (.bin .add) (.var 5) (.lit (.int .i64 1)))
    .nxt))))))
 (.set 2 (.var 4)
 .ret))))))))))
def f_machine_Check : Fun := ⟨s_machine_Check, [(.var 2)]⟩
abbrev v_machine_Check : List Nat := [0, 1, 4, 2, 5, 25, 24, 26, 23, 7, 8, 42, 41, 43, 40, 10]
theorem c_machine_Check : compF P Go.Proofs.Try.f66 v_machine_Check = some f_machine_Check := by kernel_rfl
theorem of_machine_Check {args : List Value} (hn : args.length ≤ 65) {h : Heap} {R : Value → Heap → Prop} (hs : s_machine_Check.wp P (f_machine_Check.post R) (env0 v_machine_Check args) h) : Runs P n_machine_Check args h R := fn_of P_mixed Go.Proofs.Try.func66 c_machine_Check (by rw [Go.Proofs.Try.ntmps66]; exact hn) hs
theorem vr_machine_Check {kp : Bool} {args : List A} {H : List Blk} {R : A → List Blk → Prop} (hlen : args.length ≤ 65) (hk : kp = false ∨ H = []) (hw : (∀ B ∈ H, A.bdL H.length B.cells = true) → A.bdL H.length args = true → s_machine_Check.aw P H.length (postA H.length f_machine_Check R) (envA v_machine_Check args) H) : VR P kp n_machine_Check args H R := VR.of (F := f_machine_Check) (V := v_machine_Check) of_machine_Check hlen hk fun h1 h2 => aw_sound (hw h1 h2)
theorem r_machine_Check : Fun.res f_machine_Check = [(.var 2)] := rfl
abbrev g_machine_Check_0 : List Nat := [4, 5, 7, 9, 10, 11, 12, 13, 14, 15]
abbrev g_machine_Check_1 : List Nat := [4, 10, 11, 13, 15]

/-- recycling/layout.belts -/
abbrev n_layout_belts : Nat := 67
def s_layout_belts : S :=
 (.eff false (some 2) (.box 25 (.var 0))
 (.set 1 (.lit (.int .i64 0))
 (.set 6 (.u .ld1 (.u (.fld 2) (.var 2)))
 (.set 4 (.u .len (.var 6))
 (.set 3 (.lit (.int .i64 0))
 (.seq
  (.blk 0
   (.loop
    (.set 5 (.b (.bin .lss) (.var 3) (.var 4))
    (.seq
     (.ite (.var 5)
      .nxt
      (.exit 0))
    (.seq
     (.blk 1
      (.chk (.u (.lda 4) (.b (.idx 4) (.var 6) (.var 3)))
      (.eff false (some 7) (.alloc 57 [(.int .i64 0), (.int .i64 0), (.int .i64 0), (.int .i64 0)])
      (.eff false none (.st 4 (.var 7) (.u (.lda 4) (.b (.idx 4) (.var 6) (.var 3))))
      (.call false (some 25) 72 (.cn (.u (.lda 4) (.var 2)) (.cn (.u (.lda 4) (.var 7)) .nl))
      (.set 8 (.var 25)
      (.ite (.b (.bin .neq) (.var 8) (.lit (.int .i64 0)))
       (.set 1 (.var 8)
       .ret)
       .nxt)))))))
    (.set 3 (.b (.bin .add) (.var 3) (.lit (.int .i64 1)))
    .nxt))))))
 (.set 12 (.u .ld1 (.u (.fld 2) (.var 2)))
 (.set 10 (.u .len (.var 12))
 (.set 9 (.lit (.int .i64 0))
 (.seq
  (.blk 2
   (.loop
    (.set 11 (.b (.bin .lss) (.var 9) (.var 10))
    (.seq
     (.ite (.var 11)
      .nxt
      (.exit 2))
    (.seq
     (.blk 3
      (.chk (.u (.lda 4) (.b (.idx 4) (.var 12) (.var 9)))
      (.eff false (some 14) (.alloc 57 [(.int .i64 0), (.int .i64 0), (.int .i64 0), (.int .i64 0)])
      (.set 13 (.var 9)
      (.eff false none (.st 4 (.var 14) (.u (.lda 4) (.b (.idx 4) (.var 12) (.var 9))))
      (.call false (some 26) 73 (.cn (.u (.lda 4) (.var 2)) (.cn (.u .ld1 (.u (.fld 0) (.var 14))) (.cn (.u .ld1 (.u (.fld 1) (.var 14))) .nl)))
      (.ite (.b (.bin .neq) (.var 26) (.var 13))
       (.set 1 (.lit (.int .i64 6))
       .ret)
       .nxt)))))))
    (.set 9 (.b (.bin .add) (.var 9) (.lit (.int .i64 1)))
    .nxt))))))
 (.set 18 (.u .ld1 (.u (.fld 1) (.var 2)))
 (.set 16 (.u .len (.var 18))
 (.set 15 (.lit (.int .i64 0))
 (.seq
  (.blk 4
   (.loop
    (.set 17 (.b (.bin .lss) (.var 15) (.var 16))
    (.seq
     (.ite (.var 17)
      .nxt
      (.exit 4))
    (.seq
     (.blk 5
      (.chk (.u (.lda 1) (.b (.idx 1) (.var 18) (.var 15)))
      (.eff false (some 20) (.alloc 68 [(.slice none 0 0)])
      (.set 19 (.var 15)
      (.eff false none (.st 1 (.var 20) (.u (.lda 1) (.b (.idx 1) (.var 18) (.var 15))))
      (.call false (some 22) 74 (.cn (.u (.lda 1) (.var 20)) .nl)
      (.set 21 (.lit (.int .i64 0))
      (.blk 6
       (.loop
        (.set 23 (.b (.bin .lss) (.var 21) (.var 22))
        (.seq
         (.ite (.var 23)
          .nxt
          (.exit 6))
        (.seq
         (.blk 7
          (.set 24 (.var 21)
          (.call false (some 27) 73 (.cn (.u (.lda 4) (.var 2)) (.cn (.var 19) (.cn (.var 24) .nl)))
          (.ite (.b (.bin .lss) (.var 27) (.lit (.int .i64 0)))
           (.set 1 (.lit (.int .i64 3))
           .ret)
           .nxt))))
        (.set 21 (.b (.bin .add) (.var 21) (.lit (.int .i64 1)))
        .nxt)))))))))))))
    (.set 15 (.b (.bin .add) (.var 15) (.lit (.int .i64 1)))
    .nxt))))))
 (.set 1 (.lit (.int .i64 0))
 .ret)))))))))))))))
def f_layout_belts : Fun := ⟨s_layout_belts, [(.var 1)]⟩
abbrev v_layout_belts : List Nat := [0, 2, 1, 14, 13, 15, 12, 4, 5, 28, 27, 29, 26, 6, 7, 45, 44, 46, 43, 8, 9, 52, 51, 53, 10, 20, 38, 58]
theorem c_layout_belts : compF P Go.Proofs.Try.f67 v_layout_belts = some f_layout_belts := by kernel_rfl
theorem of_layout_belts {args : List Value} (hn : args.length ≤ 62) {h : Heap} {R : Value → Heap → Prop} (hs : s_layout_belts.wp P (f_layout_belts.post R) (env0 v_layout_belts args) h) : Runs P n_layout_belts args h R := fn_of P_mixed Go.Proofs.Try.func67 c_layout_belts (by rw [Go.Proofs.Try.ntmps67]; exact hn) hs
theorem vr_layout_belts {kp : Bool} {args : List A} {H : List Blk} {R : A → List Blk → Prop} (hlen : args.length ≤ 62) (hk : kp = false ∨ H = []) (hw : (∀ B ∈ H, A.bdL H.length B.cells = true) → A.bdL H.length args = true → s_layout_belts.aw P H.length (postA H.length f_layout_belts R) (envA v_layout_belts args) H) : VR P kp n_layout_belts args H R := VR.of (F := f_layout_belts) (V := v_layout_belts) of_layout_belts hlen hk fun h1 h2 => aw_sound (hw h1 h2)
theorem r_layout_belts : Fun.res f_layout_belts = [(.var 1)] := rfl
abbrev g_layout_belts_0 : List Nat := [1, 3, 5, 7, 8, 25]
abbrev g_layout_belts_1 : List Nat := [1, 9, 11, 13, 14, 26]
abbrev g_layout_belts_2 : List Nat := [1, 15, 17, 19, 20, 21, 22, 23, 24, 27]
abbrev g_layout_belts_3 : List Nat := [1, 21, 23, 24, 27]

/-- recycling/layout.has -/
abbrev n_layout_has : Nat := 68
def s_layout_has : S :=
 (.eff false (some 3) (.box 25 (.var 0))
 (.set 2 (.lit (.bool false))
 (.set 2 (.ite (.b (.bin .geq) (.var 1) (.lit (.int .i64 0))) (.b (.bin .lss) (.var 1) (.u .len (.u .ld1 (.u (.fld 1) (.var 3))))) (.lit (.bool false)))
 .ret)))
def f_layout_has : Fun := ⟨s_layout_has, [(.var 2)]⟩
abbrev v_layout_has : List Nat := [0, 1, 4, 2]
theorem c_layout_has : compF P Go.Proofs.Try.f68 v_layout_has = some f_layout_has := by kernel_rfl
theorem of_layout_has {args : List Value} (hn : args.length ≤ 14) {h : Heap} {R : Value → Heap → Prop} (hs : s_layout_has.wp P (f_layout_has.post R) (env0 v_layout_has args) h) : Runs P n_layout_has args h R := fn_of P_mixed Go.Proofs.Try.func68 c_layout_has (by rw [Go.Proofs.Try.ntmps68]; exact hn) hs
theorem vr_layout_has {kp : Bool} {args : List A} {H : List Blk} {R : A → List Blk → Prop} (hlen : args.length ≤ 14) (hk : kp = false ∨ H = []) (hw : (∀ B ∈ H, A.bdL H.length B.cells = true) → A.bdL H.length args = true → s_layout_has.aw P H.length (postA H.length f_layout_has R) (envA v_layout_has args) H) : VR P kp n_layout_has args H R := VR.of (F := f_layout_has) (V := v_layout_has) of_layout_has hlen hk fun h1 h2 => aw_sound (hw h1 h2)
theorem r_layout_has : Fun.res f_layout_has = [(.var 2)] := rfl

/-- recycling/layout.bin -/
abbrev n_layout_bin : Nat := 69
def s_layout_bin : S :=
 (.eff false (some 3) (.box 25 (.var 0))
 (.set 2 (.lit (.bool false))
 (.call false (some 4) 74 (.cn (.u (.lda 1) (.b (.idx 1) (.u .ld1 (.u (.fld 1) (.var 3))) (.var 1))) .nl)
 (.set 2 (.b (.bin .eql) (.var 4) (.lit (.int .i64 0)))
 .ret))))
def f_layout_bin : Fun := ⟨s_layout_bin, [(.var 2)]⟩
abbrev v_layout_bin : List Nat := [0, 1, 4, 2, 10]
theorem c_layout_bin : compF P Go.Proofs.Try.f69 v_layout_bin = some f_layout_bin := by kernel_rfl
theorem of_layout_bin {args : List Value} (hn : args.length ≤ 12) {h : Heap} {R : Value → Heap → Prop} (hs : s_layout_bin.wp P (f_layout_bin.post R) (env0 v_layout_bin args) h) : Runs P n_layout_bin args h R := fn_of P_mixed Go.Proofs.Try.func69 c_layout_bin (by rw [Go.Proofs.Try.ntmps69]; exact hn) hs
theorem vr_layout_bin {kp : Bool} {args : List A} {H : List Blk} {R : A → List Blk → Prop} (hlen : args.length ≤ 12) (hk : kp = false ∨ H = []) (hw : (∀ B ∈ H, A.bdL H.length B.cells = true) → A.bdL H.length args = true → s_layout_bin.aw P H.length (postA H.length f_layout_bin R) (envA v_layout_bin args) H) : VR P kp n_layout_bin args H R := VR.of (F := f_layout_bin) (V := v_layout_bin) of_layout_bin hlen hk fun h1 h2 => aw_sound (hw h1 h2)
theorem r_layout_bin : Fun.res f_layout_bin = [(.var 2)] := rfl

/-- recycling/graph.Reach$1 -/
abbrev n_graph_Reach_1 : Nat := 70
def s_graph_Reach_1 : S :=
 (.eff false (some 3) (.box 61 (.var 0))
 (.set 1 (.lit (.int .i64 0))
 (.set 2 (.lit (.int .i64 0))
 (.chk (.u .ld1 (.u (.fld 0) (.var 3)))
 (.chk (.u .ld1 (.u (.fld 1) (.var 3)))
 (.set 1 (.u .ld1 (.u (.fld 0) (.var 3)))
 (.set 2 (.u .ld1 (.u (.fld 1) (.var 3)))
 .ret)))))))
def f_graph_Reach_1 : Fun := ⟨s_graph_Reach_1, [(.var 1), (.var 2)]⟩
abbrev v_graph_Reach_1 : List Nat := [0, 2, 3, 1]
theorem c_graph_Reach_1 : compF P Go.Proofs.Try.f70 v_graph_Reach_1 = some f_graph_Reach_1 := by kernel_rfl
theorem of_graph_Reach_1 {args : List Value} (hn : args.length ≤ 8) {h : Heap} {R : Value → Heap → Prop} (hs : s_graph_Reach_1.wp P (f_graph_Reach_1.post R) (env0 v_graph_Reach_1 args) h) : Runs P n_graph_Reach_1 args h R := fn_of P_mixed Go.Proofs.Try.func70 c_graph_Reach_1 (by rw [Go.Proofs.Try.ntmps70]; exact hn) hs
theorem vr_graph_Reach_1 {kp : Bool} {args : List A} {H : List Blk} {R : A → List Blk → Prop} (hlen : args.length ≤ 8) (hk : kp = false ∨ H = []) (hw : (∀ B ∈ H, A.bdL H.length B.cells = true) → A.bdL H.length args = true → s_graph_Reach_1.aw P H.length (postA H.length f_graph_Reach_1 R) (envA v_graph_Reach_1 args) H) : VR P kp n_graph_Reach_1 args H R := VR.of (F := f_graph_Reach_1) (V := v_graph_Reach_1) of_graph_Reach_1 hlen hk fun h1 h2 => aw_sound (hw h1 h2)
theorem r_graph_Reach_1 : Fun.res f_graph_Reach_1 = [(.var 1), (.var 2)] := rfl

/-- recycling/layout.belt -/
abbrev n_layout_belt : Nat := 72
def s_layout_belt : S :=
 (.eff false (some 3) (.box 25 (.var 0))
 (.eff false (some 4) (.box 57 (.var 1))
 (.set 2 (.lit (.int .i64 0))
 (.seq
  (.blk 0
   (.call false (some 7) 68 (.cn (.u (.lda 4) (.var 3)) (.cn (.u .ld1 (.u (.fld 0) (.var 4))) .nl))
   (.set 8 (.ite (.ite (.u (.un .not) (.var 7)) (.lit (.bool true)) (.b (.bin .lss) (.u .ld1 (.u (.fld 1) (.var 4))) (.lit (.int .i64 0)))) (.lit undef) (.u .ld1 (.u (.fld 1) (.var 4))))
   (.chk (.ite (.ite (.u (.un .not) (.var 7)) (.lit (.bool true)) (.b (.bin .lss) (.u .ld1 (.u (.fld 1) (.var 4))) (.lit (.int .i64 0)))) (.lit undef) (.u (.lda 1) (.b (.idx 1) (.u .ld1 (.u (.fld 1) (.var 3))) (.u .ld1 (.u (.fld 0) (.var 4))))))
   (.seq
    (.ite (.ite (.u (.un .not) (.var 7)) (.lit (.bool true)) (.b (.bin .lss) (.u .ld1 (.u (.fld 1) (.var 4))) (.lit (.int .i64 0))))
     (.set 9 (.lit undef)
     (.set 10 (.lit undef)
     (.set 5 (.lit (.bool true))
     .nxt)))
     (.call true (some 9) 74 (.cn (.u (.lda 1) (.b (.idx 1) (.u .ld1 (.u (.fld 1) (.var 3))) (.u .ld1 (.u (.fld 0) (.var 4))))) .nl)
     (.chk (.ite (.b (.bin .geq) (.var 8) (.var 9)) (.lit undef) (.u (.lda 4) (.var 3)))
     (.chk (.ite (.b (.bin .geq) (.var 8) (.var 9)) (.lit undef) (.u .ld1 (.u (.fld 2) (.var 4))))
     (.ite (.b (.bin .geq) (.var 8) (.var 9))
      (.set 10 (.lit undef)
      (.set 5 (.lit (.bool true))
      .nxt))
      (.call false (some 10) 68 (.cn (.u (.lda 4) (.var 3)) (.cn (.u .ld1 (.u (.fld 2) (.var 4))) .nl))
      (.set 5 (.u (.un .not) (.var 10))
      .nxt)))))))
   (.ite (.var 5)
    (.set 2 (.lit (.int .i64 7))
    .ret)
    (.set 6 (.ite (.b (.bin .lss) (.u .ld1 (.u (.fld 3) (.var 4))) (.lit (.int .i64 1))) (.lit (.bool true)) (.b (.bin .gtr) (.u .ld1 (.u (.fld 3) (.var 4))) (.lit (.int .i64 16))))
    (.ite (.var 6)
     (.set 2 (.lit (.int .i64 1))
     .ret)
     .nxt))))))))
 (.set 2 (.lit (.int .i64 0))
 .ret)))))
def f_layout_belt : Fun := ⟨s_layout_belt, [(.var 2)]⟩
abbrev v_layout_belt : List Nat := [0, 1, 4, 2, 3, 5, 35, 9, 18, 25, 32]
theorem c_layout_belt : compF P Go.Proofs.Try.f72 v_layout_belt = some f_layout_belt := by kernel_rfl
theorem of_layout_belt {args : List Value} (hn : args.length ≤ 44) {h : Heap} {R : Value → Heap → Prop} (hs : s_layout_belt.wp P (f_layout_belt.post R) (env0 v_layout_belt args) h) : Runs P n_layout_belt args h R := fn_of P_mixed Go.Proofs.Try.func72 c_layout_belt (by rw [Go.Proofs.Try.ntmps72]; exact hn) hs
theorem vr_layout_belt {kp : Bool} {args : List A} {H : List Blk} {R : A → List Blk → Prop} (hlen : args.length ≤ 44) (hk : kp = false ∨ H = []) (hw : (∀ B ∈ H, A.bdL H.length B.cells = true) → A.bdL H.length args = true → s_layout_belt.aw P H.length (postA H.length f_layout_belt R) (envA v_layout_belt args) H) : VR P kp n_layout_belt args H R := VR.of (F := f_layout_belt) (V := v_layout_belt) of_layout_belt hlen hk fun h1 h2 => aw_sound (hw h1 h2)
theorem r_layout_belt : Fun.res f_layout_belt = [(.var 2)] := rfl

/-- recycling/layout.find -/
abbrev n_layout_find : Nat := 73
def s_layout_find : S :=
 (.eff false (some 4) (.box 25 (.var 0))
 (.eff false (some 5) (.box 3 (.var 1))
 (.eff false (some 6) (.box 3 (.var 2))
 (.set 3 (.lit (.int .i64 0))
 (.chk (.u .ld1 (.u (.fld 2) (.var 4)))
 (.chk (.fn 76 (.cn (.var 5) (.cn (.var 6) .nl)))
 (.call false (some 7) 75 (.cn (.u .ld1 (.u (.fld 2) (.var 4))) (.cn (.fn 76 (.cn (.var 5) (.cn (.var 6) .nl))) .nl))
 (.set 3 (.var 7)
 .ret))))))))
def f_layout_find : Fun := ⟨s_layout_find, [(.var 3)]⟩
abbrev v_layout_find : List Nat := [0, 1, 2, 6, 3, 4, 5, 10]
theorem c_layout_find : compF P Go.Proofs.Try.f73 v_layout_find = some f_layout_find := by kernel_rfl
theorem of_layout_find {args : List Value} (hn : args.length ≤ 11) {h : Heap} {R : Value → Heap → Prop} (hs : s_layout_find.wp P (f_layout_find.post R) (env0 v_layout_find args) h) : Runs P n_layout_find args h R := fn_of P_mixed Go.Proofs.Try.func73 c_layout_find (by rw [Go.Proofs.Try.ntmps73]; exact hn) hs
theorem vr_layout_find {kp : Bool} {args : List A} {H : List Blk} {R : A → List Blk → Prop} (hlen : args.length ≤ 11) (hk : kp = false ∨ H = []) (hw : (∀ B ∈ H, A.bdL H.length B.cells = true) → A.bdL H.length args = true → s_layout_find.aw P H.length (postA H.length f_layout_find R) (envA v_layout_find args) H) : VR P kp n_layout_find args H R := VR.of (F := f_layout_find) (V := v_layout_find) of_layout_find hlen hk fun h1 h2 => aw_sound (hw h1 h2)
theorem r_layout_find : Fun.res f_layout_find = [(.var 3)] := rfl

/-- recycling/machine.Outs -/
abbrev n_machine_Outs : Nat := 74
def s_machine_Outs : S :=
 (.eff false (some 2) (.box 68 (.var 0))
 (.set 1 (.lit (.int .i64 0))
 (.seq
  (.ite (.b (.bin .eql) (.u .len (.u .ld1 (.u (.fld 0) (.var 2)))) (.lit (.int .i64 0)))
   (.set 1 (.lit (.int .i64 0))
   .ret)
   .nxt)
 (.set 1 (.u .len (.u .ld1 (.b (.idx 1) (.u .ld1 (.u (.fld 0) (.var 2))) (.lit (.int .i64 0)))))
 .ret))))
def f_machine_Outs : Fun := ⟨s_machine_Outs, [(.var 1)]⟩
abbrev v_machine_Outs : List Nat := [0, 2, 1]
theorem c_machine_Outs : compF P Go.Proofs.Try.f74 v_machine_Outs = some f_machine_Outs := by kernel_rfl
theorem of_machine_Outs {args : List Value} (hn : args.length ≤ 12) {h : Heap} {R : Value → Heap → Prop} (hs : s_machine_Outs.wp P (f_machine_Outs.post R) (env0 v_machine_Outs args) h) : Runs P n_machine_Outs args h R := fn_of P_mixed Go.Proofs.Try.func74 c_machine_Outs (by rw [Go.Proofs.Try.ntmps74]; exact hn) hs
theorem vr_machine_Outs {kp : Bool} {args : List A} {H : List Blk} {R : A → List Blk → Prop} (hlen : args.length ≤ 12) (hk : kp = false ∨ H = []) (hw : (∀ B ∈ H, A.bdL H.length B.cells = true) → A.bdL H.length args = true → s_machine_Outs.aw P H.length (postA H.length f_machine_Outs R) (envA v_machine_Outs args) H) : VR P kp n_machine_Outs args H R := VR.of (F := f_machine_Outs) (V := v_machine_Outs) of_machine_Outs hlen hk fun h1 h2 => aw_sound (hw h1 h2)
theorem r_machine_Outs : Fun.res f_machine_Outs = [(.var 1)] := rfl

/-- slices.IndexFunc[[]recycling/api.Belt,recycling/api.Belt] -/
abbrev n_slices_IndexFuncapi_Belt_api_Belt : Nat := 75
def s_slices_IndexFuncapi_Belt_api_Belt : S :=
 (.set 2 (.lit (.int .i64 0))
 (.set 4 (.u .len (.var 0))
 (.set 3 (.lit (.int .i64 0))
 (.seq
  (.blk 0
   (.loop
    (.set 5 (.b (.bin .lss) (.var 3) (.var 4))
    (.seq
     (.ite (.var 5)
      .nxt
      (.exit 0))
    (.seq
     (.blk 1
      (.set 6 (.var 3)
      (.callv false (some 7) (.var 1) (.cn (.u (.lda 4) (.b (.idx 4) (.var 0) (.var 6))) .nl)
      (.ite (.var 7)
       (.set 2 (.var 6)
       .ret)
       .nxt))))
    (.set 3 (.b (.bin .add) (.var 3) (.lit (.int .i64 1)))
    .nxt))))))
 (.set 2 (.lit (.int .i64 (-1)))
 .ret)))))
def f_slices_IndexFuncapi_Belt_api_Belt : Fun := ⟨s_slices_IndexFuncapi_Belt_api_Belt, [(.var 2)]⟩
abbrev v_slices_IndexFuncapi_Belt_api_Belt : List Nat := [0, 1, 4, 8, 7, 9, 5, 16]
theorem c_slices_IndexFuncapi_Belt_api_Belt : compF P Go.Proofs.Try.f75 v_slices_IndexFuncapi_Belt_api_Belt = some f_slices_IndexFuncapi_Belt_api_Belt := by kernel_rfl
theorem of_slices_IndexFuncapi_Belt_api_Belt {args : List Value} (hn : args.length ≤ 19) {h : Heap} {R : Value → Heap → Prop} (hs : s_slices_IndexFuncapi_Belt_api_Belt.wp P (f_slices_IndexFuncapi_Belt_api_Belt.post R) (env0 v_slices_IndexFuncapi_Belt_api_Belt args) h) : Runs P n_slices_IndexFuncapi_Belt_api_Belt args h R := fn_of P_mixed Go.Proofs.Try.func75 c_slices_IndexFuncapi_Belt_api_Belt (by rw [Go.Proofs.Try.ntmps75]; exact hn) hs
theorem vr_slices_IndexFuncapi_Belt_api_Belt {kp : Bool} {args : List A} {H : List Blk} {R : A → List Blk → Prop} (hlen : args.length ≤ 19) (hk : kp = false ∨ H = []) (hw : (∀ B ∈ H, A.bdL H.length B.cells = true) → A.bdL H.length args = true → s_slices_IndexFuncapi_Belt_api_Belt.aw P H.length (postA H.length f_slices_IndexFuncapi_Belt_api_Belt R) (envA v_slices_IndexFuncapi_Belt_api_Belt args) H) : VR P kp n_slices_IndexFuncapi_Belt_api_Belt args H R := VR.of (F := f_slices_IndexFuncapi_Belt_api_Belt) (V := v_slices_IndexFuncapi_Belt_api_Belt) of_slices_IndexFuncapi_Belt_api_Belt hlen hk fun h1 h2 => aw_sound (hw h1 h2)
theorem r_slices_IndexFuncapi_Belt_api_Belt : Fun.res f_slices_IndexFuncapi_Belt_api_Belt = [(.var 2)] := rfl
abbrev g_slices_IndexFuncapi_Belt_api_Belt_0 : List Nat := [2, 3, 5, 6, 7]

/-- recycling/layout.find$1 -/
abbrev n_layout_find_1 : Nat := 76
def s_layout_find_1 : S :=
 (.eff false (some 4) (.box 57 (.var 0))
 (.set 3 (.lit (.bool false))
 (.set 3 (.ite (.b (.bin .eql) (.u .ld1 (.u (.fld 0) (.var 4))) (.u .ld1 (.var 1))) (.b (.bin .eql) (.u .ld1 (.u (.fld 1) (.var 4))) (.u .ld1 (.var 2))) (.lit (.bool false)))
 .ret)))
def f_layout_find_1 : Fun := ⟨s_layout_find_1, [(.var 3)]⟩
abbrev v_layout_find_1 : List Nat := [0, 1, 2, 4, 3]
theorem c_layout_find_1 : compF P Go.Proofs.Try.f76 v_layout_find_1 = some f_layout_find_1 := by kernel_rfl
theorem of_layout_find_1 {args : List Value} (hn : args.length ≤ 15) {h : Heap} {R : Value → Heap → Prop} (hs : s_layout_find_1.wp P (f_layout_find_1.post R) (env0 v_layout_find_1 args) h) : Runs P n_layout_find_1 args h R := fn_of P_mixed Go.Proofs.Try.func76 c_layout_find_1 (by rw [Go.Proofs.Try.ntmps76]; exact hn) hs
theorem vr_layout_find_1 {kp : Bool} {args : List A} {H : List Blk} {R : A → List Blk → Prop} (hlen : args.length ≤ 15) (hk : kp = false ∨ H = []) (hw : (∀ B ∈ H, A.bdL H.length B.cells = true) → A.bdL H.length args = true → s_layout_find_1.aw P H.length (postA H.length f_layout_find_1 R) (envA v_layout_find_1 args) H) : VR P kp n_layout_find_1 args H R := VR.of (F := f_layout_find_1) (V := v_layout_find_1) of_layout_find_1 hlen hk fun h1 h2 => aw_sound (hw h1 h2)
theorem r_layout_find_1 : Fun.res f_layout_find_1 = [(.var 3)] := rfl

end Go.Proofs.Ytfnghkmchlfooaa
namespace Go.Proofs.Ytfnghkmchlfooaa
open Go Go.Lft
set_option linter.unusedSimpArgs false
set_option linter.unusedVariables false

/-- The first error in a list. -/
def firstE {α : Type} (f : α → Int) : List α → Int
  | [] => 0
  | x :: r => if f x ≠ 0 then f x else firstE f r
theorem firstE_hit {α : Type} {f : α → Int} (d : α) : ∀ {l : List α} {k : Nat}, k < l.length → (∀ i, i < k → f (l.getD i d) = 0) → f (l.getD k d) ≠ 0 → firstE f l = f (l.getD k d)
  | [], k, hk, _, _ => by simp at hk
  | x :: r, 0, _, _, hn => by simp only [List.getD_cons_zero] at hn ⊢; simp [firstE, hn]
  | x :: r, k + 1, hk, h, hn => by
    have h0 := h 0 (by omega)
    simp only [List.getD_cons_zero] at h0
    simp only [List.getD_cons_succ] at hn ⊢
    rw [← firstE_hit d (by simpa using hk) (fun i hi => by have := h (i + 1) (by omega); simpa using this) hn]
    simp [firstE, h0]
theorem firstE_none {α : Type} {f : α → Int} (d : α) : ∀ {l : List α}, (∀ i, i < l.length → f (l.getD i d) = 0) → firstE f l = 0
  | [], _ => rfl
  | x :: r, h => by
    have h0 := h 0 (by simp)
    simp only [List.getD_cons_zero] at h0
    simp only [firstE, h0]
    exact firstE_none d (l := r) fun i hi => by have := h (i + 1) (by simpa using hi); simpa using this
theorem firstE_all {α : Type} {f : α → Int} : ∀ {l : List α}, firstE f l = 0 → ∀ x ∈ l, f x = 0
  | [], _, x, hx => by simp at hx
  | y :: r, h, x, hx => by
    unfold firstE at h
    split at h
    · contradiction
    · rename_i h0
      rcases List.mem_cons.1 hx with rfl | hx
      · exact Classical.not_not.1 h0
      · exact firstE_all h x hx

/-- The first place at which p holds, or -1. -/
def idxE {α : Type} (p : α → Prop) [DecidablePred p] : List α → Int
  | [] => -1
  | x :: r => if p x then 0 else if idxE p r < 0 then -1 else idxE p r + 1
theorem idxE_ge {α : Type} (p : α → Prop) [DecidablePred p] : ∀ (l : List α), -1 ≤ idxE p l ∧ idxE p l < l.length
  | [] => by simp [idxE]
  | x :: r => by
    have := idxE_ge p r
    simp only [idxE, List.length_cons]
    split
    · omega
    · split <;> omega
theorem idxE_hit {α : Type} {p : α → Prop} [DecidablePred p] (d : α) : ∀ {l : List α} {k : Nat}, k < l.length → (∀ i, i < k → ¬ p (l.getD i d)) → p (l.getD k d) → idxE p l = k
  | [], k, hk, _, _ => by simp at hk
  | x :: r, 0, _, _, hn => by simp only [List.getD_cons_zero] at hn; simp [idxE, hn]
  | x :: r, k + 1, hk, h, hn => by
    have h0 := h 0 (by omega)
    simp only [List.getD_cons_zero] at h0
    simp only [List.getD_cons_succ] at hn
    have := idxE_hit d (p := p) (l := r) (by simpa using hk) (fun i hi => by have := h (i + 1) (by omega); simpa using this) hn
    simp only [idxE, this, h0, if_false]
    rw [if_neg (by omega)]; omega
theorem idxE_none {α : Type} {p : α → Prop} [DecidablePred p] (d : α) : ∀ {l : List α}, (∀ i, i < l.length → ¬ p (l.getD i d)) → idxE p l = -1
  | [], _ => rfl
  | x :: r, h => by
    have h0 := h 0 (by simp)
    simp only [List.getD_cons_zero] at h0
    have := idxE_none d (p := p) (l := r) fun i hi => by have := h (i + 1) (by simpa using hi); simpa using this
    simp [idxE, h0, this]
theorem idxE_at {α : Type} {p : α → Prop} [DecidablePred p] (d : α) : ∀ {l : List α}, 0 ≤ idxE p l → p (l.getD (idxE p l).toNat d)
  | [], h => by simp [idxE] at h
  | x :: r, h => by
    unfold idxE at h ⊢
    by_cases hx : p x
    · simp [hx]
    · simp only [hx, if_false] at h ⊢
      by_cases h2 : idxE p r < 0
      · rw [if_pos h2] at h; omega
      · rw [if_neg h2] at h ⊢
        have := idxE_at d (p := p) (l := r) (by omega)
        rw [show (idxE p r + 1).toNat = (idxE p r).toNat + 1 by omega]
        simpa using this
theorem idxE_neg {α : Type} {p : α → Prop} [DecidablePred p] {l : List α} (h : idxE p l < 0) : ∀ x ∈ l, ¬ p x := by
  induction l with
  | nil => intro x hx; simp at hx
  | cons y r ih =>
    intro x hx
    unfold idxE at h
    by_cases hy : p y
    · simp [hy] at h
    · simp only [hy, if_false] at h
      by_cases h2 : idxE p r < 0
      · rcases List.mem_cons.1 hx with rfl | hx
        · exact hy
        · exact ih h2 x hx
      · rw [if_neg h2] at h; omega
theorem mem_get {α : Type} (d : α) {l : List α} {k : Nat} (h : k < l.length) : l.getD k d ∈ l := by
  simp [List.getD_eq_getElem?_getD, h]
theorem get_mem {α : Type} (d : α) {l : List α} {x : α} (h : x ∈ l) : ∃ k, k < l.length ∧ l.getD k d = x := by
  obtain ⟨k, hk, rfl⟩ := List.mem_iff_getElem.1 h
  exact ⟨k, hk, by simp [List.getD_eq_getElem?_getD, hk]⟩
theorem take_succ_get' {α : Type} (l : List α) (k : Nat) (d : α) (h : k < l.length) : l.take (k + 1) = l.take k ++ [l.getD k d] := by
  rw [List.take_succ_eq_append_getElem h]; simp [List.getD_eq_getElem?_getD, h]

/-- Sums of the first numbers of a list. -/
def sumT (l : List Int) (k : Nat) : Int := (l.take k).sum
theorem sumT_zero (l : List Int) : sumT l 0 = 0 := by simp [sumT]
theorem sumT_succ (l : List Int) (k : Nat) (h : k < l.length) : sumT l (k + 1) = sumT l k + l.getD k 0 := by
  unfold sumT; rw [take_succ_get' l k 0 h]; simp
theorem sumT_all (l : List Int) : sumT l l.length = l.sum := by simp [sumT]
theorem sumT_bd (l : List Int) (a b : Int) : ∀ (k : Nat), k ≤ l.length → (∀ i, i < k → a ≤ l.getD i 0 ∧ l.getD i 0 ≤ b) → a * k ≤ sumT l k ∧ sumT l k ≤ b * k
  | 0, _, _ => by simp [sumT_zero]
  | k + 1, hk, h => by
    have h1 := sumT_bd l a b k (by omega) fun i hi => h i (by omega)
    have h2 := h k (by omega)
    rw [sumT_succ l k (by omega), show ((k + 1 : Nat) : Int) = (k : Int) + 1 by omega, Int.mul_add, Int.mul_add]
    omega

/-! ### Machines, belts, plants -/
structure Bt where
  fr : Int
  ot : Int
  to : Int
  ln : Int
def b0 : Bt := ⟨0, 0, 0, 0⟩
def btC (b : Bt) : List A := [.v (.int .i64 b.fr), .v (.int .i64 b.ot), .v (.int .i64 b.to), .v (.int .i64 b.ln)]
def btA (b : Bt) : A := .agg (btC b)
def bts (l : List Bt) : List A := l.map btA
abbrev Mc := List (List Int)
def mcC (w : Bool) (m : Mc) : List A := [.fs w (rows w m)]
def mcA (w : Bool) (m : Mc) : A := .agg (mcC w m)
def mcs (w : Bool) (l : List Mc) : List A := l.map (mcA w)
structure Pl where
  mat : Int
  ms : List Mc
  bs : List Bt
  fd : Int
def plC (w v : Bool) (p : Pl) : List A := [.v (.int .i64 p.mat), .fs w (mcs w p.ms), .fs v (bts p.bs), .v (.int .i64 p.fd)]
def plA (w v : Bool) (p : Pl) : A := .agg (plC w v p)

theorem bt_len (l : List Bt) : (bts l).length = l.length := by simp [bts]
theorem bt_idx (w : Bool) (l : List Bt) (kk : IntKind) (j : Int) (h1 : 0 ≤ j) (h2 : j < l.length) : idxA 4 (.fs w (bts l)) (.v (.int kk j)) = some (.fp w [.v (.int .i64 (l.getD j.toNat b0).fr), .v (.int .i64 (l.getD j.toNat b0).ot), .v (.int .i64 (l.getD j.toNat b0).to), .v (.int .i64 (l.getD j.toNat b0).ln)]) :=
  map_idx 4 w l b0 kk j btC (fun _ => rfl) (fun _ => rfl) h1 h2
theorem bt_bd (n : Nat) (l : List Bt) : A.bdL n (bts l) = true := map_bd n l fun _ => rfl
theorem bt_cl (l : List Bt) : A.clL (bts l) = true := map_cl l fun _ => rfl
theorem mc_len (w : Bool) (l : List Mc) : (mcs w l).length = l.length := by simp [mcs]
theorem mc_idx (w v : Bool) (l : List Mc) (kk : IntKind) (j : Int) (h1 : 0 ≤ j) (h2 : j < l.length) : idxA 1 (.fs w (mcs v l)) (.v (.int kk j)) = some (.fp w [.fs v (rows v (l.getD j.toNat []))]) :=
  map_idx 1 w l [] kk j (mcC v) (fun _ => rfl) (fun _ => rfl) h1 h2
theorem mcA_bd (n : Nat) (w : Bool) (m : Mc) : A.bd n (mcA w m) = true := by simp [mcA, mcC, A.bd, A.bdL, r_bd]
theorem mc_bd (n : Nat) (w : Bool) (l : List Mc) : A.bdL n (mcs w l) = true := map_bd n l fun m => mcA_bd n w m
theorem mc_cl (l : List Mc) : A.clL (mcs true l) = true := map_cl l fun m => by simp [mcA, mcC, A.cl, A.clL, r_cl]
theorem plC_bd (n : Nat) (w v : Bool) (p : Pl) : A.bdL n (plC w v p) = true := by simp [plC, A.bdL, A.bd, mc_bd, bt_bd]
theorem plA_bd (n : Nat) (w v : Bool) (p : Pl) : A.bd n (plA w v p) = true := plC_bd n w v p
theorem aM :
    (∀ (l : List Bt), (bts l).length = l.length) ∧
    (∀ (w : Bool) (l : List Bt) (kk : IntKind) (j : Int) (h1 : 0 ≤ j) (h2 : j < l.length), idxA 4 (.fs w (bts l)) (.v (.int kk j)) = some (.fp w [.v (.int .i64 (l.getD j.toNat b0).fr), .v (.int .i64 (l.getD j.toNat b0).ot), .v (.int .i64 (l.getD j.toNat b0).to), .v (.int .i64 (l.getD j.toNat b0).ln)])) ∧
    (∀ (n : Nat) (l : List Bt), A.bdL n (bts l) = true) ∧
    (∀ (l : List Bt), A.clL (bts l) = true) ∧
    (∀ (w : Bool) (l : List Mc), (mcs w l).length = l.length) ∧
    (∀ (w v : Bool) (l : List Mc) (kk : IntKind) (j : Int) (h1 : 0 ≤ j) (h2 : j < l.length), idxA 1 (.fs w (mcs v l)) (.v (.int kk j)) = some (.fp w [.fs v (rows v (l.getD j.toNat []))])) ∧
    (∀ (n : Nat) (w : Bool) (m : Mc), A.bd n (mcA w m) = true) ∧
    (∀ (n : Nat) (w : Bool) (l : List Mc), A.bdL n (mcs w l) = true) ∧
    (∀ (l : List Mc), A.clL (mcs true l) = true) ∧
    (∀ (n : Nat) (w v : Bool) (p : Pl), A.bdL n (plC w v p) = true) ∧
    (∀ (n : Nat) (w v : Bool) (p : Pl), A.bd n (plA w v p) = true) :=
  ⟨@bt_len, @bt_idx, @bt_bd, @bt_cl, @mc_len, @mc_idx, @mcA_bd, @mc_bd, @mc_cl, @plC_bd, @plA_bd⟩

/-! ### What the document says of machines -/
def rangeE (r : Int) : Int := if r < 0 ∨ 1000 < r then 1 else 0
def rowE (outs : Nat) (r : List Int) : Int :=
  if 4 < r.length then 8 else if r.length ≠ outs then 3 else if firstE rangeE r ≠ 0 then firstE rangeE r else if 0 < r.length ∧ r.sum ≠ 1000 then 17 else 0
def outsN (m : Mc) : Nat := (m.getD 0 []).length
def mcheck (m : Mc) (mat : Int) : Int :=
  if mat < 1 ∨ 16 < mat then 1 else if (m.length : Int) ≠ mat then 18 else firstE (rowE (outsN m)) m
def mainN (m : Mc) (mat : Int) : Int := if mat < 0 ∨ (m.length : Int) ≤ mat then -1 else idxE (fun r : Int => 0 < r) (m.getD mat.toNat [])

theorem rangeE_zero {r : Int} (h : rangeE r = 0) : 0 ≤ r ∧ r ≤ 1000 := by unfold rangeE at h; split at h <;> omega
theorem rangeE_bad {r : Int} (h : r < 0 ∨ 1000 < r) : rangeE r = 1 := by unfold rangeE; rw [if_pos h]
theorem rangeE_ok {r : Int} (h : ¬ (r < 0 ∨ 1000 < r)) : rangeE r = 0 := by unfold rangeE; rw [if_neg h]
theorem outsN_le {m : Mc} : outsN m = 0 ∨ 0 < m.length := by
  cases m with
  | nil => exact .inl rfl
  | cons a r => exact .inr (by simp)
/-- What a machine without errors is. -/
structure MOk (m : Mc) (mat : Int) : Prop where
  m1 : 1 ≤ mat
  m2 : mat ≤ 16
  len : (m.length : Int) = mat
  row : ∀ r ∈ m, r.length = outsN m ∧ r.length ≤ 4 ∧ (∀ x ∈ r, 0 ≤ x ∧ x ≤ 1000) ∧ (0 < r.length → r.sum = 1000)
theorem mcheck_ok {m : Mc} {mat : Int} (h : mcheck m mat = 0) : MOk m mat := by
  unfold mcheck at h
  split at h
  · cases h
  rename_i h1
  split at h
  · cases h
  rename_i h2
  refine ⟨by omega, by omega, by omega, fun r hr => ?_⟩
  have hr' := firstE_all h r hr
  unfold rowE at hr'
  split at hr'
  · cases hr'
  rename_i h3
  split at hr'
  · cases hr'
  rename_i h4
  split at hr'
  · contradiction
  rename_i h5
  split at hr'
  · cases hr'
  rename_i h6
  refine ⟨by omega, by omega, fun x hx => rangeE_zero (firstE_all (Classical.not_not.1 h5) x hx), fun h7 => ?_⟩
  apply Classical.byContradiction; intro h8; exact h6 ⟨h7, h8⟩
end Go.Proofs.Ytfnghkmchlfooaa
namespace Go.Proofs.Ytfnghkmchlfooaa
open Go Go.Lft
set_option linter.unusedSimpArgs false
set_option linter.unusedVariables false

def isB (m o : Int) (b : Bt) : Prop := b.fr = m ∧ b.ot = o
instance (m o : Int) : DecidablePred (isB m o) := fun b => by unfold isB; infer_instance
def findB (bs : List Bt) (m o : Int) : Int := idxE (isB m o) bs
def beltE (ms : List Mc) (b : Bt) : Int :=
  if b.fr < 0 ∨ (ms.length : Int) ≤ b.fr ∨ b.ot < 0 ∨ (outsN (ms.getD b.fr.toNat []) : Int) ≤ b.ot ∨ b.to < 0 ∨ (ms.length : Int) ≤ b.to then 7
  else if b.ln < 1 ∨ 16 < b.ln then 1 else 0
def twice (bs : List Bt) : Prop := ∃ k, k < bs.length ∧ findB bs (bs.getD k b0).fr (bs.getD k b0).ot ≠ k
def openO (ms : List Mc) (bs : List Bt) : Prop := ∃ i, i < ms.length ∧ ∃ o, o < outsN (ms.getD i []) ∧ findB bs i o < 0
instance (bs : List Bt) : Decidable (twice bs) := by unfold twice; infer_instance
instance (ms : List Mc) (bs : List Bt) : Decidable (openO ms bs) := by unfold openO; infer_instance
def beltsE (ms : List Mc) (bs : List Bt) : Int :=
  if firstE (beltE ms) bs ≠ 0 then firstE (beltE ms) bs else if twice bs then 6 else 0
def pcheck (p : Pl) : Int :=
  if p.mat < 1 ∨ 16 < p.mat then 1 else if p.ms.length = 0 then 10 else if 24 < p.ms.length ∨ 48 < p.bs.length then 8
  else if firstE (fun m => mcheck m p.mat) p.ms ≠ 0 then firstE (fun m => mcheck m p.mat) p.ms
  else if beltsE p.ms p.bs ≠ 0 then beltsE p.ms p.bs
  else if openO p.ms p.bs then 3
  else if p.fd < 0 ∨ (p.ms.length : Int) ≤ p.fd then 7
  else if outsN (p.ms.getD p.fd.toNat []) = 0 then 13 else 0

/-- What a plant without errors is. -/
structure POk (p : Pl) : Prop where
  m1 : 1 ≤ p.mat
  m2 : p.mat ≤ 16
  n1 : 1 ≤ p.ms.length
  n2 : p.ms.length ≤ 24
  b2 : p.bs.length ≤ 48
  mc : ∀ m ∈ p.ms, MOk m p.mat
  bt : ∀ b ∈ p.bs, 0 ≤ b.fr ∧ b.fr < p.ms.length ∧ 0 ≤ b.ot ∧ b.ot < outsN (p.ms.getD b.fr.toNat []) ∧ 0 ≤ b.to ∧ b.to < p.ms.length ∧ 1 ≤ b.ln ∧ b.ln ≤ 16
  un : ∀ k, k < p.bs.length → findB p.bs (p.bs.getD k b0).fr (p.bs.getD k b0).ot = k
  op : ∀ i, i < p.ms.length → ∀ o, o < outsN (p.ms.getD i []) → 0 ≤ findB p.bs i o
  fd : 0 ≤ p.fd ∧ p.fd < p.ms.length
  fo : outsN (p.ms.getD p.fd.toNat []) ≠ 0
theorem beltE_ok {ms : List Mc} {b : Bt} (h : beltE ms b = 0) : 0 ≤ b.fr ∧ b.fr < ms.length ∧ 0 ≤ b.ot ∧ b.ot < outsN (ms.getD b.fr.toNat []) ∧ 0 ≤ b.to ∧ b.to < ms.length ∧ 1 ≤ b.ln ∧ b.ln ≤ 16 := by
  unfold beltE at h
  split at h
  · cases h
  · split at h
    · cases h
    · omega
theorem pcheck_ok {p : Pl} (h : pcheck p = 0) : POk p := by
  unfold pcheck at h
  split at h
  · cases h
  rename_i h1
  split at h
  · cases h
  rename_i h2
  split at h
  · cases h
  rename_i h3
  split at h
  · contradiction
  rename_i h4
  split at h
  · contradiction
  rename_i h5
  split at h
  · cases h
  rename_i h6
  split at h
  · cases h
  rename_i h7
  split at h
  · cases h
  rename_i h8
  have h5 := Classical.not_not.1 h5
  unfold beltsE at h5
  split at h5
  · contradiction
  rename_i h9
  split at h5
  · cases h5
  rename_i h10
  refine ⟨by omega, by omega, by omega, by omega, by omega, fun m hm => mcheck_ok (firstE_all (Classical.not_not.1 h4) m hm), fun b hb => beltE_ok (firstE_all (Classical.not_not.1 h9) b hb), fun k hk => ?_, fun i hi o ho => ?_, by omega, h8⟩
  · apply Classical.byContradiction; intro hc; exact h10 ⟨k, hk, hc⟩
  · apply Classical.byContradiction; intro hc; exact h6 ⟨i, hi, o, ho, by omega⟩

/-! ### Ways -/
/-- The number of the belt on which a material leaves a machine. -/
def outB (p : Pl) (mt : Int) (at0 : Nat) : Nat := (findB p.bs at0 (mainN (p.ms.getD at0 []) mt)).toNat
def lx (p : Pl) (mt : Int) (at0 : Nat) : Int := (p.bs.getD (outB p mt at0) b0).ln
def binN (p : Pl) (at0 : Nat) : Prop := outsN (p.ms.getD at0 []) = 0
instance (p : Pl) : DecidablePred (binN p) := fun i => by unfold binN; infer_instance
theorem t1 : pcheck ⟨1, [[[900, 100]], [[]]], [⟨0, 0, 1, 2⟩, ⟨0, 1, 0, 3⟩], 0⟩ = 0 := by decide +kernel
end Go.Proofs.Ytfnghkmchlfooaa
namespace Go.Proofs.Ytfnghkmchlfooaa
open Go Go.Lft
set_option linter.unusedSimpArgs false
set_option linter.unusedVariables false
attribute [local congr] ob_congr bw_congr ib_congr ck_congr iwA_congr itA_congr aw_congr awp_congr sqA_congr bkA_congr vr_congr gd_congr

theorem machineOuts_vr {w : Bool} (m : Mc) : VR P false n_machine_Outs [mcA w m] [] (isR (.v (.int .i64 (outsN m)))) := by
  refine vr_machine_Outs (by simp) (.inr rfl) fun _ _ => ?_
  unfold mcA mcC
  simp (disch := ((try simp only [List.length_set, List.length_replicate, List.length_append, List.length_cons, List.length_nil]); omega)) only [aW, aX, aV, aB, aN, aL, aP, aH, aM, s_machine_Outs, v_machine_Outs]
  refine ib_intro (fun h1 => ?_) (fun h1 => ?_)
  · simp (disch := ((try simp only [List.length_set, List.length_replicate, List.length_append, List.length_cons, List.length_nil]); omega)) only [aW, aX, aV, aB, aN, aL, aP, aH, aM, r_machine_Outs]
    refine post_v ⟨?_, rfl⟩
    have : m = [] := List.eq_nil_of_length_eq_zero (by omega)
    subst this; rfl
  · simp (disch := ((try simp only [List.length_set, List.length_replicate, List.length_append, List.length_cons, List.length_nil]); omega)) only [aW, aX, aV, aB, aN, aL, aP, aH, aM, r_machine_Outs]
    exact post_v ⟨rfl, rfl⟩

theorem row_full {outs : Nat} {r : List Int} (h : 4 < r.length) : rowE outs r = 8 := by unfold rowE; rw [if_pos h]
theorem row_form {outs : Nat} {r : List Int} (h : ¬ 4 < r.length) (h2 : r.length ≠ outs) : rowE outs r = 3 := by unfold rowE; rw [if_neg h, if_pos h2]
theorem row_range {outs : Nat} {r : List Int} (h : ¬ 4 < r.length) (h2 : r.length = outs) {k : Nat} (hk : k < r.length) (hb : ∀ i, i < k → rangeE (r.getD i 0) = 0) (hn : r.getD k 0 < 0 ∨ 1000 < r.getD k 0) : rowE outs r = 1 := by
  unfold rowE
  have h3 := firstE_hit (f := rangeE) 0 hk hb (by rw [rangeE_bad hn]; omega)
  rw [rangeE_bad hn] at h3
  rw [if_neg h, if_neg (by omega), h3]; rfl
theorem row_sum {outs : Nat} {r : List Int} (h : ¬ 4 < r.length) (h2 : r.length = outs) (hb : ∀ i, i < r.length → rangeE (r.getD i 0) = 0) (hs : 0 < r.length ∧ r.sum ≠ 1000) : rowE outs r = 17 := by
  unfold rowE
  have h3 := firstE_none (f := rangeE) 0 hb
  rw [if_neg h, if_neg (by omega), h3, if_neg (by omega), if_pos hs]
theorem row_ok {outs : Nat} {r : List Int} (h : ¬ 4 < r.length) (h2 : r.length = outs) (hb : ∀ i, i < r.length → rangeE (r.getD i 0) = 0) (hs : ¬ (0 < r.length ∧ r.sum ≠ 1000)) : rowE outs r = 0 := by
  unfold rowE
  have h3 := firstE_none (f := rangeE) 0 hb
  rw [if_neg h, if_neg (by omega), h3, if_neg (by omega), if_neg hs]
theorem sum_le {r : List Int} {k : Nat} (hk : k ≤ r.length) (h4 : ¬ 4 < r.length) (hb : ∀ i, i < k → rangeE (r.getD i 0) = 0) : 0 ≤ sumT r k ∧ sumT r k ≤ 4000 := by
  have := sumT_bd r 0 1000 k hk fun i hi => rangeE_zero (hb i hi)
  omega

theorem mcheck_range {m : Mc} {mat : Int} (h : mat < 1 ∨ 16 < mat) : mcheck m mat = 1 := by unfold mcheck; rw [if_pos h]
theorem mcheck_len {m : Mc} {mat : Int} (h : ¬ (mat < 1 ∨ 16 < mat)) (h2 : (m.length : Int) ≠ mat) : mcheck m mat = 18 := by unfold mcheck; rw [if_neg h, if_pos h2]
theorem mcheck_hit {m : Mc} {mat : Int} (h : ¬ (mat < 1 ∨ 16 < mat)) (h2 : (m.length : Int) = mat) {k : Nat} (hk : k < m.length) (hb : ∀ i, i < k → rowE (outsN m) (m.getD i []) = 0) (hn : rowE (outsN m) (m.getD k []) ≠ 0) : mcheck m mat = rowE (outsN m) (m.getD k []) := by
  unfold mcheck; rw [if_neg h, if_neg (by omega)]
  exact firstE_hit [] hk hb hn
theorem mcheck_none {m : Mc} {mat : Int} (h : ¬ (mat < 1 ∨ 16 < mat)) (h2 : (m.length : Int) = mat) (hb : ∀ i, i < m.length → rowE (outsN m) (m.getD i []) = 0) : mcheck m mat = 0 := by
  unfold mcheck; rw [if_neg h, if_neg (by omega)]
  exact firstE_none [] hb
theorem outs_get (m : Mc) : (m.getD 0 []).length = outsN m := rfl

theorem machineCheck_vr {w : Bool} (m : Mc) (mat : Int) : VR P false n_machine_Check [mcA w m, .v (.int .i64 mat)] [] (isR (.v (.int .i64 (mcheck m mat)))) := by
  have hou := outs_get m
  refine vr_machine_Check (by simp) (.inr rfl) fun _ _ => ?_
  unfold mcA mcC
  simp (disch := ((try simp only [List.length_set, List.length_replicate, List.length_append, List.length_cons, List.length_nil]); omega)) only [aW, aX, aV, aB, aN, aL, aP, aH, aM, s_machine_Check, v_machine_Check]
  refine ib_intro (fun h1 => ?_) (fun h1 => ?_)
  · simp (disch := ((try simp only [List.length_set, List.length_replicate, List.length_append, List.length_cons, List.length_nil]); omega)) only [aW, aX, aV, aB, aN, aL, aP, aH, aM, r_machine_Check]
    exact post_v ⟨by rw [mcheck_range h1], rfl⟩
  simp (disch := ((try simp only [List.length_set, List.length_replicate, List.length_append, List.length_cons, List.length_nil]); omega)) only [aW, aX, aV, aB, aN, aL, aP, aH, aM]
  refine ib_intro (fun h2 => ?_) (fun h2 => ?_)
  · simp (disch := ((try simp only [List.length_set, List.length_replicate, List.length_append, List.length_cons, List.length_nil]); omega)) only [aW, aX, aV, aB, aN, aL, aP, aH, aM, r_machine_Check]
    exact post_v ⟨by rw [mcheck_len h1 h2], rfl⟩
  have h2 : (m.length : Int) = mat := by omega
  subst h2
  simp (disch := ((try simp only [List.length_set, List.length_replicate, List.length_append, List.length_cons, List.length_nil]); omega)) only [aW, aX, aV, aB, aN, aL, aP, aH, aM]
  refine AWP.loopP g_machine_Check_0 (fun k : Nat => k ≤ m.length ∧ ∀ i, i < k → rowE (outsN m) (m.getD i []) = 0) (fun k => [(4, .v (.int .i64 0)), (5, .v (.int .i64 k))]) (fun _ => []) (fun k => m.length - k) 0 ⟨by omega, fun i hi => by omega⟩ (by refine Cut.of' (1) ?_ (by omega) ?_ ?_ <;> simp (disch := first | omega | simp (disch := omega) only [aF, aL, aN, aM]) only [aW, aX, aV, aB, aN, aL, aP, aH, aM, aF, Int.natCast_add, Int.natCast_mul, Int.add_sub_cancel, List.length_nil, Int.cast_ofNat_Int, and_true, true_and]) ?_
  rintro k ⟨hk, hb⟩
  by_cases hlt : k < m.length
  · simp (disch := ((try simp only [List.length_set, List.length_replicate, List.length_append, List.length_cons, List.length_nil]); omega)) only [aW, aX, aV, aB, aN, aL, aP, aH, aM, outs_get]
    refine ib_intro (fun h3 => ?_) (fun h3 => ?_)
    · have hr : rowE (outsN m) (m.getD k []) = 8 := row_full (by omega)
      simp (disch := ((try simp only [List.length_set, List.length_replicate, List.length_append, List.length_cons, List.length_nil]); omega)) only [aW, aX, aV, aB, aN, aL, aP, aH, aM, r_machine_Check]
      exact post_v ⟨by rw [mcheck_hit h1 rfl hlt hb (by omega), hr], rfl⟩
    have h3 : ¬ 4 < (m.getD k []).length := by omega
    simp (disch := ((try simp only [List.length_set, List.length_replicate, List.length_append, List.length_cons, List.length_nil]); omega)) only [aW, aX, aV, aB, aN, aL, aP, aH, aM]
    refine ib_intro (fun h4 => ?_) (fun h4 => ?_)
    · have hr : rowE (outsN m) (m.getD k []) = 3 := row_form h3 (by omega)
      simp (disch := ((try simp only [List.length_set, List.length_replicate, List.length_append, List.length_cons, List.length_nil]); omega)) only [aW, aX, aV, aB, aN, aL, aP, aH, aM, r_machine_Check]
      exact post_v ⟨by rw [mcheck_hit h1 rfl hlt hb (by omega), hr], rfl⟩
    have h4 : (m.getD k []).length = outsN m := by omega
    simp (disch := ((try simp only [List.length_set, List.length_replicate, List.length_append, List.length_cons, List.length_nil]); omega)) only [aW, aX, aV, aB, aN, aL, aP, aH, aM]
    refine AWP.loopP g_machine_Check_1 (fun j : Nat => j ≤ (m.getD k []).length ∧ ∀ i, i < j → rangeE ((m.getD k []).getD i 0) = 0) (fun j => [(4, .v (.int .i64 0)), (10, .v (.int .i64 (sumT (m.getD k []) j))), (11, .v (.int .i64 j))]) (fun _ => []) (fun j => (m.getD k []).length - j) 0 ⟨by omega, fun i hi => by omega⟩ (by refine Cut.of' (1) ?_ (by omega) ?_ ?_ <;> simp (disch := first | omega | simp (disch := omega) only [aF, aL, aN, aM]) only [aW, aX, aV, aB, aN, aL, aP, aH, aM, aF, Int.natCast_add, Int.natCast_mul, Int.add_sub_cancel, List.length_nil, Int.cast_ofNat_Int, and_true, true_and, sumT_zero]) ?_
    rintro j ⟨hj, hc⟩
    have hs := sum_le hj h3 hc
    by_cases hjl : j < (m.getD k []).length
    · simp (disch := ((try simp only [List.length_set, List.length_replicate, List.length_append, List.length_cons, List.length_nil]); omega)) only [aW, aX, aV, aB, aN, aL, aP, aH, aM]
      refine ib_intro (fun h5 => ?_) (fun h5 => ?_)
      · have hr := row_range h3 h4 hjl hc h5
        simp (disch := ((try simp only [List.length_set, List.length_replicate, List.length_append, List.length_cons, List.length_nil]); omega)) only [aW, aX, aV, aB, aN, aL, aP, aH, aM, r_machine_Check]
        exact post_v ⟨by rw [mcheck_hit h1 rfl hlt hb (by omega), hr], rfl⟩
      · simp (disch := ((try simp only [List.length_set, List.length_replicate, List.length_append, List.length_cons, List.length_nil]); omega)) only [aW, aX, aV, aB, aN, aL, aP, aH, aM]
        refine ⟨j + 1, ⟨by omega, fun i hi => ?_⟩, by omega, (by refine Cut.of' (1) ?_ (by omega) ?_ ?_ <;> simp (disch := first | omega | simp (disch := omega) only [aF, aL, aN, aM]) only [aW, aX, aV, aB, aN, aL, aP, aH, aM, aF, Int.natCast_add, Int.natCast_mul, Int.add_sub_cancel, List.length_nil, Int.cast_ofNat_Int, and_true, true_and, sumT_succ _ j hjl])⟩
        rcases Nat.lt_succ_iff_lt_or_eq.1 hi with h | rfl
        · exact hc i h
        · exact rangeE_ok h5
    · have hje : j = (m.getD k []).length := by omega
      subst hje
      rw [sumT_all]
      rw [sumT_all] at hs
      simp (disch := ((try simp only [List.length_set, List.length_replicate, List.length_append, List.length_cons, List.length_nil]); omega)) only [aW, aX, aV, aB, aN, aL, aP, aH, aM]
      refine ib_intro (fun h5 => ?_) (fun h5 => ?_)
      · have hr := row_sum h3 h4 hc (by omega)
        simp (disch := ((try simp only [List.length_set, List.length_replicate, List.length_append, List.length_cons, List.length_nil]); omega)) only [aW, aX, aV, aB, aN, aL, aP, aH, aM, r_machine_Check]
        exact post_v ⟨by rw [mcheck_hit h1 rfl hlt hb (by omega), hr], rfl⟩
      · have hr := row_ok h3 h4 hc (by omega)
        simp (disch := ((try simp only [List.length_set, List.length_replicate, List.length_append, List.length_cons, List.length_nil]); omega)) only [aW, aX, aV, aB, aN, aL, aP, aH, aM]
        refine ⟨k + 1, ⟨by omega, fun i hi => ?_⟩, by omega, (by refine Cut.of' (1) ?_ (by omega) ?_ ?_ <;> simp (disch := first | omega | simp (disch := omega) only [aF, aL, aN, aM]) only [aW, aX, aV, aB, aN, aL, aP, aH, aM, aF, Int.natCast_add, Int.natCast_mul, Int.add_sub_cancel, List.length_nil, Int.cast_ofNat_Int, and_true, true_and])⟩
        rcases Nat.lt_succ_iff_lt_or_eq.1 hi with h | rfl
        · exact hb i h
        · exact hr
  · have hkl : k = m.length := by omega
    subst hkl
    simp (disch := ((try simp only [List.length_set, List.length_replicate, List.length_append, List.length_cons, List.length_nil]); omega)) only [aW, aX, aV, aB, aN, aL, aP, aH, aM, r_machine_Check]
    exact post_v ⟨by rw [mcheck_none h1 rfl hb], rfl⟩
end Go.Proofs.Ytfnghkmchlfooaa
namespace Go.Proofs.Ytfnghkmchlfooaa
open Go Go.Lft
set_option linter.unusedSimpArgs false
set_option linter.unusedVariables false
attribute [local congr] ob_congr bw_congr ib_congr ck_congr iwA_congr itA_congr aw_congr awp_congr sqA_congr bkA_congr vr_congr gd_congr

theorem has_vr {w v : Bool} (p : Pl) (m : Int) : VR P false n_layout_has [plA w v p, .v (.int .i64 m)] [] (isR (.v (.bool (decide (0 ≤ m ∧ m < p.ms.length))))) := by
  refine vr_layout_has (by simp) (.inr rfl) fun _ _ => ?_
  unfold plA plC
  simp (disch := ((try simp only [List.length_set, List.length_replicate, List.length_append, List.length_cons, List.length_nil]); omega)) only [aW, aX, aV, aB, aN, aL, aP, aH, aM, s_layout_has, v_layout_has, r_layout_has]
  exact post_v ⟨rfl, rfl⟩

theorem bin_vr {w v : Bool} (p : Pl) (m : Int) (h0 : 0 ≤ m) (h1 : m < p.ms.length) : VR P false n_layout_bin [plA w v p, .v (.int .i64 m)] [] (isR (.v (.bool (decide (binN p m.toNat))))) := by
  refine vr_layout_bin (by simp) (.inr rfl) fun _ _ => ?_
  unfold plA plC
  simp (disch := ((try simp only [List.length_set, List.length_replicate, List.length_append, List.length_cons, List.length_nil]); omega)) only [aW, aX, aV, aB, aN, aL, aP, aH, aM, s_layout_bin, v_layout_bin]
  refine (machineOuts_vr (w := w) (p.ms.getD m.toNat [])).same (by simp (disch := first | omega | simp (disch := omega) only [aF, aL, aN, aM]) only [aW, aX, aV, aB, aN, aL, aP, aH, aM, aF, Int.natCast_add, Int.natCast_mul, Int.add_sub_cancel, List.length_nil, Int.cast_ofNat_Int, and_true, true_and]) rfl (aret_of ?_)
  simp (disch := ((try simp only [List.length_set, List.length_replicate, List.length_append, List.length_cons, List.length_nil]); omega)) only [aW, aX, aV, aB, aN, aL, aP, aH, aM, r_layout_bin]
  exact post_v ⟨vdec (by unfold binN; omega), rfl⟩

theorem find1_vr (b : Bt) (m o : Int) : VR P false n_layout_find_1 [btA b, .fp false [.v (.int .i64 m)], .fp false [.v (.int .i64 o)]] [] (isR (.v (.bool (decide (isB m o b))))) := by
  refine vr_layout_find_1 (by simp) (.inr rfl) fun _ _ => ?_
  unfold btA btC
  simp (disch := ((try simp only [List.length_set, List.length_replicate, List.length_append, List.length_cons, List.length_nil]); omega)) only [aW, aX, aV, aB, aN, aL, aP, aH, aM, s_layout_find_1, v_layout_find_1, r_layout_find_1]
  exact post_v ⟨vdec (by unfold isB; exact Iff.rfl), rfl⟩

theorem findB_hit {bs : List Bt} {m o : Int} {k : Nat} (hk : k < bs.length) (hb : ∀ i, i < k → ¬ isB m o (bs.getD i b0)) (hp : isB m o (bs.getD k b0)) : findB bs m o = k := idxE_hit (p := isB m o) b0 hk hb hp
theorem findB_none {bs : List Bt} {m o : Int} (hb : ∀ i, i < bs.length → ¬ isB m o (bs.getD i b0)) : findB bs m o = -1 := idxE_none (p := isB m o) b0 hb

theorem indexFuncB_vr {v : Bool} (bs : List Bt) (hl : bs.length < 1000000000) (m o : Int) : VR P false n_slices_IndexFuncapi_Belt_api_Belt [.fs v (bts bs), .fn n_layout_find_1 [.fp false [.v (.int .i64 m)], .fp false [.v (.int .i64 o)]]] [] (isR (.v (.int .i64 (findB bs m o)))) := by
  refine vr_slices_IndexFuncapi_Belt_api_Belt (by simp) (.inr rfl) fun _ _ => ?_
  simp (disch := ((try simp only [List.length_set, List.length_replicate, List.length_append, List.length_cons, List.length_nil]); omega)) only [aW, aX, aV, aB, aN, aL, aP, aH, aM, s_slices_IndexFuncapi_Belt_api_Belt, v_slices_IndexFuncapi_Belt_api_Belt]
  refine AWP.loopP g_slices_IndexFuncapi_Belt_api_Belt_0 (fun k : Nat => k ≤ bs.length ∧ ∀ i, i < k → ¬ isB m o (bs.getD i b0)) (fun k => [(2, .v (.int .i64 0)), (3, .v (.int .i64 k))]) (fun _ => []) (fun k => bs.length - k) 0 ⟨by omega, fun i hi => by omega⟩ (by refine Cut.of' (0) ?_ (by omega) ?_ ?_ <;> simp (disch := first | omega | simp (disch := omega) only [aF, aL, aN, aM]) only [aW, aX, aV, aB, aN, aL, aP, aH, aM, aF, Int.natCast_add, Int.natCast_mul, Int.add_sub_cancel, List.length_nil, Int.cast_ofNat_Int, and_true, true_and]) ?_
  rintro k ⟨hk, hb⟩
  by_cases hlt : k < bs.length
  · simp (disch := ((try simp only [List.length_set, List.length_replicate, List.length_append, List.length_cons, List.length_nil]); omega)) only [aW, aX, aV, aB, aN, aL, aP, aH, aM]
    refine ⟨by kernel_rfl, ?_⟩
    refine (find1_vr (bs.getD k b0) m o).same (by unfold btA btC; simp (disch := first | omega | simp (disch := omega) only [aF, aL, aN, aM]) only [aW, aX, aV, aB, aN, aL, aP, aH, aM, aF, Int.natCast_add, Int.natCast_mul, Int.add_sub_cancel, List.length_nil, Int.cast_ofNat_Int, and_true, true_and]) rfl (aret_of ?_)
    simp (disch := ((try simp only [List.length_set, List.length_replicate, List.length_append, List.length_cons, List.length_nil]); omega)) only [aW, aX, aV, aB, aN, aL, aP, aH, aM]
    refine ib_intro (fun h3 => ?_) (fun h3 => ?_)
    · simp (disch := ((try simp only [List.length_set, List.length_replicate, List.length_append, List.length_cons, List.length_nil]); omega)) only [aW, aX, aV, aB, aN, aL, aP, aH, aM, r_slices_IndexFuncapi_Belt_api_Belt]
      exact post_v ⟨by rw [findB_hit hlt hb h3], rfl⟩
    · simp (disch := ((try simp only [List.length_set, List.length_replicate, List.length_append, List.length_cons, List.length_nil]); omega)) only [aW, aX, aV, aB, aN, aL, aP, aH, aM]
      refine ⟨k + 1, ⟨by omega, fun i hi => ?_⟩, by omega, (by refine Cut.of' (0) ?_ (by omega) ?_ ?_ <;> simp (disch := first | omega | simp (disch := omega) only [aF, aL, aN, aM]) only [aW, aX, aV, aB, aN, aL, aP, aH, aM, aF, Int.natCast_add, Int.natCast_mul, Int.add_sub_cancel, List.length_nil, Int.cast_ofNat_Int, and_true, true_and])⟩
      rcases Nat.lt_succ_iff_lt_or_eq.1 hi with h | rfl
      · exact hb i h
      · exact h3
  · simp (disch := ((try simp only [List.length_set, List.length_replicate, List.length_append, List.length_cons, List.length_nil]); omega)) only [aW, aX, aV, aB, aN, aL, aP, aH, aM, r_slices_IndexFuncapi_Belt_api_Belt]
    exact post_v ⟨by rw [findB_none fun i hi => hb i (by omega)], rfl⟩

theorem find_vr {w v : Bool} (p : Pl) (hl : p.bs.length < 1000000000) (m o : Int) : VR P false n_layout_find [plA w v p, .v (.int .i64 m), .v (.int .i64 o)] [] (isR (.v (.int .i64 (findB p.bs m o)))) := by
  refine vr_layout_find (by simp) (.inr rfl) fun _ _ => ?_
  unfold plA plC
  simp (disch := ((try simp only [List.length_set, List.length_replicate, List.length_append, List.length_cons, List.length_nil]); omega)) only [aW, aX, aV, aB, aN, aL, aP, aH, aM, s_layout_find, v_layout_find]
  refine (indexFuncB_vr (v := v) p.bs hl m o).use ⟨Ld.refl (by simp (disch := first | omega | simp (disch := omega) only [aF, aL, aN, aM]) only [aW, aX, aV, aB, aN, aL, aP, aH, aM, aF, Int.natCast_add, Int.natCast_mul, Int.add_sub_cancel, List.length_nil, Int.cast_ofNat_Int, and_true, true_and]), Ld.fn ⟨Ld.lp (o := 0) rfl (LdL.refl rfl) (by simp), Ld.lp (o := 0) rfl (LdL.refl rfl) (by simp), trivial⟩, trivial⟩ rfl (aret_of ?_)
  simp (disch := ((try simp only [List.length_set, List.length_replicate, List.length_append, List.length_cons, List.length_nil]); omega)) only [aW, aX, aV, aB, aN, aL, aP, aH, aM, r_layout_find]
  exact post_v ⟨rfl, rfl⟩

theorem beltE_none {ms : List Mc} {b : Bt} (h : b.fr < 0 ∨ (ms.length : Int) ≤ b.fr ∨ b.ot < 0 ∨ (outsN (ms.getD b.fr.toNat []) : Int) ≤ b.ot ∨ b.to < 0 ∨ (ms.length : Int) ≤ b.to) : beltE ms b = 7 := by unfold beltE; rw [if_pos h]
theorem beltE_range {ms : List Mc} {b : Bt} (h : ¬ (b.fr < 0 ∨ (ms.length : Int) ≤ b.fr ∨ b.ot < 0 ∨ (outsN (ms.getD b.fr.toNat []) : Int) ≤ b.ot ∨ b.to < 0 ∨ (ms.length : Int) ≤ b.to)) (h2 : b.ln < 1 ∨ 16 < b.ln) : beltE ms b = 1 := by unfold beltE; rw [if_neg h, if_pos h2]
theorem beltE_fine {ms : List Mc} {b : Bt} (h : ¬ (b.fr < 0 ∨ (ms.length : Int) ≤ b.fr ∨ b.ot < 0 ∨ (outsN (ms.getD b.fr.toNat []) : Int) ≤ b.ot ∨ b.to < 0 ∨ (ms.length : Int) ≤ b.to)) (h2 : ¬ (b.ln < 1 ∨ 16 < b.ln)) : beltE ms b = 0 := by unfold beltE; rw [if_neg h, if_neg h2]

theorem belt_vr {w v : Bool} (p : Pl) (b : Bt) : VR P false n_layout_belt [plA w v p, btA b] [] (isR (.v (.int .i64 (beltE p.ms b)))) := by
  refine vr_layout_belt (by simp) (.inr rfl) fun _ _ => ?_
  unfold btA btC plA plC
  simp (disch := ((try simp only [List.length_set, List.length_replicate, List.length_append, List.length_cons, List.length_nil]); omega)) only [aW, aX, aV, aB, aN, aL, aP, aH, aM, s_layout_belt, v_layout_belt]
  refine (has_vr (w := w) (v := v) p b.fr).same (by simp (disch := first | omega | simp (disch := omega) only [aF, aL, aN, aM]) only [aW, aX, aV, aB, aN, aL, aP, aH, aM, aF, Int.natCast_add, Int.natCast_mul, Int.add_sub_cancel, List.length_nil, Int.cast_ofNat_Int, and_true, true_and]) rfl (aret_of ?_)
  by_cases h1 : 0 ≤ b.fr ∧ b.fr < p.ms.length
  · simp (disch := ((try simp only [List.length_set, List.length_replicate, List.length_append, List.length_cons, List.length_nil]); omega)) only [aW, aX, aV, aB, aN, aL, aP, aH, aM, decide_eq_true h1]
    by_cases h2 : b.ot < 0
    · simp (disch := ((try simp only [List.length_set, List.length_replicate, List.length_append, List.length_cons, List.length_nil]); omega)) only [aW, aX, aV, aB, aN, aL, aP, aH, aM, r_layout_belt]
      exact post_v ⟨by rw [beltE_none (by omega)], rfl⟩
    · simp (disch := ((try simp only [List.length_set, List.length_replicate, List.length_append, List.length_cons, List.length_nil]); omega)) only [aW, aX, aV, aB, aN, aL, aP, aH, aM]
      refine (machineOuts_vr (w := w) (p.ms.getD b.fr.toNat [])).same (by simp (disch := first | omega | simp (disch := omega) only [aF, aL, aN, aM]) only [aW, aX, aV, aB, aN, aL, aP, aH, aM, aF, Int.natCast_add, Int.natCast_mul, Int.add_sub_cancel, List.length_nil, Int.cast_ofNat_Int, and_true, true_and]) rfl (aret_of ?_)
      simp (disch := ((try simp only [List.length_set, List.length_replicate, List.length_append, List.length_cons, List.length_nil]); omega)) only [aW, aX, aV, aB, aN, aL, aP, aH, aM]
      by_cases h3 : (outsN (p.ms.getD b.fr.toNat []) : Int) ≤ b.ot
      · simp (disch := ((try simp only [List.length_set, List.length_replicate, List.length_append, List.length_cons, List.length_nil]); omega)) only [aW, aX, aV, aB, aN, aL, aP, aH, aM, r_layout_belt]
        exact post_v ⟨by rw [beltE_none (by omega)], rfl⟩
      · simp (disch := ((try simp only [List.length_set, List.length_replicate, List.length_append, List.length_cons, List.length_nil]); omega)) only [aW, aX, aV, aB, aN, aL, aP, aH, aM]
        refine (has_vr (w := w) (v := v) p b.to).same (by simp (disch := first | omega | simp (disch := omega) only [aF, aL, aN, aM]) only [aW, aX, aV, aB, aN, aL, aP, aH, aM, aF, Int.natCast_add, Int.natCast_mul, Int.add_sub_cancel, List.length_nil, Int.cast_ofNat_Int, and_true, true_and]) rfl (aret_of ?_)
        by_cases h4 : 0 ≤ b.to ∧ b.to < p.ms.length
        · have hn : ¬ (b.fr < 0 ∨ (p.ms.length : Int) ≤ b.fr ∨ b.ot < 0 ∨ (outsN (p.ms.getD b.fr.toNat []) : Int) ≤ b.ot ∨ b.to < 0 ∨ (p.ms.length : Int) ≤ b.to) := by omega
          simp (disch := ((try simp only [List.length_set, List.length_replicate, List.length_append, List.length_cons, List.length_nil]); omega)) only [aW, aX, aV, aB, aN, aL, aP, aH, aM, decide_eq_true h4]
          refine ib_intro (fun h5 => ?_) (fun h5 => ?_)
          · simp (disch := ((try simp only [List.length_set, List.length_replicate, List.length_append, List.length_cons, List.length_nil]); omega)) only [aW, aX, aV, aB, aN, aL, aP, aH, aM, r_layout_belt]
            exact post_v ⟨by rw [beltE_range hn h5], rfl⟩
          · simp (disch := ((try simp only [List.length_set, List.length_replicate, List.length_append, List.length_cons, List.length_nil]); omega)) only [aW, aX, aV, aB, aN, aL, aP, aH, aM, r_layout_belt]
            exact post_v ⟨by rw [beltE_fine hn h5], rfl⟩
        · simp (disch := ((try simp only [List.length_set, List.length_replicate, List.length_append, List.length_cons, List.length_nil]); omega)) only [aW, aX, aV, aB, aN, aL, aP, aH, aM, decide_eq_false h4, r_layout_belt]
          exact post_v ⟨by rw [beltE_none (by omega)], rfl⟩
  · simp (disch := ((try simp only [List.length_set, List.length_replicate, List.length_append, List.length_cons, List.length_nil]); omega)) only [aW, aX, aV, aB, aN, aL, aP, aH, aM, decide_eq_false h1, r_layout_belt]
    exact post_v ⟨by rw [beltE_none (by omega)], rfl⟩
end Go.Proofs.Ytfnghkmchlfooaa
