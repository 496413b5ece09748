/- The functions of the program in the small language, written by my own program (wip/bench/gen.py). No statement is claimed here. -/
import Derived.Test.YtaiidcelopfjlaaVj
import Derived.Test.YtaiidcelopfjlaaChecked
import Derived.KernelRfl
namespace Go.Proofs.Ytaiidcelopfjlaa
open Go Go.Lft
set_option maxRecDepth 100000
noncomputable abbrev P : Program := Go.Proofs.Try.prog
theorem P_mixed : P.follows .mixedOrders = true := by kernel_rfl

/-- recycling/recyclinglaw09.GraphChecks -/
abbrev n_law09_GraphChecks : Nat := 3
def s_law09_GraphChecks : S :=
 (.eff false (some 2) (.box 24 (.var 0))
 (.set 1 (.lit (.bool false))
 (.call false (some 3) 12 (.cn (.u (.lda 2) (.var 2)) .nl)
 (.seq
  (.ite (.var 3)
   (.call false (some 4) 13 .nl
   (.set 1 (.var 4)
   .ret))
   .nxt)
 (.set 5 (.u (.lda 2) (.var 2))
 (.call true (some 6) 14 (.cn (.u (.lda 2) (.var 2)) .nl)
 (.call false (some 7) 15 (.cn (.var 5) .nl)
 (.seq
  (.ite (.b (.bin .eql) (.var 6) (.var 7))
   (.call false (some 8) 13 .nl
   (.set 1 (.var 8)
   .nxt))
   (.set 8 (.lit undef)
   (.set 1 (.lit (.bool false))
   .nxt)))
 .ret))))))))
def f_law09_GraphChecks : Fun := ⟨s_law09_GraphChecks, [(.var 1)]⟩
abbrev v_law09_GraphChecks : List Nat := [0, 2, 1, 4, 5, 8, 7, 9, 12]
theorem c_law09_GraphChecks : compF P Go.Proofs.Try.f3 v_law09_GraphChecks = some f_law09_GraphChecks := by kernel_rfl
theorem of_law09_GraphChecks {args : List Value} (hn : args.length ≤ 14) {h : Heap} {R : Value → Heap → Prop} (hs : s_law09_GraphChecks.wp P (f_law09_GraphChecks.post R) (env0 v_law09_GraphChecks args) h) : Runs P n_law09_GraphChecks args h R := fn_of P_mixed Go.Proofs.Try.func3 c_law09_GraphChecks (by rw [Go.Proofs.Try.ntmps3]; exact hn) hs
theorem vr_law09_GraphChecks {kp : Bool} {args : List A} {H : List Blk} {R : A → List Blk → Prop} (hlen : args.length ≤ 14) (hk : kp = false ∨ H = []) (hw : (∀ B ∈ H, A.bdL H.length B.cells = true) → A.bdL H.length args = true → s_law09_GraphChecks.aw P H.length (postA H.length f_law09_GraphChecks R) (envA v_law09_GraphChecks args) H) : VR P kp n_law09_GraphChecks args H R := VR.of (F := f_law09_GraphChecks) (V := v_law09_GraphChecks) of_law09_GraphChecks hlen hk fun h1 h2 => aw_sound (hw h1 h2)
theorem r_law09_GraphChecks : Fun.res f_law09_GraphChecks = [(.var 1)] := rfl

/-- recycling/recyclinglaw09.GraphOrders -/
abbrev n_law09_GraphOrders : Nat := 4
def s_law09_GraphOrders : S :=
 (.eff false (some 2) (.box 24 (.var 0))
 (.set 1 (.lit (.bool false))
 (.call false (some 7) 12 (.cn (.u (.lda 2) (.var 2)) .nl)
 (.seq
  (.ite (.var 7)
   (.call false (some 8) 13 .nl
   (.set 1 (.var 8)
   .ret))
   .nxt)
 (.call false (some 9) 16 (.cn (.u (.lda 2) (.var 2)) .nl)
 (.chk (.u (.ext 0) (.var 9))
 (.chk (.u (.ext 1) (.var 9))
 (.set 3 (.u (.ext 0) (.var 9))
 (.set 4 (.u (.ext 1) (.var 9))
 (.call false (some 10) 17 (.cn (.u (.lda 2) (.var 2)) .nl)
 (.chk (.u (.ext 0) (.var 10))
 (.chk (.u (.ext 1) (.var 10))
 (.set 5 (.u (.ext 0) (.var 10))
 (.set 6 (.u (.ext 1) (.var 10))
 (.call false (some 11) 18 (.cn (.var 3) (.cn (.var 5) .nl))
 (.seq
  (.ite (.ite (.var 11) (.b (.bin .eql) (.var 4) (.var 6)) (.lit (.bool false)))
   (.call false (some 12) 13 .nl
   (.set 1 (.var 12)
   .nxt))
   (.set 12 (.lit undef)
   (.set 1 (.lit (.bool false))
   .nxt)))
 .ret))))))))))))))))
def f_law09_GraphOrders : Fun := ⟨s_law09_GraphOrders, [(.var 1)]⟩
abbrev v_law09_GraphOrders : List Nat := [0, 2, 1, 3, 4, 5, 6, 8, 9, 12, 17, 22, 29]
theorem c_law09_GraphOrders : compF P Go.Proofs.Try.f4 v_law09_GraphOrders = some f_law09_GraphOrders := by kernel_rfl
theorem of_law09_GraphOrders {args : List Value} (hn : args.length ≤ 31) {h : Heap} {R : Value → Heap → Prop} (hs : s_law09_GraphOrders.wp P (f_law09_GraphOrders.post R) (env0 v_law09_GraphOrders args) h) : Runs P n_law09_GraphOrders args h R := fn_of P_mixed Go.Proofs.Try.func4 c_law09_GraphOrders (by rw [Go.Proofs.Try.ntmps4]; exact hn) hs
theorem vr_law09_GraphOrders {kp : Bool} {args : List A} {H : List Blk} {R : A → List Blk → Prop} (hlen : args.length ≤ 31) (hk : kp = false ∨ H = []) (hw : (∀ B ∈ H, A.bdL H.length B.cells = true) → A.bdL H.length args = true → s_law09_GraphOrders.aw P H.length (postA H.length f_law09_GraphOrders R) (envA v_law09_GraphOrders args) H) : VR P kp n_law09_GraphOrders args H R := VR.of (F := f_law09_GraphOrders) (V := v_law09_GraphOrders) of_law09_GraphOrders hlen hk fun h1 h2 => aw_sound (hw h1 h2)
theorem r_law09_GraphOrders : Fun.res f_law09_GraphOrders = [(.var 1)] := rfl

/-- recycling/recyclinglaw09.GraphCycles -/
abbrev n_law09_GraphCycles : Nat := 5
def s_law09_GraphCycles : S :=
 (.eff false (some 2) (.box 24 (.var 0))
 (.set 1 (.lit (.bool false))
 (.call false (some 7) 12 (.cn (.u (.lda 2) (.var 2)) .nl)
 (.seq
  (.ite (.var 7)
   (.call false (some 8) 13 .nl
   (.set 1 (.var 8)
   .ret))
   .nxt)
 (.call false (some 9) 19 (.cn (.u (.lda 2) (.var 2)) .nl)
 (.chk (.u (.ext 0) (.var 9))
 (.chk (.u (.ext 1) (.var 9))
 (.set 3 (.u (.ext 0) (.var 9))
 (.set 4 (.u (.ext 1) (.var 9))
 (.call false (some 10) 20 (.cn (.u (.lda 2) (.var 2)) .nl)
 (.chk (.u (.ext 0) (.var 10))
 (.chk (.u (.ext 1) (.var 10))
 (.set 5 (.u (.ext 0) (.var 10))
 (.set 6 (.u (.ext 1) (.var 10))
 (.call false (some 11) 18 (.cn (.var 3) (.cn (.var 5) .nl))
 (.seq
  (.ite (.ite (.var 11) (.b (.bin .eql) (.var 4) (.var 6)) (.lit (.bool false)))
   (.call false (some 12) 13 .nl
   (.set 1 (.var 12)
   .nxt))
   (.set 12 (.lit undef)
   (.set 1 (.lit (.bool false))
   .nxt)))
 .ret))))))))))))))))
def f_law09_GraphCycles : Fun := ⟨s_law09_GraphCycles, [(.var 1)]⟩
abbrev v_law09_GraphCycles : List Nat := [0, 2, 1, 3, 4, 5, 6, 8, 9, 12, 17, 22, 29]
theorem c_law09_GraphCycles : compF P Go.Proofs.Try.f5 v_law09_GraphCycles = some f_law09_GraphCycles := by kernel_rfl
theorem of_law09_GraphCycles {args : List Value} (hn : args.length ≤ 31) {h : Heap} {R : Value → Heap → Prop} (hs : s_law09_GraphCycles.wp P (f_law09_GraphCycles.post R) (env0 v_law09_GraphCycles args) h) : Runs P n_law09_GraphCycles args h R := fn_of P_mixed Go.Proofs.Try.func5 c_law09_GraphCycles (by rw [Go.Proofs.Try.ntmps5]; exact hn) hs
theorem vr_law09_GraphCycles {kp : Bool} {args : List A} {H : List Blk} {R : A → List Blk → Prop} (hlen : args.length ≤ 31) (hk : kp = false ∨ H = []) (hw : (∀ B ∈ H, A.bdL H.length B.cells = true) → A.bdL H.length args = true → s_law09_GraphCycles.aw P H.length (postA H.length f_law09_GraphCycles R) (envA v_law09_GraphCycles args) H) : VR P kp n_law09_GraphCycles args H R := VR.of (F := f_law09_GraphCycles) (V := v_law09_GraphCycles) of_law09_GraphCycles hlen hk fun h1 h2 => aw_sound (hw h1 h2)
theorem r_law09_GraphCycles : Fun.res f_law09_GraphCycles = [(.var 1)] := rfl

/-- recycling/recyclinglaw09.GraphReaches -/
abbrev n_law09_GraphReaches : Nat := 6
def s_law09_GraphReaches : S :=
 (.eff false (some 3) (.box 24 (.var 0))
 (.set 2 (.lit (.bool false))
 (.call false (some 12) 12 (.cn (.u (.lda 2) (.var 3)) .nl)
 (.seq
  (.ite (.var 12)
   (.call false (some 13) 13 .nl
   (.set 2 (.var 13)
   .ret))
   .nxt)
 (.call false (some 14) 21 (.cn (.u (.lda 2) (.var 3)) (.cn (.var 1) .nl))
 (.chk (.u (.ext 0) (.var 14))
 (.chk (.u (.ext 1) (.var 14))
 (.set 4 (.u (.ext 0) (.var 14))
 (.set 5 (.u (.ext 1) (.var 14))
 (.call false (some 15) 22 (.cn (.u (.lda 2) (.var 3)) (.cn (.var 1) .nl))
 (.chk (.u (.ext 0) (.var 15))
 (.chk (.u (.ext 1) (.var 15))
 (.set 6 (.u (.ext 0) (.var 15))
 (.set 7 (.u (.ext 1) (.var 15))
 (.call false (some 16) 23 (.cn (.u (.lda 2) (.var 3)) (.cn (.var 1) .nl))
 (.chk (.u (.ext 0) (.var 16))
 (.chk (.u (.ext 1) (.var 16))
 (.set 8 (.u (.ext 0) (.var 16))
 (.set 9 (.u (.ext 1) (.var 16))
 (.call false (some 17) 24 (.cn (.u (.lda 2) (.var 3)) (.cn (.var 1) .nl))
 (.chk (.u (.ext 0) (.var 17))
 (.chk (.u (.ext 1) (.var 17))
 (.set 10 (.u (.ext 0) (.var 17))
 (.set 11 (.u (.ext 1) (.var 17))
 (.call false (some 18) 25 (.cn (.var 4) (.cn (.var 6) .nl))
 (.chk (.ite (.ite (.var 18) (.b (.bin .eql) (.var 5) (.var 7)) (.lit (.bool false))) (.var 10) (.lit undef))
 (.seq
  (.ite (.ite (.var 18) (.b (.bin .eql) (.var 5) (.var 7)) (.lit (.bool false)))
   (.call false (some 19) 25 (.cn (.var 8) (.cn (.var 10) .nl))
   (.ite (.ite (.var 19) (.b (.bin .eql) (.var 9) (.var 11)) (.lit (.bool false)))
    (.call false (some 20) 13 .nl
    (.set 2 (.var 20)
    .nxt))
    (.set 20 (.lit undef)
    (.set 2 (.lit (.bool false))
    .nxt))))
   (.set 19 (.lit undef)
   (.set 20 (.lit undef)
   (.set 2 (.lit (.bool false))
   .nxt))))
 .ret)))))))))))))))))))))))))))
def f_law09_GraphReaches : Fun := ⟨s_law09_GraphReaches, [(.var 2)]⟩
abbrev v_law09_GraphReaches : List Nat := [0, 1, 4, 2, 5, 6, 7, 8, 9, 10, 11, 12, 14, 15, 19, 25, 31, 37, 42, 51, 59]
theorem c_law09_GraphReaches : compF P Go.Proofs.Try.f6 v_law09_GraphReaches = some f_law09_GraphReaches := by kernel_rfl
theorem of_law09_GraphReaches {args : List Value} (hn : args.length ≤ 61) {h : Heap} {R : Value → Heap → Prop} (hs : s_law09_GraphReaches.wp P (f_law09_GraphReaches.post R) (env0 v_law09_GraphReaches args) h) : Runs P n_law09_GraphReaches args h R := fn_of P_mixed Go.Proofs.Try.func6 c_law09_GraphReaches (by rw [Go.Proofs.Try.ntmps6]; exact hn) hs
theorem vr_law09_GraphReaches {kp : Bool} {args : List A} {H : List Blk} {R : A → List Blk → Prop} (hlen : args.length ≤ 61) (hk : kp = false ∨ H = []) (hw : (∀ B ∈ H, A.bdL H.length B.cells = true) → A.bdL H.length args = true → s_law09_GraphReaches.aw P H.length (postA H.length f_law09_GraphReaches R) (envA v_law09_GraphReaches args) H) : VR P kp n_law09_GraphReaches args H R := VR.of (F := f_law09_GraphReaches) (V := v_law09_GraphReaches) of_law09_GraphReaches hlen hk fun h1 h2 => aw_sound (hw h1 h2)
theorem r_law09_GraphReaches : Fun.res f_law09_GraphReaches = [(.var 2)] := rfl

/-- recycling/recyclinglaw09.GraphGroups -/
abbrev n_law09_GraphGroups : Nat := 7
def s_law09_GraphGroups : S :=
 (.eff false (some 2) (.box 24 (.var 0))
 (.set 1 (.lit (.bool false))
 (.call false (some 7) 12 (.cn (.u (.lda 2) (.var 2)) .nl)
 (.seq
  (.ite (.var 7)
   (.call false (some 8) 13 .nl
   (.set 1 (.var 8)
   .ret))
   .nxt)
 (.call false (some 9) 26 (.cn (.u (.lda 2) (.var 2)) .nl)
 (.chk (.u (.ext 0) (.var 9))
 (.chk (.u (.ext 1) (.var 9))
 (.set 3 (.u (.ext 0) (.var 9))
 (.set 4 (.u (.ext 1) (.var 9))
 (.call false (some 10) 27 (.cn (.u (.lda 2) (.var 2)) .nl)
 (.chk (.u (.ext 0) (.var 10))
 (.chk (.u (.ext 1) (.var 10))
 (.set 5 (.u (.ext 0) (.var 10))
 (.set 6 (.u (.ext 1) (.var 10))
 (.call false (some 11) 28 (.cn (.var 3) (.cn (.var 5) .nl))
 (.seq
  (.ite (.ite (.var 11) (.b (.bin .eql) (.var 4) (.var 6)) (.lit (.bool false)))
   (.call false (some 12) 13 .nl
   (.set 1 (.var 12)
   .nxt))
   (.set 12 (.lit undef)
   (.set 1 (.lit (.bool false))
   .nxt)))
 .ret))))))))))))))))
def f_law09_GraphGroups : Fun := ⟨s_law09_GraphGroups, [(.var 1)]⟩
abbrev v_law09_GraphGroups : List Nat := [0, 2, 1, 3, 4, 5, 6, 8, 9, 12, 17, 22, 29]
theorem c_law09_GraphGroups : compF P Go.Proofs.Try.f7 v_law09_GraphGroups = some f_law09_GraphGroups := by kernel_rfl
theorem of_law09_GraphGroups {args : List Value} (hn : args.length ≤ 31) {h : Heap} {R : Value → Heap → Prop} (hs : s_law09_GraphGroups.wp P (f_law09_GraphGroups.post R) (env0 v_law09_GraphGroups args) h) : Runs P n_law09_GraphGroups args h R := fn_of P_mixed Go.Proofs.Try.func7 c_law09_GraphGroups (by rw [Go.Proofs.Try.ntmps7]; exact hn) hs
theorem vr_law09_GraphGroups {kp : Bool} {args : List A} {H : List Blk} {R : A → List Blk → Prop} (hlen : args.length ≤ 31) (hk : kp = false ∨ H = []) (hw : (∀ B ∈ H, A.bdL H.length B.cells = true) → A.bdL H.length args = true → s_law09_GraphGroups.aw P H.length (postA H.length f_law09_GraphGroups R) (envA v_law09_GraphGroups args) H) : VR P kp n_law09_GraphGroups args H R := VR.of (F := f_law09_GraphGroups) (V := v_law09_GraphGroups) of_law09_GraphGroups hlen hk fun h1 h2 => aw_sound (hw h1 h2)
theorem r_law09_GraphGroups : Fun.res f_law09_GraphGroups = [(.var 1)] := rfl

/-- recycling/recyclinglaw09.GraphOrder -/
abbrev n_law09_GraphOrder : Nat := 8
def s_law09_GraphOrder : S :=
 (.eff false (some 2) (.box 24 (.var 0))
 (.set 1 (.lit (.bool false))
 (.call false (some 20) 12 (.cn (.u (.lda 2) (.var 2)) .nl)
 (.seq
  (.ite (.var 20)
   (.call false (some 21) 13 .nl
   (.set 1 (.var 21)
   .ret))
   .nxt)
 (.call false (some 22) 16 (.cn (.u (.lda 2) (.var 2)) .nl)
 (.chk (.u (.ext 0) (.var 22))
 (.chk (.u (.ext 1) (.var 22))
 (.set 3 (.u (.ext 0) (.var 22))
 (.set 4 (.u (.ext 1) (.var 22))
 (.call false (some 23) 19 (.cn (.u (.lda 2) (.var 2)) .nl)
 (.chk (.u (.ext 0) (.var 23))
 (.chk (.u (.ext 1) (.var 23))
 (.set 5 (.u (.ext 0) (.var 23))
 (.set 6 (.u (.ext 1) (.var 23))
 (.call false (some 24) 14 (.cn (.u (.lda 2) (.var 2)) .nl)
 (.set 7 (.var 24)
 (.seq
  (.ite (.b (.bin .neq) (.var 7) (.lit (.int .i64 0)))
   (.seq
    (.ite (.ite (.b (.bin .eql) (.var 4) (.var 7)) (.b (.bin .eql) (.var 6) (.var 7)) (.lit (.bool false)))
     (.call false (some 25) 13 .nl
     (.set 1 (.var 25)
     .nxt))
     (.set 25 (.lit undef)
     (.set 1 (.lit (.bool false))
     .nxt)))
   .ret)
   .nxt)
 (.seq
  (.ite (.b (.bin .neq) (.var 4) (.lit (.int .i64 0)))
   (.chk (.ite (.ite (.b (.bin .eql) (.var 4) (.lit (.int .i64 11))) (.b (.bin .eql) (.var 6) (.lit (.int .i64 0))) (.lit (.bool false))) (.u (.lda 2) (.var 2)) (.lit undef))
   (.chk (.ite (.ite (.b (.bin .eql) (.var 4) (.lit (.int .i64 11))) (.b (.bin .eql) (.var 6) (.lit (.int .i64 0))) (.lit (.bool false))) (.var 5) (.lit undef))
   (.seq
    (.ite (.ite (.b (.bin .eql) (.var 4) (.lit (.int .i64 11))) (.b (.bin .eql) (.var 6) (.lit (.int .i64 0))) (.lit (.bool false)))
     (.call false (some 26) 29 (.cn (.u (.lda 2) (.var 2)) (.cn (.var 5) .nl))
     (.ite (.var 26)
      (.call false (some 29) 13 .nl
      (.set 1 (.var 29)
      .nxt))
      (.set 29 (.lit undef)
      (.set 1 (.lit (.bool false))
      .nxt))))
     (.set 26 (.lit undef)
     (.set 29 (.lit undef)
     (.set 1 (.lit (.bool false))
     .nxt))))
   .ret)))
   .nxt)
 (.seq
  (.ite (.ite (.ite (.ite (.b (.bin .neq) (.var 6) (.lit (.int .i64 7))) (.lit (.bool true)) (.b (.bin .neq) (.u .len (.var 5)) (.lit (.int .i64 0)))) (.lit (.bool true)) (.b (.bin .neq) (.u .len (.var 3)) (.u .ld1 (.u (.fld 0) (.var 2))))) (.lit (.bool true)) (.b (.bin .gtr) (.u .ld1 (.u (.fld 0) (.var 2))) (.lit (.int .i64 64))))
   (.set 1 (.lit (.bool false))
   .ret)
   .nxt)
 (.eff false (some 27) (.mk 3 1 8 [(.int .i64 0)] (.u .len (.var 3)) (.u .len (.var 3)))
 (.set 8 (.var 27)
 (.set 12 (.var 3)
 (.set 10 (.u .len (.var 12))
 (.set 9 (.lit (.int .i64 0))
 (.seq
  (.blk 0
   (.loop
    (.set 11 (.b (.bin .lss) (.var 9) (.var 10))
    (.seq
     (.ite (.var 11)
      .nxt
      (.exit 0))
    (.seq
     (.blk 1
      (.chk (.u .ld1 (.b (.idx 1) (.var 12) (.var 9)))
      (.set 13 (.var 9)
      (.set 14 (.u .ld1 (.b (.idx 1) (.var 12) (.var 9)))
      (.seq
       (.ite (.ite (.ite (.b (.bin .lss) (.var 14) (.lit (.int .i64 0))) (.lit (.bool true)) (.b (.bin .geq) (.var 14) (.u .len (.var 8)))) (.lit (.bool true)) (.b (.bin .neq) (.u .ld1 (.b (.idx 1) (.var 8) (.var 14))) (.lit (.int .i64 0))))
        (.set 1 (.lit (.bool false))
        .ret)
        .nxt)
      (.eff false none (.st 1 (.b (.idx 1) (.var 8) (.var 14)) (.b (.bin .add) (.var 13) (.lit (.int .i64 1))))
      .nxt))))))
    (.set 9 (.b (.bin .add) (.var 9) (.lit (.int .i64 1)))
    .nxt))))))
 (.set 18 (.u .ld1 (.u (.fld 1) (.var 2)))
 (.set 16 (.u .len (.var 18))
 (.set 15 (.lit (.int .i64 0))
 (.seq
  (.blk 2
   (.loop
    (.set 17 (.b (.bin .lss) (.var 15) (.var 16))
    (.seq
     (.ite (.var 17)
      .nxt
      (.exit 2))
    (.seq
     (.blk 3
      (.chk (.u (.lda 2) (.b (.idx 2) (.var 18) (.var 15)))
      (.eff false (some 19) (.alloc 44 [(.int .i64 0), (.int .i64 0)])
      (.eff false none (.st 2 (.var 19) (.u (.lda 2) (.b (.idx 2) (.var 18) (.var 15))))
      (.ite (.ite (.ite (.ite (.ite (.b (.bin .lss) (.u .ld1 (.u (.fld 0) (.var 19))) (.lit (.int .i64 0))) (.lit (.bool true)) (.b (.bin .geq) (.u .ld1 (.u (.fld 0) (.var 19))) (.u .len (.var 8)))) (.lit (.bool true)) (.b (.bin .lss) (.u .ld1 (.u (.fld 1) (.var 19))) (.lit (.int .i64 0)))) (.lit (.bool true)) (.b (.bin .geq) (.u .ld1 (.u (.fld 1) (.var 19))) (.u .len (.var 8)))) (.lit (.bool true)) (.b (.bin .geq) (.u .ld1 (.b (.idx 1) (.var 8) (.u .ld1 (.u (.fld 0) (.var 19))))) (.u .ld1 (.b (.idx 1) (.var 8) (.u .ld1 (.u (.fld 1) (.var 19)))))))
       (.set 1 (.lit (.bool false))
       .ret)
       .nxt)))))
    (.set 15 (.b (.bin .add) (.var 15) (.lit (.int .i64 1)))
    .nxt))))))
 (.call false (some 28) 13 .nl
 (.set 1 (.var 28)
 .ret)))))))))))))))))))))))))))))))
def f_law09_GraphOrder : Fun := ⟨s_law09_GraphOrder, [(.var 1)]⟩
abbrev v_law09_GraphOrder : List Nat := [0, 2, 1, 3, 4, 5, 6, 7, 8, 81, 80, 82, 79, 9, 10, 110, 109, 111, 108, 12, 14, 15, 18, 23, 27, 39, 52, 78, 150, 55]
theorem c_law09_GraphOrder : compF P Go.Proofs.Try.f8 v_law09_GraphOrder = some f_law09_GraphOrder := by kernel_rfl
theorem of_law09_GraphOrder {args : List Value} (hn : args.length ≤ 151) {h : Heap} {R : Value → Heap → Prop} (hs : s_law09_GraphOrder.wp P (f_law09_GraphOrder.post R) (env0 v_law09_GraphOrder args) h) : Runs P n_law09_GraphOrder args h R := fn_of P_mixed Go.Proofs.Try.func8 c_law09_GraphOrder (by rw [Go.Proofs.Try.ntmps8]; exact hn) hs
theorem vr_law09_GraphOrder {kp : Bool} {args : List A} {H : List Blk} {R : A → List Blk → Prop} (hlen : args.length ≤ 151) (hk : kp = false ∨ H = []) (hw : (∀ B ∈ H, A.bdL H.length B.cells = true) → A.bdL H.length args = true → s_law09_GraphOrder.aw P H.length (postA H.length f_law09_GraphOrder R) (envA v_law09_GraphOrder args) H) : VR P kp n_law09_GraphOrder args H R := VR.of (F := f_law09_GraphOrder) (V := v_law09_GraphOrder) of_law09_GraphOrder hlen hk fun h1 h2 => aw_sound (hw h1 h2)
theorem r_law09_GraphOrder : Fun.res f_law09_GraphOrder = [(.var 1)] := rfl
abbrev g_law09_GraphOrder_0 : List Nat := [1, 9, 11, 13, 14]
abbrev g_law09_GraphOrder_1 : List Nat := [1, 15, 17, 19]

/-- recycling/recyclinglaw09.GraphMutual -/
abbrev n_law09_GraphMutual : Nat := 9
def s_law09_GraphMutual : S :=
 (.eff false (some 4) (.box 24 (.var 0))
 (.set 3 (.lit (.bool false))
 (.call false (some 31) 26 (.cn (.u (.lda 2) (.var 4)) .nl)
 (.chk (.u (.ext 0) (.var 31))
 (.chk (.u (.ext 1) (.var 31))
 (.set 5 (.u (.ext 0) (.var 31))
 (.set 6 (.u (.ext 1) (.var 31))
 (.call false (some 32) 12 (.cn (.u (.lda 2) (.var 4)) .nl)
 (.seq
  (.ite (.ite (.ite (.ite (.var 32) (.lit (.bool true)) (.b (.bin .neq) (.var 6) (.lit (.int .i64 0)))) (.lit (.bool true)) (.b (.bin .lss) (.u .ld1 (.u (.fld 0) (.var 4))) (.lit (.int .i64 1)))) (.lit (.bool true)) (.b (.bin .gtr) (.u .ld1 (.u (.fld 0) (.var 4))) (.lit (.int .i64 64))))
   (.call false (some 33) 13 .nl
   (.set 3 (.var 33)
   .ret))
   .nxt)
 (.chk (.b (.bin .rem) (.u (.conv .i64) (.var 1)) (.u .ld1 (.u (.fld 0) (.var 4))))
 (.chk (.b (.bin .rem) (.u (.conv .i64) (.var 2)) (.u .ld1 (.u (.fld 0) (.var 4))))
 (.set 7 (.b (.bin .rem) (.u (.conv .i64) (.var 1)) (.u .ld1 (.u (.fld 0) (.var 4))))
 (.set 8 (.b (.bin .rem) (.u (.conv .i64) (.var 2)) (.u .ld1 (.u (.fld 0) (.var 4))))
 (.call false (some 34) 21 (.cn (.u (.lda 2) (.var 4)) (.cn (.var 7) .nl))
 (.chk (.u (.ext 0) (.var 34))
 (.chk (.u (.ext 1) (.var 34))
 (.set 9 (.u (.ext 0) (.var 34))
 (.set 10 (.u (.ext 1) (.var 34))
 (.call false (some 35) 21 (.cn (.u (.lda 2) (.var 4)) (.cn (.var 8) .nl))
 (.chk (.u (.ext 0) (.var 35))
 (.chk (.u (.ext 1) (.var 35))
 (.set 11 (.u (.ext 0) (.var 35))
 (.set 12 (.u (.ext 1) (.var 35))
 (.call false (some 36) 23 (.cn (.u (.lda 2) (.var 4)) (.cn (.var 8) .nl))
 (.chk (.u (.ext 0) (.var 36))
 (.chk (.u (.ext 1) (.var 36))
 (.set 13 (.u (.ext 0) (.var 36))
 (.set 14 (.u (.ext 1) (.var 36))
 (.seq
  (.ite (.ite (.ite (.ite (.ite (.ite (.b (.bin .neq) (.var 10) (.lit (.int .i64 0))) (.lit (.bool true)) (.b (.bin .neq) (.var 12) (.lit (.int .i64 0)))) (.lit (.bool true)) (.b (.bin .neq) (.var 14) (.lit (.int .i64 0)))) (.lit (.bool true)) (.b (.bin .neq) (.u .len (.var 9)) (.u .ld1 (.u (.fld 0) (.var 4))))) (.lit (.bool true)) (.b (.bin .neq) (.u .len (.var 11)) (.u .ld1 (.u (.fld 0) (.var 4))))) (.lit (.bool true)) (.b (.bin .neq) (.u .len (.var 13)) (.u .ld1 (.u (.fld 0) (.var 4)))))
   (.set 3 (.lit (.bool false))
   .ret)
   .nxt)
 (.eff false (some 37) (.mk 3 1 8 [(.int .i64 0)] (.u .ld1 (.u (.fld 0) (.var 4))) (.u .ld1 (.u (.fld 0) (.var 4))))
 (.set 15 (.var 37)
 (.set 19 (.var 5)
 (.set 17 (.u .len (.var 19))
 (.set 16 (.lit (.int .i64 0))
 (.seq
  (.blk 0
   (.loop
    (.set 18 (.b (.bin .lss) (.var 16) (.var 17))
    (.seq
     (.ite (.var 18)
      .nxt
      (.exit 0))
    (.seq
     (.blk 1
      (.chk (.u .ld1 (.b (.idx 1) (.var 19) (.var 16)))
      (.set 20 (.var 16)
      (.set 21 (.u .ld1 (.b (.idx 1) (.var 19) (.var 16)))
      (.set 25 (.var 21)
      (.set 23 (.u .len (.var 25))
      (.set 22 (.lit (.int .i64 0))
      (.blk 2
       (.loop
        (.set 24 (.b (.bin .lss) (.var 22) (.var 23))
        (.seq
         (.ite (.var 24)
          .nxt
          (.exit 2))
        (.seq
         (.blk 3
          (.set 26 (.u .ld1 (.b (.idx 1) (.var 25) (.var 22)))
          (.seq
           (.ite (.ite (.ite (.b (.bin .lss) (.var 26) (.lit (.int .i64 0))) (.lit (.bool true)) (.b (.bin .geq) (.var 26) (.u .ld1 (.u (.fld 0) (.var 4))))) (.lit (.bool true)) (.b (.bin .neq) (.u .ld1 (.b (.idx 1) (.var 15) (.var 26))) (.lit (.int .i64 0))))
            (.set 3 (.lit (.bool false))
            .ret)
            .nxt)
          (.eff false none (.st 1 (.b (.idx 1) (.var 15) (.var 26)) (.b (.bin .add) (.var 20) (.lit (.int .i64 1))))
          .nxt))))
        (.set 22 (.b (.bin .add) (.var 22) (.lit (.int .i64 1)))
        .nxt)))))))))))))
    (.set 16 (.b (.bin .add) (.var 16) (.lit (.int .i64 1)))
    .nxt))))))
 (.set 28 (.u .len (.var 15))
 (.set 27 (.lit (.int .i64 0))
 (.seq
  (.blk 4
   (.loop
    (.set 29 (.b (.bin .lss) (.var 27) (.var 28))
    (.seq
     (.ite (.var 29)
      .nxt
      (.exit 4))
    (.seq
     (.blk 5
      (.set 30 (.var 27)
      (.ite (.b (.bin .eql) (.u .ld1 (.b (.idx 1) (.var 15) (.var 30))) (.lit (.int .i64 0)))
       (.set 3 (.lit (.bool false))
       .ret)
       .nxt)))
    (.set 27 (.b (.bin .add) (.var 27) (.lit (.int .i64 1)))
    .nxt))))))
 (.seq
  (.ite (.ite (.ite (.b (.eqb false) (.b (.bin .eql) (.u .ld1 (.b (.idx 1) (.var 15) (.var 7))) (.u .ld1 (.b (.idx 1) (.var 15) (.var 8)))) (.ite (.u .ld1 (.b (.idx 1) (.var 9) (.var 8))) (.u .ld1 (.b (.idx 1) (.var 11) (.var 7))) (.lit (.bool false)))) (.b (.eqb false) (.u .ld1 (.b (.idx 1) (.var 13) (.var 7))) (.u .ld1 (.b (.idx 1) (.var 9) (.var 8)))) (.lit (.bool false))) (.u .ld1 (.b (.idx 1) (.var 9) (.var 7))) (.lit (.bool false)))
   (.call false (some 38) 13 .nl
   (.set 3 (.var 38)
   .nxt))
   (.set 38 (.lit undef)
   (.set 3 (.lit (.bool false))
   .nxt)))
 .ret)))))))))))))))))))))))))))))))))))))))
def f_law09_GraphMutual : Fun := ⟨s_law09_GraphMutual, [(.var 3)]⟩
abbrev v_law09_GraphMutual : List Nat := [0, 1, 2, 6, 3, 7, 8, 9, 10, 11, 12, 13, 14, 15, 16, 17, 109, 108, 110, 107, 18, 19, 116, 115, 117, 114, 21, 144, 143, 145, 22, 25, 29, 44, 58, 64, 70, 106, 191]
theorem c_law09_GraphMutual : compF P Go.Proofs.Try.f9 v_law09_GraphMutual = some f_law09_GraphMutual := by kernel_rfl
theorem of_law09_GraphMutual {args : List Value} (hn : args.length ≤ 193) {h : Heap} {R : Value → Heap → Prop} (hs : s_law09_GraphMutual.wp P (f_law09_GraphMutual.post R) (env0 v_law09_GraphMutual args) h) : Runs P n_law09_GraphMutual args h R := fn_of P_mixed Go.Proofs.Try.func9 c_law09_GraphMutual (by rw [Go.Proofs.Try.ntmps9]; exact hn) hs
theorem vr_law09_GraphMutual {kp : Bool} {args : List A} {H : List Blk} {R : A → List Blk → Prop} (hlen : args.length ≤ 193) (hk : kp = false ∨ H = []) (hw : (∀ B ∈ H, A.bdL H.length B.cells = true) → A.bdL H.length args = true → s_law09_GraphMutual.aw P H.length (postA H.length f_law09_GraphMutual R) (envA v_law09_GraphMutual args) H) : VR P kp n_law09_GraphMutual args H R := VR.of (F := f_law09_GraphMutual) (V := v_law09_GraphMutual) of_law09_GraphMutual hlen hk fun h1 h2 => aw_sound (hw h1 h2)
theorem r_law09_GraphMutual : Fun.res f_law09_GraphMutual = [(.var 3)] := rfl
abbrev g_law09_GraphMutual_0 : List Nat := [3, 16, 18, 20, 21, 22, 23, 24, 25, 26]
abbrev g_law09_GraphMutual_1 : List Nat := [3, 22, 24, 26]
abbrev g_law09_GraphMutual_2 : List Nat := [3, 27, 29, 30]

/-- recycling/recyclinglaw09.GraphReversed -/
abbrev n_law09_GraphReversed : Nat := 10
def s_law09_GraphReversed : S :=
 (.eff false (some 3) (.box 24 (.var 0))
 (.set 2 (.lit (.bool false))
 (.call false (some 17) 12 (.cn (.u (.lda 2) (.var 3)) .nl)
 (.seq
  (.ite (.var 17)
   (.call false (some 18) 13 .nl
   (.set 2 (.var 18)
   .ret))
   .nxt)
 (.call false (some 19) 30 (.cn (.u (.lda 2) (.var 3)) .nl)
 (.eff false (some 6) (.alloc 24 [(.int .i64 0), (.slice none 0 0)])
 (.eff false none (.st 2 (.var 6) (.var 19))
 (.call false (some 20) 26 (.cn (.u (.lda 2) (.var 3)) .nl)
 (.chk (.u (.ext 0) (.var 20))
 (.chk (.u (.ext 1) (.var 20))
 (.set 4 (.u (.ext 0) (.var 20))
 (.set 5 (.u (.ext 1) (.var 20))
 (.call false (some 21) 26 (.cn (.u (.lda 2) (.var 6)) .nl)
 (.chk (.u (.ext 0) (.var 21))
 (.chk (.u (.ext 1) (.var 21))
 (.set 7 (.u (.ext 0) (.var 21))
 (.set 8 (.u (.ext 1) (.var 21))
 (.call false (some 22) 19 (.cn (.u (.lda 2) (.var 3)) .nl)
 (.chk (.u (.ext 0) (.var 22))
 (.chk (.u (.ext 1) (.var 22))
 (.set 9 (.u (.ext 0) (.var 22))
 (.set 10 (.u (.ext 1) (.var 22))
 (.call false (some 23) 19 (.cn (.u (.lda 2) (.var 6)) .nl)
 (.chk (.u (.ext 0) (.var 23))
 (.chk (.u (.ext 1) (.var 23))
 (.set 11 (.u (.ext 0) (.var 23))
 (.set 12 (.u (.ext 1) (.var 23))
 (.call false (some 24) 21 (.cn (.u (.lda 2) (.var 3)) (.cn (.var 1) .nl))
 (.chk (.u (.ext 0) (.var 24))
 (.chk (.u (.ext 1) (.var 24))
 (.set 13 (.u (.ext 0) (.var 24))
 (.set 14 (.u (.ext 1) (.var 24))
 (.call false (some 25) 23 (.cn (.u (.lda 2) (.var 6)) (.cn (.var 1) .nl))
 (.chk (.u (.ext 0) (.var 25))
 (.chk (.u (.ext 1) (.var 25))
 (.set 15 (.u (.ext 0) (.var 25))
 (.set 16 (.u (.ext 1) (.var 25))
 (.call false (some 26) 28 (.cn (.var 4) (.cn (.var 7) .nl))
 (.chk (.ite (.ite (.ite (.ite (.var 26) (.b (.bin .eql) (.var 5) (.var 8)) (.lit (.bool false))) (.b (.bin .eql) (.u .len (.var 9)) (.u .len (.var 11))) (.lit (.bool false))) (.b (.bin .eql) (.var 10) (.var 12)) (.lit (.bool false))) (.var 15) (.lit undef))
 (.seq
  (.ite (.ite (.ite (.ite (.var 26) (.b (.bin .eql) (.var 5) (.var 8)) (.lit (.bool false))) (.b (.bin .eql) (.u .len (.var 9)) (.u .len (.var 11))) (.lit (.bool false))) (.b (.bin .eql) (.var 10) (.var 12)) (.lit (.bool false)))
   (.call false (some 27) 25 (.cn (.var 13) (.cn (.var 15) .nl))
   (.ite (.ite (.var 27) (.b (.bin .eql) (.var 14) (.var 16)) (.lit (.bool false)))
    (.call false (some 28) 13 .nl
    (.set 2 (.var 28)
    .nxt))
    (.set 28 (.lit undef)
    (.set 2 (.lit (.bool false))
    .nxt))))
   (.set 27 (.lit undef)
   (.set 28 (.lit undef)
   (.set 2 (.lit (.bool false))
   .nxt))))
 .ret))))))))))))))))))))))))))))))))))))))))
def f_law09_GraphReversed : Fun := ⟨s_law09_GraphReversed, [(.var 2)]⟩
abbrev v_law09_GraphReversed : List Nat := [0, 1, 4, 2, 6, 7, 5, 8, 9, 10, 11, 12, 13, 14, 15, 16, 17, 19, 20, 22, 25, 30, 35, 40, 46, 52, 57, 78, 86]
theorem c_law09_GraphReversed : compF P Go.Proofs.Try.f10 v_law09_GraphReversed = some f_law09_GraphReversed := by kernel_rfl
theorem of_law09_GraphReversed {args : List Value} (hn : args.length ≤ 88) {h : Heap} {R : Value → Heap → Prop} (hs : s_law09_GraphReversed.wp P (f_law09_GraphReversed.post R) (env0 v_law09_GraphReversed args) h) : Runs P n_law09_GraphReversed args h R := fn_of P_mixed Go.Proofs.Try.func10 c_law09_GraphReversed (by rw [Go.Proofs.Try.ntmps10]; exact hn) hs
theorem vr_law09_GraphReversed {kp : Bool} {args : List A} {H : List Blk} {R : A → List Blk → Prop} (hlen : args.length ≤ 88) (hk : kp = false ∨ H = []) (hw : (∀ B ∈ H, A.bdL H.length B.cells = true) → A.bdL H.length args = true → s_law09_GraphReversed.aw P H.length (postA H.length f_law09_GraphReversed R) (envA v_law09_GraphReversed args) H) : VR P kp n_law09_GraphReversed args H R := VR.of (F := f_law09_GraphReversed) (V := v_law09_GraphReversed) of_law09_GraphReversed hlen hk fun h1 h2 => aw_sound (hw h1 h2)
theorem r_law09_GraphReversed : Fun.res f_law09_GraphReversed = [(.var 2)] := rfl

/-- recycling/recyclinglaw09.GraphMore -/
abbrev n_law09_GraphMore : Nat := 11
def s_law09_GraphMore : S :=
 (.eff false (some 4) (.box 24 (.var 0))
 (.eff false (some 7) (.box 44 (.var 2))
 (.set 3 (.lit (.bool false))
 (.call false (some 15) 21 (.cn (.u (.lda 2) (.var 4)) (.cn (.var 1) .nl))
 (.chk (.u (.ext 0) (.var 15))
 (.chk (.u (.ext 1) (.var 15))
 (.set 5 (.u (.ext 0) (.var 15))
 (.set 6 (.u (.ext 1) (.var 15))
 (.seq
  (.ite (.ite (.b (.bin .neq) (.var 6) (.lit (.int .i64 0))) (.lit (.bool true)) (.b (.bin .gtr) (.u .len (.u .ld1 (.u (.fld 1) (.var 4)))) (.lit (.int .i64 500))))
   (.call false (some 16) 13 .nl
   (.set 3 (.var 16)
   .ret))
   .nxt)
 (.seq
  (.both
   (.both
    (.set 24 (.u .ld1 (.u (.fld 0) (.var 4)))
    (.chk (.u .ld1 (.u (.fld 1) (.var 4)))
    (.set 23 (.u (.lda 2) (.var 7))
    (.eff false (some 17) (.lit 44 2 0 [(.int .i64 0), (.int .i64 0)] .nl)
    (.eff false (some 22) (.lit 44 2 1 [(.int .i64 0), (.int .i64 0)] (.pl 0 2 (.var 23) .nl))
    (.eff false (some 8) (.alloc 24 [(.int .i64 0), (.slice none 0 0)])
    (.eff true (some 21) (.app 44 2 16 [(.int .i64 0), (.int .i64 0)] (.var 17) (.u .ld1 (.u (.fld 1) (.var 4))))
    (.eff true (some 25) (.app 44 2 16 [(.int .i64 0), (.int .i64 0)] (.var 21) (.var 22))
    (.chk (.bld [(.int .i64 0), (.slice none 0 0)] (.pl 0 1 (.var 24) (.pl 1 1 (.var 25) .nl)))
    (.eff false none (.st 2 (.var 8) (.bld [(.int .i64 0), (.slice none 0 0)] (.pl 0 1 (.var 24) (.pl 1 1 (.var 25) .nl))))
    .nxt))))))))))
    (.both
     (.set 24 (.u .ld1 (.u (.fld 0) (.var 4)))
     (.chk (.u .ld1 (.u (.fld 1) (.var 4)))
     (.set 23 (.u (.lda 2) (.var 7))
     (.eff false (some 17) (.lit 44 2 0 [(.int .i64 0), (.int .i64 0)] .nl)
     (.eff false (some 22) (.lit 44 2 1 [(.int .i64 0), (.int .i64 0)] (.pl 0 2 (.var 23) .nl))
     (.eff true (some 21) (.app 44 2 16 [(.int .i64 0), (.int .i64 0)] (.var 17) (.u .ld1 (.u (.fld 1) (.var 4))))
     (.eff false (some 8) (.alloc 24 [(.int .i64 0), (.slice none 0 0)])
     (.eff true (some 25) (.app 44 2 16 [(.int .i64 0), (.int .i64 0)] (.var 21) (.var 22))
     (.chk (.bld [(.int .i64 0), (.slice none 0 0)] (.pl 0 1 (.var 24) (.pl 1 1 (.var 25) .nl)))
     (.eff false none (.st 2 (.var 8) (.bld [(.int .i64 0), (.slice none 0 0)] (.pl 0 1 (.var 24) (.pl 1 1 (.var 25) .nl))))
     .nxt))))))))))
     (.set 24 (.u .ld1 (.u (.fld 0) (.var 4)))
     (.chk (.u .ld1 (.u (.fld 1) (.var 4)))
     (.set 23 (.u (.lda 2) (.var 7))
     (.eff false (some 17) (.lit 44 2 0 [(.int .i64 0), (.int .i64 0)] .nl)
     (.eff false (some 22) (.lit 44 2 1 [(.int .i64 0), (.int .i64 0)] (.pl 0 2 (.var 23) .nl))
     (.eff true (some 21) (.app 44 2 16 [(.int .i64 0), (.int .i64 0)] (.var 17) (.u .ld1 (.u (.fld 1) (.var 4))))
     (.eff true (some 25) (.app 44 2 16 [(.int .i64 0), (.int .i64 0)] (.var 21) (.var 22))
     (.chk (.bld [(.int .i64 0), (.slice none 0 0)] (.pl 0 1 (.var 24) (.pl 1 1 (.var 25) .nl)))
     (.eff false (some 8) (.alloc 24 [(.int .i64 0), (.slice none 0 0)])
     (.eff false none (.st 2 (.var 8) (.bld [(.int .i64 0), (.slice none 0 0)] (.pl 0 1 (.var 24) (.pl 1 1 (.var 25) .nl))))
     .nxt))))))))))))
   (.both
    (.set 24 (.u .ld1 (.u (.fld 0) (.var 4)))
    (.chk (.u .ld1 (.u (.fld 1) (.var 4)))
    (.set 23 (.u (.lda 2) (.var 7))
    (.eff false (some 17) (.lit 44 2 0 [(.int .i64 0), (.int .i64 0)] .nl)
    (.eff false (some 8) (.alloc 24 [(.int .i64 0), (.slice none 0 0)])
    (.eff true (some 21) (.app 44 2 16 [(.int .i64 0), (.int .i64 0)] (.var 17) (.u .ld1 (.u (.fld 1) (.var 4))))
    (.eff false (some 22) (.lit 44 2 1 [(.int .i64 0), (.int .i64 0)] (.pl 0 2 (.var 23) .nl))
    (.eff true (some 25) (.app 44 2 16 [(.int .i64 0), (.int .i64 0)] (.var 21) (.var 22))
    (.chk (.bld [(.int .i64 0), (.slice none 0 0)] (.pl 0 1 (.var 24) (.pl 1 1 (.var 25) .nl)))
    (.eff false none (.st 2 (.var 8) (.bld [(.int .i64 0), (.slice none 0 0)] (.pl 0 1 (.var 24) (.pl 1 1 (.var 25) .nl))))
    .nxt))))))))))
    (.both
     (.set 24 (.u .ld1 (.u (.fld 0) (.var 4)))
     (.chk (.u .ld1 (.u (.fld 1) (.var 4)))
     (.set 23 (.u (.lda 2) (.var 7))
     (.eff false (some 17) (.lit 44 2 0 [(.int .i64 0), (.int .i64 0)] .nl)
     (.eff true (some 21) (.app 44 2 16 [(.int .i64 0), (.int .i64 0)] (.var 17) (.u .ld1 (.u (.fld 1) (.var 4))))
     (.eff false (some 22) (.lit 44 2 1 [(.int .i64 0), (.int .i64 0)] (.pl 0 2 (.var 23) .nl))
     (.eff false (some 8) (.alloc 24 [(.int .i64 0), (.slice none 0 0)])
     (.eff true (some 25) (.app 44 2 16 [(.int .i64 0), (.int .i64 0)] (.var 21) (.var 22))
     (.chk (.bld [(.int .i64 0), (.slice none 0 0)] (.pl 0 1 (.var 24) (.pl 1 1 (.var 25) .nl)))
     (.eff false none (.st 2 (.var 8) (.bld [(.int .i64 0), (.slice none 0 0)] (.pl 0 1 (.var 24) (.pl 1 1 (.var 25) .nl))))
     .nxt))))))))))
     (.set 24 (.u .ld1 (.u (.fld 0) (.var 4)))
     (.chk (.u .ld1 (.u (.fld 1) (.var 4)))
     (.set 23 (.u (.lda 2) (.var 7))
     (.eff false (some 17) (.lit 44 2 0 [(.int .i64 0), (.int .i64 0)] .nl)
     (.eff true (some 21) (.app 44 2 16 [(.int .i64 0), (.int .i64 0)] (.var 17) (.u .ld1 (.u (.fld 1) (.var 4))))
     (.eff false (some 22) (.lit 44 2 1 [(.int .i64 0), (.int .i64 0)] (.pl 0 2 (.var 23) .nl))
     (.eff true (some 25) (.app 44 2 16 [(.int .i64 0), (.int .i64 0)] (.var 21) (.var 22))
     (.chk (.bld [(.int .i64 0), (.slice none 0 0)] (.pl 0 1 (.var 24) (.pl 1 1 (.var 25) .nl)))
     (.eff false (some 8) (.alloc 24 [(.int .i64 0), (.slice none 0 0)])
     (.eff false none (.st 2 (.var 8) (.bld [(.int .i64 0), (.slice none 0 0)] (.pl 0 1 (.var 24) (.pl 1 1 (.var 25) .nl))))
     .nxt)))))))))))))
 (.call false (some 18) 21 (.cn (.u (.lda 2) (.var 8)) (.cn (.var 1) .nl))
 (.chk (.u (.ext 0) (.var 18))
 (.chk (.u (.ext 1) (.var 18))
 (.set 9 (.u (.ext 0) (.var 18))
 (.set 10 (.u (.ext 1) (.var 18))
 (.seq
  (.ite (.ite (.ite (.ite (.b (.bin .lss) (.u .ld1 (.u (.fld 0) (.var 7))) (.lit (.int .i64 0))) (.lit (.bool true)) (.b (.bin .geq) (.u .ld1 (.u (.fld 0) (.var 7))) (.u .ld1 (.u (.fld 0) (.var 4))))) (.lit (.bool true)) (.b (.bin .lss) (.u .ld1 (.u (.fld 1) (.var 7))) (.lit (.int .i64 0)))) (.lit (.bool true)) (.b (.bin .geq) (.u .ld1 (.u (.fld 1) (.var 7))) (.u .ld1 (.u (.fld 0) (.var 4)))))
   (.seq
    (.ite (.b (.bin .eql) (.var 10) (.lit (.int .i64 7)))
     (.call false (some 19) 13 .nl
     (.set 3 (.var 19)
     .nxt))
     (.set 19 (.lit undef)
     (.set 3 (.lit (.bool false))
     .nxt)))
   .ret)
   .nxt)
 (.seq
  (.ite (.ite (.ite (.ite (.b (.bin .neq) (.var 10) (.lit (.int .i64 0))) (.lit (.bool true)) (.b (.bin .neq) (.u .len (.var 5)) (.u .ld1 (.u (.fld 0) (.var 4))))) (.lit (.bool true)) (.b (.bin .neq) (.u .len (.var 9)) (.u .ld1 (.u (.fld 0) (.var 4))))) (.lit (.bool true)) (.ite (.u .ld1 (.b (.idx 1) (.var 9) (.u .ld1 (.u (.fld 0) (.var 7))))) (.u (.un .not) (.u .ld1 (.b (.idx 1) (.var 9) (.u .ld1 (.u (.fld 1) (.var 7)))))) (.lit (.bool false))))
   (.set 3 (.lit (.bool false))
   .ret)
   .nxt)
 (.set 12 (.u .len (.var 5))
 (.set 11 (.lit (.int .i64 0))
 (.seq
  (.blk 0
   (.loop
    (.set 13 (.b (.bin .lss) (.var 11) (.var 12))
    (.seq
     (.ite (.var 13)
      .nxt
      (.exit 0))
    (.seq
     (.blk 1
      (.set 14 (.var 11)
      (.ite (.ite (.u .ld1 (.b (.idx 1) (.var 5) (.var 14))) (.u (.un .not) (.u .ld1 (.b (.idx 1) (.var 9) (.var 14)))) (.lit (.bool false)))
       (.set 3 (.lit (.bool false))
       .ret)
       .nxt)))
    (.set 11 (.b (.bin .add) (.var 11) (.lit (.int .i64 1)))
    .nxt))))))
 (.call false (some 20) 13 .nl
 (.set 3 (.var 20)
 .ret))))))))))))))))))))))
def f_law09_GraphMore : Fun := ⟨s_law09_GraphMore, [(.var 3)]⟩
abbrev v_law09_GraphMore : List Nat := [0, 1, 2, 6, 3, 7, 8, 5, 9, 10, 11, 104, 103, 105, 12, 16, 27, 30, 41, 69, 119, 33, 35, 34, 29, 36]
theorem c_law09_GraphMore : compF P Go.Proofs.Try.f11 v_law09_GraphMore = some f_law09_GraphMore := by kernel_rfl
theorem of_law09_GraphMore {args : List Value} (hn : args.length ≤ 120) {h : Heap} {R : Value → Heap → Prop} (hs : s_law09_GraphMore.wp P (f_law09_GraphMore.post R) (env0 v_law09_GraphMore args) h) : Runs P n_law09_GraphMore args h R := fn_of P_mixed Go.Proofs.Try.func11 c_law09_GraphMore (by rw [Go.Proofs.Try.ntmps11]; exact hn) hs
theorem vr_law09_GraphMore {kp : Bool} {args : List A} {H : List Blk} {R : A → List Blk → Prop} (hlen : args.length ≤ 120) (hk : kp = false ∨ H = []) (hw : (∀ B ∈ H, A.bdL H.length B.cells = true) → A.bdL H.length args = true → s_law09_GraphMore.aw P H.length (postA H.length f_law09_GraphMore R) (envA v_law09_GraphMore args) H) : VR P kp n_law09_GraphMore args H R := VR.of (F := f_law09_GraphMore) (V := v_law09_GraphMore) of_law09_GraphMore hlen hk fun h1 h2 => aw_sound (hw h1 h2)
theorem r_law09_GraphMore : Fun.res f_law09_GraphMore = [(.var 3)] := rfl
abbrev g_law09_GraphMore_0 : List Nat := [3, 11, 13, 14]

/-- recycling/recyclinglaw09.large -/
abbrev n_law09_large : Nat := 12
def s_law09_large : S :=
 (.eff false (some 2) (.box 24 (.var 0))
 (.set 1 (.lit (.bool false))
 (.set 1 (.b (.bin .gtr) (.u .len (.u .ld1 (.u (.fld 1) (.var 2)))) (.lit (.int .i64 600)))
 .ret)))
def f_law09_large : Fun := ⟨s_law09_large, [(.var 1)]⟩
abbrev v_law09_large : List Nat := [0, 2, 1]
theorem c_law09_large : compF P Go.Proofs.Try.f12 v_law09_large = some f_law09_large := by kernel_rfl
theorem of_law09_large {args : List Value} (hn : args.length ≤ 7) {h : Heap} {R : Value → Heap → Prop} (hs : s_law09_large.wp P (f_law09_large.post R) (env0 v_law09_large args) h) : Runs P n_law09_large args h R := fn_of P_mixed Go.Proofs.Try.func12 c_law09_large (by rw [Go.Proofs.Try.ntmps12]; exact hn) hs
theorem vr_law09_large {kp : Bool} {args : List A} {H : List Blk} {R : A → List Blk → Prop} (hlen : args.length ≤ 7) (hk : kp = false ∨ H = []) (hw : (∀ B ∈ H, A.bdL H.length B.cells = true) → A.bdL H.length args = true → s_law09_large.aw P H.length (postA H.length f_law09_large R) (envA v_law09_large args) H) : VR P kp n_law09_large args H R := VR.of (F := f_law09_large) (V := v_law09_large) of_law09_large hlen hk fun h1 h2 => aw_sound (hw h1 h2)
theorem r_law09_large : Fun.res f_law09_large = [(.var 1)] := rfl

/-- recycling/recyclinglaw09.awake -/
abbrev n_law09_awake : Nat := 13
def s_law09_awake : S :=
 (.set 0 (.lit (.bool false))
 (.chk (.bld [(.int .i64 0), (.int .i64 0)] (.pl 0 1 (.lit (.int .i64 2)) (.pl 1 1 (.lit (.int .i64 0)) .nl)))
 (.chk (.bld [(.int .i64 0), (.int .i64 0)] (.pl 0 1 (.lit (.int .i64 0)) (.pl 1 1 (.lit (.int .i64 1)) .nl)))
 (.eff false (some 9) (.lit 44 2 2 [(.int .i64 0), (.int .i64 0)] (.pl 0 2 (.bld [(.int .i64 0), (.int .i64 0)] (.pl 0 1 (.lit (.int .i64 2)) (.pl 1 1 (.lit (.int .i64 0)) .nl))) (.pl 2 2 (.bld [(.int .i64 0), (.int .i64 0)] (.pl 0 1 (.lit (.int .i64 0)) (.pl 1 1 (.lit (.int .i64 1)) .nl))) .nl)))
 (.chk (.bld [(.int .i64 0), (.slice none 0 0)] (.pl 0 1 (.lit (.int .i64 3)) (.pl 1 1 (.var 9) .nl)))
 (.call false (some 14) 16 (.cn (.bld [(.int .i64 0), (.slice none 0 0)] (.pl 0 1 (.lit (.int .i64 3)) (.pl 1 1 (.var 9) .nl))) .nl)
 (.chk (.u (.ext 0) (.var 14))
 (.chk (.u (.ext 1) (.var 14))
 (.set 1 (.u (.ext 0) (.var 14))
 (.set 2 (.u (.ext 1) (.var 14))
 (.chk (.bld [(.int .i64 0), (.int .i64 0)] (.pl 0 1 (.lit (.int .i64 0)) (.pl 1 1 (.lit (.int .i64 1)) .nl)))
 (.chk (.bld [(.int .i64 0), (.int .i64 0)] (.pl 0 1 (.lit (.int .i64 1)) (.pl 1 1 (.lit (.int .i64 2)) .nl)))
 (.chk (.bld [(.int .i64 0), (.int .i64 0)] (.pl 0 1 (.lit (.int .i64 2)) (.pl 1 1 (.lit (.int .i64 0)) .nl)))
 (.chk (.bld [(.int .i64 0), (.int .i64 0)] (.pl 0 1 (.lit (.int .i64 2)) (.pl 1 1 (.lit (.int .i64 1)) .nl)))
 (.eff false (some 10) (.lit 44 2 4 [(.int .i64 0), (.int .i64 0)] (.pl 0 2 (.bld [(.int .i64 0), (.int .i64 0)] (.pl 0 1 (.lit (.int .i64 0)) (.pl 1 1 (.lit (.int .i64 1)) .nl))) (.pl 2 2 (.bld [(.int .i64 0), (.int .i64 0)] (.pl 0 1 (.lit (.int .i64 1)) (.pl 1 1 (.lit (.int .i64 2)) .nl))) (.pl 4 2 (.bld [(.int .i64 0), (.int .i64 0)] (.pl 0 1 (.lit (.int .i64 2)) (.pl 1 1 (.lit (.int .i64 0)) .nl))) (.pl 6 2 (.bld [(.int .i64 0), (.int .i64 0)] (.pl 0 1 (.lit (.int .i64 2)) (.pl 1 1 (.lit (.int .i64 1)) .nl))) .nl)))))
 (.chk (.bld [(.int .i64 0), (.slice none 0 0)] (.pl 0 1 (.lit (.int .i64 3)) (.pl 1 1 (.var 10) .nl)))
 (.call false (some 15) 19 (.cn (.bld [(.int .i64 0), (.slice none 0 0)] (.pl 0 1 (.lit (.int .i64 3)) (.pl 1 1 (.var 10) .nl))) .nl)
 (.chk (.u (.ext 0) (.var 15))
 (.chk (.u (.ext 1) (.var 15))
 (.set 3 (.u (.ext 0) (.var 15))
 (.set 4 (.u (.ext 1) (.var 15))
 (.chk (.bld [(.int .i64 0), (.int .i64 0)] (.pl 0 1 (.lit (.int .i64 0)) (.pl 1 1 (.lit (.int .i64 1)) .nl)))
 (.chk (.bld [(.int .i64 0), (.int .i64 0)] (.pl 0 1 (.lit (.int .i64 1)) (.pl 1 1 (.lit (.int .i64 0)) .nl)))
 (.chk (.bld [(.int .i64 0), (.int .i64 0)] (.pl 0 1 (.lit (.int .i64 1)) (.pl 1 1 (.lit (.int .i64 3)) .nl)))
 (.eff false (some 11) (.lit 44 2 3 [(.int .i64 0), (.int .i64 0)] (.pl 0 2 (.bld [(.int .i64 0), (.int .i64 0)] (.pl 0 1 (.lit (.int .i64 0)) (.pl 1 1 (.lit (.int .i64 1)) .nl))) (.pl 2 2 (.bld [(.int .i64 0), (.int .i64 0)] (.pl 0 1 (.lit (.int .i64 1)) (.pl 1 1 (.lit (.int .i64 0)) .nl))) (.pl 4 2 (.bld [(.int .i64 0), (.int .i64 0)] (.pl 0 1 (.lit (.int .i64 1)) (.pl 1 1 (.lit (.int .i64 3)) .nl))) .nl))))
 (.chk (.bld [(.int .i64 0), (.slice none 0 0)] (.pl 0 1 (.lit (.int .i64 4)) (.pl 1 1 (.var 11) .nl)))
 (.call false (some 16) 26 (.cn (.bld [(.int .i64 0), (.slice none 0 0)] (.pl 0 1 (.lit (.int .i64 4)) (.pl 1 1 (.var 11) .nl))) .nl)
 (.chk (.u (.ext 0) (.var 16))
 (.chk (.u (.ext 1) (.var 16))
 (.set 5 (.u (.ext 0) (.var 16))
 (.set 6 (.u (.ext 1) (.var 16))
 (.chk (.bld [(.int .i64 0), (.int .i64 0)] .nl)
 (.eff false (some 12) (.lit 44 2 1 [(.int .i64 0), (.int .i64 0)] (.pl 0 2 (.bld [(.int .i64 0), (.int .i64 0)] .nl) .nl))
 (.chk (.bld [(.int .i64 0), (.slice none 0 0)] (.pl 0 1 (.lit (.int .i64 1)) (.pl 1 1 (.var 12) .nl)))
 (.call false (some 17) 16 (.cn (.bld [(.int .i64 0), (.slice none 0 0)] (.pl 0 1 (.lit (.int .i64 1)) (.pl 1 1 (.var 12) .nl))) .nl)
 (.chk (.u (.ext 0) (.var 17))
 (.chk (.u (.ext 1) (.var 17))
 (.set 7 (.u (.ext 0) (.var 17))
 (.set 8 (.u (.ext 1) (.var 17))
 (.eff false (some 13) (.lit 3 1 3 [(.int .i64 0)] (.pl 0 1 (.lit (.int .i64 2)) (.pl 1 1 (.lit (.int .i64 0)) (.pl 2 1 (.lit (.int .i64 1)) .nl))))
 (.call false (some 18) 18 (.cn (.var 1) (.cn (.var 13) .nl))
 (.chk (.ite (.ite (.var 18) (.b (.bin .eql) (.var 2) (.lit (.int .i64 0))) (.lit (.bool false))) (.var 3) (.lit undef))
 (.seq
  (.ite (.ite (.var 18) (.b (.bin .eql) (.var 2) (.lit (.int .i64 0))) (.lit (.bool false)))
   (.eff false (some 19) (.lit 3 1 2 [(.int .i64 0)] (.pl 0 1 (.lit (.int .i64 1)) (.pl 1 1 (.lit (.int .i64 2)) .nl)))
   (.call false (some 20) 18 (.cn (.var 3) (.cn (.var 19) .nl))
   (.chk (.ite (.ite (.var 20) (.b (.bin .eql) (.var 4) (.lit (.int .i64 0))) (.lit (.bool false))) (.var 5) (.lit undef))
   (.ite (.ite (.var 20) (.b (.bin .eql) (.var 4) (.lit (.int .i64 0))) (.lit (.bool false)))
    (.eff false (some 21) (.lit 3 1 2 [(.int .i64 0)] (.pl 0 1 (.lit (.int .i64 0)) (.pl 1 1 (.lit (.int .i64 1)) .nl)))
    (.eff false (some 22) (.lit 3 1 1 [(.int .i64 0)] (.pl 0 1 (.lit (.int .i64 2)) .nl))
    (.eff false (some 23) (.lit 3 1 1 [(.int .i64 0)] (.pl 0 1 (.lit (.int .i64 3)) .nl))
    (.eff false (some 24) (.lit 29 1 3 [(.slice none 0 0)] (.pl 0 1 (.var 21) (.pl 1 1 (.var 22) (.pl 2 1 (.var 23) .nl))))
    (.call false (some 25) 28 (.cn (.var 5) (.cn (.var 24) .nl))
    (.set 0 (.ite (.ite (.var 25) (.b (.bin .eql) (.var 6) (.lit (.int .i64 0))) (.lit (.bool false))) (.b (.bin .eql) (.var 8) (.lit (.int .i64 11))) (.lit (.bool false)))
    .nxt))))))
    (.set 21 (.lit undef)
    (.set 22 (.lit undef)
    (.set 23 (.lit undef)
    (.set 24 (.lit undef)
    (.set 25 (.lit undef)
    (.set 0 (.lit (.bool false))
    .nxt))))))))))
   (.set 19 (.lit undef)
   (.set 20 (.lit undef)
   (.set 21 (.lit undef)
   (.set 22 (.lit undef)
   (.set 23 (.lit undef)
   (.set 24 (.lit undef)
   (.set 25 (.lit undef)
   (.set 0 (.lit (.bool false))
   .nxt)))))))))
 .ret)))))))))))))))))))))))))))))))))))))))))))
def f_law09_awake : Fun := ⟨s_law09_awake, [(.var 0)]⟩
abbrev v_law09_awake : List Nat := [0, 1, 2, 3, 4, 5, 6, 7, 8, 12, 22, 31, 38, 44, 14, 24, 33, 40, 45, 52, 53, 61, 62, 63, 64, 65]
theorem c_law09_awake : compF P Go.Proofs.Try.f13 v_law09_awake = some f_law09_awake := by kernel_rfl
theorem of_law09_awake {args : List Value} (hn : args.length ≤ 75) {h : Heap} {R : Value → Heap → Prop} (hs : s_law09_awake.wp P (f_law09_awake.post R) (env0 v_law09_awake args) h) : Runs P n_law09_awake args h R := fn_of P_mixed Go.Proofs.Try.func13 c_law09_awake (by rw [Go.Proofs.Try.ntmps13]; exact hn) hs
theorem vr_law09_awake {kp : Bool} {args : List A} {H : List Blk} {R : A → List Blk → Prop} (hlen : args.length ≤ 75) (hk : kp = false ∨ H = []) (hw : (∀ B ∈ H, A.bdL H.length B.cells = true) → A.bdL H.length args = true → s_law09_awake.aw P H.length (postA H.length f_law09_awake R) (envA v_law09_awake args) H) : VR P kp n_law09_awake args H R := VR.of (F := f_law09_awake) (V := v_law09_awake) of_law09_awake hlen hk fun h1 h2 => aw_sound (hw h1 h2)
theorem r_law09_awake : Fun.res f_law09_awake = [(.var 0)] := rfl

/-- recycling/graph.Check -/
abbrev n_graph_Check : Nat := 14
def s_graph_Check : S :=
 (.eff false (some 2) (.box 24 (.var 0))
 (.set 1 (.lit (.int .i64 0))
 (.seq
  (.ite (.ite (.b (.bin .lss) (.u .ld1 (.u (.fld 0) (.var 2))) (.lit (.int .i64 0))) (.lit (.bool true)) (.b (.bin .gtr) (.u .ld1 (.u (.fld 0) (.var 2))) (.lit (.int .i64 64))))
   (.set 1 (.lit (.int .i64 1))
   .ret)
   .nxt)
 (.seq
  (.ite (.b (.bin .gtr) (.u .len (.u .ld1 (.u (.fld 1) (.var 2)))) (.lit (.int .i64 512)))
   (.set 1 (.lit (.int .i64 8))
   .ret)
   .nxt)
 (.set 6 (.u .ld1 (.u (.fld 1) (.var 2)))
 (.set 4 (.u .len (.var 6))
 (.set 3 (.lit (.int .i64 0))
 (.seq
  (.blk 0
   (.loop
    (.set 5 (.b (.bin .lss) (.var 3) (.var 4))
    (.seq
     (.ite (.var 5)
      .nxt
      (.exit 0))
    (.seq
     (.blk 1
      (.chk (.u (.lda 2) (.b (.idx 2) (.var 6) (.var 3)))
      (.eff false (some 7) (.alloc 44 [(.int .i64 0), (.int .i64 0)])
      (.eff false none (.st 2 (.var 7) (.u (.lda 2) (.b (.idx 2) (.var 6) (.var 3))))
      (.ite (.ite (.ite (.ite (.b (.bin .lss) (.u .ld1 (.u (.fld 0) (.var 7))) (.lit (.int .i64 0))) (.lit (.bool true)) (.b (.bin .geq) (.u .ld1 (.u (.fld 0) (.var 7))) (.u .ld1 (.u (.fld 0) (.var 2))))) (.lit (.bool true)) (.b (.bin .lss) (.u .ld1 (.u (.fld 1) (.var 7))) (.lit (.int .i64 0)))) (.lit (.bool true)) (.b (.bin .geq) (.u .ld1 (.u (.fld 1) (.var 7))) (.u .ld1 (.u (.fld 0) (.var 2)))))
       (.set 1 (.lit (.int .i64 7))
       .ret)
       .nxt)))))
    (.set 3 (.b (.bin .add) (.var 3) (.lit (.int .i64 1)))
    .nxt))))))
 (.set 1 (.lit (.int .i64 0))
 .ret)))))))))
def f_graph_Check : Fun := ⟨s_graph_Check, [(.var 1)]⟩
abbrev v_graph_Check : List Nat := [0, 2, 1, 20, 19, 21, 18, 4]
theorem c_graph_Check : compF P Go.Proofs.Try.f14 v_graph_Check = some f_graph_Check := by kernel_rfl
theorem of_graph_Check {args : List Value} (hn : args.length ≤ 47) {h : Heap} {R : Value → Heap → Prop} (hs : s_graph_Check.wp P (f_graph_Check.post R) (env0 v_graph_Check args) h) : Runs P n_graph_Check args h R := fn_of P_mixed Go.Proofs.Try.func14 c_graph_Check (by rw [Go.Proofs.Try.ntmps14]; exact hn) hs
theorem vr_graph_Check {kp : Bool} {args : List A} {H : List Blk} {R : A → List Blk → Prop} (hlen : args.length ≤ 47) (hk : kp = false ∨ H = []) (hw : (∀ B ∈ H, A.bdL H.length B.cells = true) → A.bdL H.length args = true → s_graph_Check.aw P H.length (postA H.length f_graph_Check R) (envA v_graph_Check args) H) : VR P kp n_graph_Check args H R := VR.of (F := f_graph_Check) (V := v_graph_Check) of_graph_Check hlen hk fun h1 h2 => aw_sound (hw h1 h2)
theorem r_graph_Check : Fun.res f_graph_Check = [(.var 1)] := rfl
abbrev g_graph_Check_0 : List Nat := [1, 3, 5, 7]

/-- recycling/recyclingref09.Check -/
abbrev n_ref09_Check : Nat := 15
def s_ref09_Check : S :=
 (.eff false (some 2) (.box 24 (.var 0))
 (.set 1 (.lit (.int .i64 0))
 (.seq
  (.ite (.ite (.b (.bin .lss) (.u .ld1 (.u (.fld 0) (.var 2))) (.lit (.int .i64 0))) (.lit (.bool true)) (.b (.bin .gtr) (.u .ld1 (.u (.fld 0) (.var 2))) (.lit (.int .i64 64))))
   (.set 1 (.lit (.int .i64 1))
   .ret)
   .nxt)
 (.seq
  (.ite (.b (.bin .gtr) (.u .len (.u .ld1 (.u (.fld 1) (.var 2)))) (.lit (.int .i64 512)))
   (.set 1 (.lit (.int .i64 8))
   .ret)
   .nxt)
 (.set 6 (.u .ld1 (.u (.fld 1) (.var 2)))
 (.set 4 (.u .len (.var 6))
 (.set 3 (.lit (.int .i64 0))
 (.seq
  (.blk 0
   (.loop
    (.set 5 (.b (.bin .lss) (.var 3) (.var 4))
    (.seq
     (.ite (.var 5)
      .nxt
      (.exit 0))
    (.seq
     (.blk 1
      (.chk (.u (.lda 2) (.b (.idx 2) (.var 6) (.var 3)))
      (.eff false (some 7) (.alloc 44 [(.int .i64 0), (.int .i64 0)])
      (.eff false none (.st 2 (.var 7) (.u (.lda 2) (.b (.idx 2) (.var 6) (.var 3))))
      (.ite (.ite (.ite (.ite (.b (.bin .lss) (.u .ld1 (.u (.fld 0) (.var 7))) (.lit (.int .i64 0))) (.lit (.bool true)) (.b (.bin .geq) (.u .ld1 (.u (.fld 0) (.var 7))) (.u .ld1 (.u (.fld 0) (.var 2))))) (.lit (.bool true)) (.b (.bin .lss) (.u .ld1 (.u (.fld 1) (.var 7))) (.lit (.int .i64 0)))) (.lit (.bool true)) (.b (.bin .geq) (.u .ld1 (.u (.fld 1) (.var 7))) (.u .ld1 (.u (.fld 0) (.var 2)))))
       (.set 1 (.lit (.int .i64 7))
       .ret)
       .nxt)))))
    (.set 3 (.b (.bin .add) (.var 3) (.lit (.int .i64 1)))
    .nxt))))))
 (.set 1 (.lit (.int .i64 0))
 .ret)))))))))
def f_ref09_Check : Fun := ⟨s_ref09_Check, [(.var 1)]⟩
abbrev v_ref09_Check : List Nat := [0, 2, 1, 20, 19, 21, 18, 4]
theorem c_ref09_Check : compF P Go.Proofs.Try.f15 v_ref09_Check = some f_ref09_Check := by kernel_rfl
theorem of_ref09_Check {args : List Value} (hn : args.length ≤ 47) {h : Heap} {R : Value → Heap → Prop} (hs : s_ref09_Check.wp P (f_ref09_Check.post R) (env0 v_ref09_Check args) h) : Runs P n_ref09_Check args h R := fn_of P_mixed Go.Proofs.Try.func15 c_ref09_Check (by rw [Go.Proofs.Try.ntmps15]; exact hn) hs
theorem vr_ref09_Check {kp : Bool} {args : List A} {H : List Blk} {R : A → List Blk → Prop} (hlen : args.length ≤ 47) (hk : kp = false ∨ H = []) (hw : (∀ B ∈ H, A.bdL H.length B.cells = true) → A.bdL H.length args = true → s_ref09_Check.aw P H.length (postA H.length f_ref09_Check R) (envA v_ref09_Check args) H) : VR P kp n_ref09_Check args H R := VR.of (F := f_ref09_Check) (V := v_ref09_Check) of_ref09_Check hlen hk fun h1 h2 => aw_sound (hw h1 h2)
theorem r_ref09_Check : Fun.res f_ref09_Check = [(.var 1)] := rfl
abbrev g_ref09_Check_0 : List Nat := [1, 3, 5, 7]

/-- recycling/graph.Order -/
abbrev n_graph_Order : Nat := 16
def s_graph_Order : S :=
 (.eff false (some 3) (.box 24 (.var 0))
 (.set 1 (.lit (.slice none 0 0))
 (.set 2 (.lit (.int .i64 0))
 (.call false (some 24) 14 (.cn (.u (.lda 2) (.var 3)) .nl)
 (.set 4 (.var 24)
 (.seq
  (.ite (.b (.bin .neq) (.var 4) (.lit (.int .i64 0)))
   (.set 1 (.lit (.slice none 0 0))
   (.set 2 (.var 4)
   .ret))
   .nxt)
 (.eff false (some 10) (.alloc 48 (List.replicate 64 (.int .i64 0)))
 (.set 8 (.u .ld1 (.u (.fld 1) (.var 3)))
 (.set 6 (.u .len (.var 8))
 (.set 5 (.lit (.int .i64 0))
 (.seq
  (.blk 0
   (.loop
    (.set 7 (.b (.bin .lss) (.var 5) (.var 6))
    (.seq
     (.ite (.var 7)
      .nxt
      (.exit 0))
    (.seq
     (.blk 1
      (.chk (.u (.lda 2) (.b (.idx 2) (.var 8) (.var 5)))
      (.eff false (some 9) (.alloc 44 [(.int .i64 0), (.int .i64 0)])
      (.eff false none (.st 2 (.var 9) (.u (.lda 2) (.b (.idx 2) (.var 8) (.var 5))))
      (.eff false none (.st 1 (.b (.idxa 64 1) (.var 10) (.u .ld1 (.u (.fld 1) (.var 9)))) (.b (.bin .add) (.u .ld1 (.b (.idxa 64 1) (.var 10) (.u .ld1 (.u (.fld 1) (.var 9))))) (.lit (.int .i64 1))))
      .nxt)))))
    (.set 5 (.b (.bin .add) (.var 5) (.lit (.int .i64 1)))
    .nxt))))))
 (.call false (some 25) 31 (.cn (.lit (.func (.func 32) #[] #[])) .nl)
 (.set 11 (.var 25)
 (.set 13 (.u .ld1 (.u (.fld 0) (.var 3)))
 (.set 12 (.lit (.int .i64 0))
 (.seq
  (.blk 2
   (.loop
    (.set 14 (.b (.bin .lss) (.var 12) (.var 13))
    (.seq
     (.ite (.var 14)
      .nxt
      (.exit 2))
    (.seq
     (.blk 3
      (.set 15 (.var 12)
      (.ite (.b (.bin .eql) (.u .ld1 (.b (.idxa 64 1) (.var 10) (.var 15))) (.lit (.int .i64 0)))
       (.call false none 33 (.cn (.var 11) (.cn (.var 15) .nl))
       .nxt)
       .nxt)))
    (.set 12 (.b (.bin .add) (.var 12) (.lit (.int .i64 1)))
    .nxt))))))
 (.set 16 (.lit (.slice none 0 0))
 (.seq
  (.blk 4
   (.loop
    (.blk 5
     (.call false (some 26) 34 (.cn (.var 11) .nl)
     (.chk (.u (.ext 0) (.var 26))
     (.chk (.u (.ext 1) (.var 26))
     (.set 17 (.u (.ext 0) (.var 26))
     (.set 18 (.u (.ext 1) (.var 26))
     (.seq
      (.ite (.u (.un .not) (.var 18))
       (.exit 4)
       .nxt)
     (.eff false (some 27) (.lit 3 1 1 [(.int .i64 0)] (.pl 0 1 (.var 17) .nl))
     (.eff false (some 28) (.app 3 1 8 [(.int .i64 0)] (.var 16) (.var 27))
     (.set 16 (.var 28)
     (.set 22 (.u .ld1 (.u (.fld 1) (.var 3)))
     (.set 20 (.u .len (.var 22))
     (.set 19 (.lit (.int .i64 0))
     (.blk 6
      (.loop
       (.set 21 (.b (.bin .lss) (.var 19) (.var 20))
       (.seq
        (.ite (.var 21)
         .nxt
         (.exit 6))
       (.seq
        (.blk 7
         (.chk (.u (.lda 2) (.b (.idx 2) (.var 22) (.var 19)))
         (.eff false (some 23) (.alloc 44 [(.int .i64 0), (.int .i64 0)])
         (.eff false none (.st 2 (.var 23) (.u (.lda 2) (.b (.idx 2) (.var 22) (.var 19))))
         (.seq
          (.ite (.b (.bin .neq) (.u .ld1 (.u (.fld 0) (.var 23))) (.var 17))
           (.exit 7)
           .nxt)
         (.eff false none (.st 1 (.b (.idxa 64 1) (.var 10) (.u .ld1 (.u (.fld 1) (.var 23)))) (.b (.bin .sub) (.u .ld1 (.b (.idxa 64 1) (.var 10) (.u .ld1 (.u (.fld 1) (.var 23))))) (.lit (.int .i64 1))))
         (.ite (.b (.bin .eql) (.u .ld1 (.b (.idxa 64 1) (.var 10) (.u .ld1 (.u (.fld 1) (.var 23))))) (.lit (.int .i64 0)))
          (.call false none 33 (.cn (.var 11) (.cn (.u .ld1 (.u (.fld 1) (.var 23))) .nl))
          .nxt)
          .nxt)))))))
       (.set 19 (.b (.bin .add) (.var 19) (.lit (.int .i64 1)))
       .nxt)))))))))))))))))))))
 (.seq
  (.ite (.b (.bin .lss) (.u .len (.var 16)) (.u .ld1 (.u (.fld 0) (.var 3))))
   (.set 1 (.lit (.slice none 0 0))
   (.set 2 (.lit (.int .i64 11))
   .ret))
   .nxt)
 (.set 1 (.var 16)
 (.set 2 (.lit (.int .i64 0))
 .ret)))))))))))))))))))))
def f_graph_Order : Fun := ⟨s_graph_Order, [(.var 1), (.var 2)]⟩
abbrev v_graph_Order : List Nat := [0, 2, 3, 1, 4, 23, 22, 24, 21, 7, 5, 8, 37, 36, 38, 9, 10, 11, 12, 62, 61, 63, 60, 14, 16, 34, 50, 57, 58]
theorem c_graph_Order : compF P Go.Proofs.Try.f16 v_graph_Order = some f_graph_Order := by kernel_rfl
theorem of_graph_Order {args : List Value} (hn : args.length ≤ 92) {h : Heap} {R : Value → Heap → Prop} (hs : s_graph_Order.wp P (f_graph_Order.post R) (env0 v_graph_Order args) h) : Runs P n_graph_Order args h R := fn_of P_mixed Go.Proofs.Try.func16 c_graph_Order (by rw [Go.Proofs.Try.ntmps16]; exact hn) hs
theorem vr_graph_Order {kp : Bool} {args : List A} {H : List Blk} {R : A → List Blk → Prop} (hlen : args.length ≤ 92) (hk : kp = false ∨ H = []) (hw : (∀ B ∈ H, A.bdL H.length B.cells = true) → A.bdL H.length args = true → s_graph_Order.aw P H.length (postA H.length f_graph_Order R) (envA v_graph_Order args) H) : VR P kp n_graph_Order args H R := VR.of (F := f_graph_Order) (V := v_graph_Order) of_graph_Order hlen hk fun h1 h2 => aw_sound (hw h1 h2)
theorem r_graph_Order : Fun.res f_graph_Order = [(.var 1), (.var 2)] := rfl
abbrev g_graph_Order_0 : List Nat := [5, 7, 9]
abbrev g_graph_Order_1 : List Nat := [12, 14, 15]
abbrev g_graph_Order_2 : List Nat := [16, 17, 18, 19, 20, 21, 22, 23, 26, 27, 28]
abbrev g_graph_Order_3 : List Nat := [19, 21, 23]

/-- recycling/recyclingref09.Order -/
abbrev n_ref09_Order : Nat := 17
def s_ref09_Order : S :=
 (.eff false (some 3) (.box 24 (.var 0))
 (.set 1 (.lit (.slice none 0 0))
 (.set 2 (.lit (.int .i64 0))
 (.call false (some 9) 15 (.cn (.u (.lda 2) (.var 3)) .nl)
 (.set 4 (.var 9)
 (.seq
  (.ite (.b (.bin .neq) (.var 4) (.lit (.int .i64 0)))
   (.set 1 (.lit (.slice none 0 0))
   (.set 2 (.var 4)
   .ret))
   .nxt)
 (.eff false (some 10) (.mk 4 1 1 [(.bool false)] (.u .ld1 (.u (.fld 0) (.var 3))) (.u .ld1 (.u (.fld 0) (.var 3))))
 (.set 5 (.var 10)
 (.set 6 (.lit (.slice none 0 0))
 (.seq
  (.blk 0
   (.loop
    (.seq
     (.ite (.b (.bin .lss) (.u .len (.var 6)) (.u .ld1 (.u (.fld 0) (.var 3))))
      .nxt
      (.exit 0))
    (.blk 1
     (.set 7 (.lit (.int .i64 (-1)))
     (.set 8 (.b (.bin .sub) (.u .ld1 (.u (.fld 0) (.var 3))) (.lit (.int .i64 1)))
     (.seq
      (.blk 2
       (.loop
        (.seq
         (.ite (.b (.bin .geq) (.var 8) (.lit (.int .i64 0)))
          .nxt
          (.exit 2))
        (.seq
         (.blk 3
          (.call false (some 11) 35 (.cn (.u (.lda 2) (.var 3)) (.cn (.var 5) (.cn (.var 8) .nl)))
          (.ite (.var 11)
           (.set 7 (.var 8)
           .nxt)
           .nxt)))
        (.set 8 (.b (.bin .sub) (.var 8) (.lit (.int .i64 1)))
        .nxt)))))
     (.seq
      (.ite (.b (.bin .lss) (.var 7) (.lit (.int .i64 0)))
       (.set 1 (.lit (.slice none 0 0))
       (.set 2 (.lit (.int .i64 11))
       .ret))
       .nxt)
     (.eff false none (.st 1 (.b (.idx 1) (.var 5) (.var 7)) (.lit (.bool true)))
     (.eff false (some 12) (.lit 3 1 1 [(.int .i64 0)] (.pl 0 1 (.var 7) .nl))
     (.eff false (some 13) (.app 3 1 8 [(.int .i64 0)] (.var 6) (.var 12))
     (.set 6 (.var 13)
     .nxt))))))))))))
 (.set 1 (.var 6)
 (.set 2 (.lit (.int .i64 0))
 .ret))))))))))))
def f_ref09_Order : Fun := ⟨s_ref09_Order, [(.var 1), (.var 2)]⟩
abbrev v_ref09_Order : List Nat := [0, 2, 3, 1, 4, 5, 6, 7, 8, 10, 16, 32, 41, 42]
theorem c_ref09_Order : compF P Go.Proofs.Try.f17 v_ref09_Order = some f_ref09_Order := by kernel_rfl
theorem of_ref09_Order {args : List Value} (hn : args.length ≤ 44) {h : Heap} {R : Value → Heap → Prop} (hs : s_ref09_Order.wp P (f_ref09_Order.post R) (env0 v_ref09_Order args) h) : Runs P n_ref09_Order args h R := fn_of P_mixed Go.Proofs.Try.func17 c_ref09_Order (by rw [Go.Proofs.Try.ntmps17]; exact hn) hs
theorem vr_ref09_Order {kp : Bool} {args : List A} {H : List Blk} {R : A → List Blk → Prop} (hlen : args.length ≤ 44) (hk : kp = false ∨ H = []) (hw : (∀ B ∈ H, A.bdL H.length B.cells = true) → A.bdL H.length args = true → s_ref09_Order.aw P H.length (postA H.length f_ref09_Order R) (envA v_ref09_Order args) H) : VR P kp n_ref09_Order args H R := VR.of (F := f_ref09_Order) (V := v_ref09_Order) of_ref09_Order hlen hk fun h1 h2 => aw_sound (hw h1 h2)
theorem r_ref09_Order : Fun.res f_ref09_Order = [(.var 1), (.var 2)] := rfl
abbrev g_ref09_Order_0 : List Nat := [1, 2, 6, 7, 8, 11, 12, 13]
abbrev g_ref09_Order_1 : List Nat := [7, 8, 11]

/-- recycling/recyclingref09.Ints -/
abbrev n_ref09_Ints : Nat := 18
def s_ref09_Ints : S :=
 (.set 2 (.lit (.bool false))
 (.seq
  (.ite (.b (.bin .neq) (.u .len (.var 0)) (.u .len (.var 1)))
   (.set 2 (.lit (.bool false))
   .ret)
   .nxt)
 (.set 4 (.u .len (.var 0))
 (.set 3 (.lit (.int .i64 0))
 (.seq
  (.blk 0
   (.loop
    (.set 5 (.b (.bin .lss) (.var 3) (.var 4))
    (.seq
     (.ite (.var 5)
      .nxt
      (.exit 0))
    (.seq
     (.blk 1
      (.set 6 (.var 3)
      (.ite (.b (.bin .neq) (.u .ld1 (.b (.idx 1) (.var 0) (.var 6))) (.u .ld1 (.b (.idx 1) (.var 1) (.var 6))))
       (.set 2 (.lit (.bool false))
       .ret)
       .nxt)))
    (.set 3 (.b (.bin .add) (.var 3) (.lit (.int .i64 1)))
    .nxt))))))
 (.set 2 (.lit (.bool true))
 .ret))))))
def f_ref09_Ints : Fun := ⟨s_ref09_Ints, [(.var 2)]⟩
abbrev v_ref09_Ints : List Nat := [0, 1, 4, 13, 12, 14, 5]
theorem c_ref09_Ints : compF P Go.Proofs.Try.f18 v_ref09_Ints = some f_ref09_Ints := by kernel_rfl
theorem of_ref09_Ints {args : List Value} (hn : args.length ≤ 26) {h : Heap} {R : Value → Heap → Prop} (hs : s_ref09_Ints.wp P (f_ref09_Ints.post R) (env0 v_ref09_Ints args) h) : Runs P n_ref09_Ints args h R := fn_of P_mixed Go.Proofs.Try.func18 c_ref09_Ints (by rw [Go.Proofs.Try.ntmps18]; exact hn) hs
theorem vr_ref09_Ints {kp : Bool} {args : List A} {H : List Blk} {R : A → List Blk → Prop} (hlen : args.length ≤ 26) (hk : kp = false ∨ H = []) (hw : (∀ B ∈ H, A.bdL H.length B.cells = true) → A.bdL H.length args = true → s_ref09_Ints.aw P H.length (postA H.length f_ref09_Ints R) (envA v_ref09_Ints args) H) : VR P kp n_ref09_Ints args H R := VR.of (F := f_ref09_Ints) (V := v_ref09_Ints) of_ref09_Ints hlen hk fun h1 h2 => aw_sound (hw h1 h2)
theorem r_ref09_Ints : Fun.res f_ref09_Ints = [(.var 2)] := rfl
abbrev g_ref09_Ints_0 : List Nat := [2, 3, 5, 6]

/-- recycling/graph.Cycle -/
abbrev n_graph_Cycle : Nat := 19
def s_graph_Cycle : S :=
 (.eff false (some 3) (.box 24 (.var 0))
 (.set 1 (.lit (.slice none 0 0))
 (.set 2 (.lit (.int .i64 0))
 (.call false (some 15) 14 (.cn (.u (.lda 2) (.var 3)) .nl)
 (.set 4 (.var 15)
 (.seq
  (.ite (.b (.bin .neq) (.var 4) (.lit (.int .i64 0)))
   (.set 1 (.lit (.slice none 0 0))
   (.set 2 (.var 4)
   .ret))
   .nxt)
 (.set 5 (.lit (.int .i64 (-1)))
 (.set 6 (.lit (.int .i64 0))
 (.eff false (some 12) (.alloc 48 (List.replicate 64 (.int .i64 0)))
 (.set 7 (.lit (.int .i64 1))
 (.seq
  (.blk 0
   (.loop
    (.seq
     (.ite (.b (.bin .leq) (.var 7) (.u .ld1 (.u (.fld 0) (.var 3))))
      .nxt
      (.exit 0))
    (.seq
     (.blk 1
      (.set 9 (.u .ld1 (.u (.fld 0) (.var 3)))
      (.set 8 (.lit (.int .i64 0))
      (.blk 2
       (.loop
        (.set 10 (.b (.bin .lss) (.var 8) (.var 9))
        (.seq
         (.ite (.var 10)
          .nxt
          (.exit 2))
        (.seq
         (.blk 3
          (.set 11 (.var 8)
          (.call false (some 16) 36 (.cn (.u (.lda 2) (.var 3)) (.cn (.var 11) .nl))
          (.eff false none (.st 64 (.var 12) (.var 16))
          (.call false (some 17) 37 (.cn (.u (.lda 2) (.var 3)) (.cn (.var 11) (.cn (.b (.bin .sub) (.var 7) (.lit (.int .i64 1))) (.cn (.u (.lda 64) (.var 12)) .nl))))
          (.ite (.b (.bin .geq) (.var 17) (.lit (.int .i64 0)))
           (.set 5 (.var 11)
           (.set 6 (.var 7)
           (.exit 0)))
           .nxt))))))
        (.set 8 (.b (.bin .add) (.var 8) (.lit (.int .i64 1)))
        .nxt)))))))))
    (.set 7 (.b (.bin .add) (.var 7) (.lit (.int .i64 1)))
    .nxt)))))
 (.seq
  (.ite (.b (.bin .lss) (.var 5) (.lit (.int .i64 0)))
   (.set 1 (.lit (.slice none 0 0))
   (.set 2 (.lit (.int .i64 7))
   .ret))
   .nxt)
 (.eff false (some 18) (.lit 3 1 1 [(.int .i64 0)] (.pl 0 1 (.var 5) .nl))
 (.set 13 (.var 18)
 (.set 14 (.b (.bin .sub) (.var 6) (.lit (.int .i64 1)))
 (.seq
  (.blk 4
   (.loop
    (.seq
     (.ite (.b (.bin .gtr) (.var 14) (.lit (.int .i64 0)))
      .nxt
      (.exit 4))
    (.seq
     (.blk 5
      (.call false (some 19) 37 (.cn (.u (.lda 2) (.var 3)) (.cn (.u .ld1 (.b (.idx 1) (.var 13) (.b (.bin .sub) (.u .len (.var 13)) (.lit (.int .i64 1))))) (.cn (.var 14) (.cn (.u (.lda 64) (.var 12)) .nl))))
      (.eff false (some 20) (.lit 3 1 1 [(.int .i64 0)] (.pl 0 1 (.var 19) .nl))
      (.eff false (some 21) (.app 3 1 8 [(.int .i64 0)] (.var 13) (.var 20))
      (.set 13 (.var 21)
      .nxt)))))
    (.set 14 (.b (.bin .sub) (.var 14) (.lit (.int .i64 1)))
    .nxt)))))
 (.set 1 (.var 13)
 (.set 2 (.lit (.int .i64 0))
 .ret))))))))))))))))))
def f_graph_Cycle : Fun := ⟨s_graph_Cycle, [(.var 1), (.var 2)]⟩
abbrev v_graph_Cycle : List Nat := [0, 2, 3, 1, 4, 5, 6, 8, 25, 24, 26, 9, 7, 10, 11, 13, 30, 36, 44, 61, 62, 63]
theorem c_graph_Cycle : compF P Go.Proofs.Try.f19 v_graph_Cycle = some f_graph_Cycle := by kernel_rfl
theorem of_graph_Cycle {args : List Value} (hn : args.length ≤ 65) {h : Heap} {R : Value → Heap → Prop} (hs : s_graph_Cycle.wp P (f_graph_Cycle.post R) (env0 v_graph_Cycle args) h) : Runs P n_graph_Cycle args h R := fn_of P_mixed Go.Proofs.Try.func19 c_graph_Cycle (by rw [Go.Proofs.Try.ntmps19]; exact hn) hs
theorem vr_graph_Cycle {kp : Bool} {args : List A} {H : List Blk} {R : A → List Blk → Prop} (hlen : args.length ≤ 65) (hk : kp = false ∨ H = []) (hw : (∀ B ∈ H, A.bdL H.length B.cells = true) → A.bdL H.length args = true → s_graph_Cycle.aw P H.length (postA H.length f_graph_Cycle R) (envA v_graph_Cycle args) H) : VR P kp n_graph_Cycle args H R := VR.of (F := f_graph_Cycle) (V := v_graph_Cycle) of_graph_Cycle hlen hk fun h1 h2 => aw_sound (hw h1 h2)
theorem r_graph_Cycle : Fun.res f_graph_Cycle = [(.var 1), (.var 2)] := rfl
abbrev g_graph_Cycle_0 : List Nat := [5, 6, 7, 8, 9, 10, 11, 16, 17]
abbrev g_graph_Cycle_1 : List Nat := [5, 6, 8, 10, 11, 16, 17]
abbrev g_graph_Cycle_2 : List Nat := [13, 14, 19, 20, 21]

/-- recycling/recyclingref09.Cycle -/
abbrev n_ref09_Cycle : Nat := 20
def s_ref09_Cycle : S :=
 (.eff false (some 3) (.box 24 (.var 0))
 (.set 1 (.lit (.slice none 0 0))
 (.set 2 (.lit (.int .i64 0))
 (.call false (some 17) 15 (.cn (.u (.lda 2) (.var 3)) .nl)
 (.set 4 (.var 17)
 (.seq
  (.ite (.b (.bin .neq) (.var 4) (.lit (.int .i64 0)))
   (.set 1 (.lit (.slice none 0 0))
   (.set 2 (.var 4)
   .ret))
   .nxt)
 (.set 5 (.lit (.int .i64 (-1)))
 (.set 6 (.lit (.int .i64 0))
 (.set 7 (.lit (.int .i64 0))
 (.seq
  (.blk 0
   (.loop
    (.seq
     (.ite (.b (.bin .lss) (.var 7) (.u .ld1 (.u (.fld 0) (.var 3))))
      .nxt
      (.exit 0))
    (.seq
     (.blk 1
      (.call false (some 18) 38 (.cn (.u (.lda 2) (.var 3)) (.cn (.var 7) .nl))
      (.set 8 (.u .ld1 (.b (.idx 1) (.var 18) (.var 7)))
      (.ite (.ite (.b (.bin .gtr) (.var 8) (.lit (.int .i64 0))) (.ite (.b (.bin .lss) (.var 5) (.lit (.int .i64 0))) (.lit (.bool true)) (.b (.bin .lss) (.var 8) (.var 6))) (.lit (.bool false)))
       (.set 5 (.var 7)
       (.set 6 (.var 8)
       .nxt))
       .nxt))))
    (.set 7 (.b (.bin .add) (.var 7) (.lit (.int .i64 1)))
    .nxt)))))
 (.seq
  (.ite (.b (.bin .lss) (.var 5) (.lit (.int .i64 0)))
   (.set 1 (.lit (.slice none 0 0))
   (.set 2 (.lit (.int .i64 7))
   .ret))
   .nxt)
 (.call false (some 19) 38 (.cn (.u (.lda 2) (.var 3)) (.cn (.var 5) .nl))
 (.set 9 (.var 19)
 (.eff false (some 20) (.lit 3 1 1 [(.int .i64 0)] (.pl 0 1 (.var 5) .nl))
 (.set 10 (.var 20)
 (.seq
  (.blk 2
   (.loop
    (.seq
     (.ite (.b (.bin .lss) (.u .len (.var 10)) (.var 6))
      .nxt
      (.exit 2))
    (.blk 3
     (.set 11 (.lit (.int .i64 (-1)))
     (.set 15 (.u .ld1 (.u (.fld 1) (.var 3)))
     (.set 13 (.u .len (.var 15))
     (.set 12 (.lit (.int .i64 0))
     (.seq
      (.blk 4
       (.loop
        (.set 14 (.b (.bin .lss) (.var 12) (.var 13))
        (.seq
         (.ite (.var 14)
          .nxt
          (.exit 4))
        (.seq
         (.blk 5
          (.chk (.u (.lda 2) (.b (.idx 2) (.var 15) (.var 12)))
          (.eff false (some 16) (.alloc 44 [(.int .i64 0), (.int .i64 0)])
          (.eff false none (.st 2 (.var 16) (.u (.lda 2) (.b (.idx 2) (.var 15) (.var 12))))
          (.ite (.ite (.ite (.b (.bin .eql) (.u .ld1 (.u (.fld 0) (.var 16))) (.u .ld1 (.b (.idx 1) (.var 10) (.b (.bin .sub) (.u .len (.var 10)) (.lit (.int .i64 1)))))) (.b (.bin .eql) (.u .ld1 (.b (.idx 1) (.var 9) (.u .ld1 (.u (.fld 1) (.var 16))))) (.b (.bin .sub) (.var 6) (.u .len (.var 10)))) (.lit (.bool false))) (.ite (.b (.bin .lss) (.var 11) (.lit (.int .i64 0))) (.lit (.bool true)) (.b (.bin .lss) (.u .ld1 (.u (.fld 1) (.var 16))) (.var 11))) (.lit (.bool false)))
           (.set 11 (.u .ld1 (.u (.fld 1) (.var 16)))
           .nxt)
           .nxt)))))
        (.set 12 (.b (.bin .add) (.var 12) (.lit (.int .i64 1)))
        .nxt))))))
     (.eff false (some 21) (.lit 3 1 1 [(.int .i64 0)] (.pl 0 1 (.var 11) .nl))
     (.eff false (some 22) (.app 3 1 8 [(.int .i64 0)] (.var 10) (.var 21))
     (.set 10 (.var 22)
     .nxt))))))))))))
 (.set 1 (.var 10)
 (.set 2 (.lit (.int .i64 0))
 .ret))))))))))))))))))
def f_ref09_Cycle : Fun := ⟨s_ref09_Cycle, [(.var 1), (.var 2)]⟩
abbrev v_ref09_Cycle : List Nat := [0, 2, 3, 1, 4, 5, 6, 7, 8, 9, 10, 11, 58, 57, 59, 56, 13, 15, 27, 48, 50, 98, 99]
theorem c_ref09_Cycle : compF P Go.Proofs.Try.f20 v_ref09_Cycle = some f_ref09_Cycle := by kernel_rfl
theorem of_ref09_Cycle {args : List Value} (hn : args.length ≤ 101) {h : Heap} {R : Value → Heap → Prop} (hs : s_ref09_Cycle.wp P (f_ref09_Cycle.post R) (env0 v_ref09_Cycle args) h) : Runs P n_ref09_Cycle args h R := fn_of P_mixed Go.Proofs.Try.func20 c_ref09_Cycle (by rw [Go.Proofs.Try.ntmps20]; exact hn) hs
theorem vr_ref09_Cycle {kp : Bool} {args : List A} {H : List Blk} {R : A → List Blk → Prop} (hlen : args.length ≤ 101) (hk : kp = false ∨ H = []) (hw : (∀ B ∈ H, A.bdL H.length B.cells = true) → A.bdL H.length args = true → s_ref09_Cycle.aw P H.length (postA H.length f_ref09_Cycle R) (envA v_ref09_Cycle args) H) : VR P kp n_ref09_Cycle args H R := VR.of (F := f_ref09_Cycle) (V := v_ref09_Cycle) of_ref09_Cycle hlen hk fun h1 h2 => aw_sound (hw h1 h2)
theorem r_ref09_Cycle : Fun.res f_ref09_Cycle = [(.var 1), (.var 2)] := rfl
abbrev g_ref09_Cycle_0 : List Nat := [5, 6, 7, 8, 18]
abbrev g_ref09_Cycle_1 : List Nat := [10, 11, 12, 13, 14, 15, 16, 21, 22]
abbrev g_ref09_Cycle_2 : List Nat := [11, 12, 14, 16]

/-- recycling/graph.Reach -/
abbrev n_graph_Reach : Nat := 21
def s_graph_Reach : S :=
 (.eff false (some 4) (.box 24 (.var 0))
 (.set 2 (.lit (.slice none 0 0))
 (.set 3 (.lit (.int .i64 0))
 (.call false (some 5) 39 (.cn (.u (.lda 2) (.var 4)) (.cn (.var 1) (.cn (.lit (.func (.func 40) #[] #[])) .nl)))
 (.chk (.u (.ext 0) (.var 5))
 (.chk (.u (.ext 1) (.var 5))
 (.set 2 (.u (.ext 0) (.var 5))
 (.set 3 (.u (.ext 1) (.var 5))
 .ret))))))))
def f_graph_Reach : Fun := ⟨s_graph_Reach, [(.var 2), (.var 3)]⟩
abbrev v_graph_Reach : List Nat := [0, 1, 4, 5, 2, 8]
theorem c_graph_Reach : compF P Go.Proofs.Try.f21 v_graph_Reach = some f_graph_Reach := by kernel_rfl
theorem of_graph_Reach {args : List Value} (hn : args.length ≤ 11) {h : Heap} {R : Value → Heap → Prop} (hs : s_graph_Reach.wp P (f_graph_Reach.post R) (env0 v_graph_Reach args) h) : Runs P n_graph_Reach args h R := fn_of P_mixed Go.Proofs.Try.func21 c_graph_Reach (by rw [Go.Proofs.Try.ntmps21]; exact hn) hs
theorem vr_graph_Reach {kp : Bool} {args : List A} {H : List Blk} {R : A → List Blk → Prop} (hlen : args.length ≤ 11) (hk : kp = false ∨ H = []) (hw : (∀ B ∈ H, A.bdL H.length B.cells = true) → A.bdL H.length args = true → s_graph_Reach.aw P H.length (postA H.length f_graph_Reach R) (envA v_graph_Reach args) H) : VR P kp n_graph_Reach args H R := VR.of (F := f_graph_Reach) (V := v_graph_Reach) of_graph_Reach hlen hk fun h1 h2 => aw_sound (hw h1 h2)
theorem r_graph_Reach : Fun.res f_graph_Reach = [(.var 2), (.var 3)] := rfl

/-- recycling/recyclingref09.Reach -/
abbrev n_ref09_Reach : Nat := 22
def s_ref09_Reach : S :=
 (.eff false (some 4) (.box 24 (.var 0))
 (.set 2 (.lit (.slice none 0 0))
 (.set 3 (.lit (.int .i64 0))
 (.call false (some 13) 15 (.cn (.u (.lda 2) (.var 4)) .nl)
 (.set 5 (.var 13)
 (.seq
  (.ite (.b (.bin .neq) (.var 5) (.lit (.int .i64 0)))
   (.set 2 (.lit (.slice none 0 0))
   (.set 3 (.var 5)
   .ret))
   .nxt)
 (.seq
  (.ite (.ite (.b (.bin .lss) (.var 1) (.lit (.int .i64 0))) (.lit (.bool true)) (.b (.bin .geq) (.var 1) (.u .ld1 (.u (.fld 0) (.var 4)))))
   (.set 2 (.lit (.slice none 0 0))
   (.set 3 (.lit (.int .i64 7))
   .ret))
   .nxt)
 (.eff false (some 14) (.mk 4 1 1 [(.bool false)] (.u .ld1 (.u (.fld 0) (.var 4))) (.u .ld1 (.u (.fld 0) (.var 4))))
 (.set 6 (.var 14)
 (.eff false none (.st 1 (.b (.idx 1) (.var 6) (.var 1)) (.lit (.bool true)))
 (.set 7 (.lit (.int .i64 0))
 (.seq
  (.blk 0
   (.loop
    (.seq
     (.ite (.b (.bin .lss) (.var 7) (.u .ld1 (.u (.fld 0) (.var 4))))
      .nxt
      (.exit 0))
    (.seq
     (.blk 1
      (.set 11 (.u .ld1 (.u (.fld 1) (.var 4)))
      (.set 9 (.u .len (.var 11))
      (.set 8 (.lit (.int .i64 0))
      (.blk 2
       (.loop
        (.set 10 (.b (.bin .lss) (.var 8) (.var 9))
        (.seq
         (.ite (.var 10)
          .nxt
          (.exit 2))
        (.seq
         (.blk 3
          (.chk (.u (.lda 2) (.b (.idx 2) (.var 11) (.var 8)))
          (.eff false (some 12) (.alloc 44 [(.int .i64 0), (.int .i64 0)])
          (.eff false none (.st 2 (.var 12) (.u (.lda 2) (.b (.idx 2) (.var 11) (.var 8))))
          (.eff false none (.st 1 (.b (.idx 1) (.var 6) (.u .ld1 (.u (.fld 1) (.var 12)))) (.ite (.u .ld1 (.b (.idx 1) (.var 6) (.u .ld1 (.u (.fld 1) (.var 12))))) (.lit (.bool true)) (.u .ld1 (.b (.idx 1) (.var 6) (.u .ld1 (.u (.fld 0) (.var 12)))))))
          .nxt)))))
        (.set 8 (.b (.bin .add) (.var 8) (.lit (.int .i64 1)))
        .nxt))))))))))
    (.set 7 (.b (.bin .add) (.var 7) (.lit (.int .i64 1)))
    .nxt)))))
 (.set 2 (.var 6)
 (.set 3 (.lit (.int .i64 0))
 .ret))))))))))))))
def f_ref09_Reach : Fun := ⟨s_ref09_Reach, [(.var 2), (.var 3)]⟩
abbrev v_ref09_Reach : List Nat := [0, 1, 4, 5, 2, 6, 7, 8, 39, 38, 40, 37, 10, 12, 26]
theorem c_ref09_Reach : compF P Go.Proofs.Try.f22 v_ref09_Reach = some f_ref09_Reach := by kernel_rfl
theorem of_ref09_Reach {args : List Value} (hn : args.length ≤ 61) {h : Heap} {R : Value → Heap → Prop} (hs : s_ref09_Reach.wp P (f_ref09_Reach.post R) (env0 v_ref09_Reach args) h) : Runs P n_ref09_Reach args h R := fn_of P_mixed Go.Proofs.Try.func22 c_ref09_Reach (by rw [Go.Proofs.Try.ntmps22]; exact hn) hs
theorem vr_ref09_Reach {kp : Bool} {args : List A} {H : List Blk} {R : A → List Blk → Prop} (hlen : args.length ≤ 61) (hk : kp = false ∨ H = []) (hw : (∀ B ∈ H, A.bdL H.length B.cells = true) → A.bdL H.length args = true → s_ref09_Reach.aw P H.length (postA H.length f_ref09_Reach R) (envA v_ref09_Reach args) H) : VR P kp n_ref09_Reach args H R := VR.of (F := f_ref09_Reach) (V := v_ref09_Reach) of_ref09_Reach hlen hk fun h1 h2 => aw_sound (hw h1 h2)
theorem r_ref09_Reach : Fun.res f_ref09_Reach = [(.var 2), (.var 3)] := rfl
abbrev g_ref09_Reach_0 : List Nat := [7, 8, 9, 10, 11, 12]
abbrev g_ref09_Reach_1 : List Nat := [8, 10, 12]

/-- recycling/graph.Back -/
abbrev n_graph_Back : Nat := 23
def s_graph_Back : S :=
 (.eff false (some 4) (.box 24 (.var 0))
 (.set 2 (.lit (.slice none 0 0))
 (.set 3 (.lit (.int .i64 0))
 (.call false (some 5) 39 (.cn (.u (.lda 2) (.var 4)) (.cn (.var 1) (.cn (.lit (.func (.func 41) #[] #[])) .nl)))
 (.chk (.u (.ext 0) (.var 5))
 (.chk (.u (.ext 1) (.var 5))
 (.set 2 (.u (.ext 0) (.var 5))
 (.set 3 (.u (.ext 1) (.var 5))
 .ret))))))))
def f_graph_Back : Fun := ⟨s_graph_Back, [(.var 2), (.var 3)]⟩
abbrev v_graph_Back : List Nat := [0, 1, 4, 5, 2, 8]
theorem c_graph_Back : compF P Go.Proofs.Try.f23 v_graph_Back = some f_graph_Back := by kernel_rfl
theorem of_graph_Back {args : List Value} (hn : args.length ≤ 11) {h : Heap} {R : Value → Heap → Prop} (hs : s_graph_Back.wp P (f_graph_Back.post R) (env0 v_graph_Back args) h) : Runs P n_graph_Back args h R := fn_of P_mixed Go.Proofs.Try.func23 c_graph_Back (by rw [Go.Proofs.Try.ntmps23]; exact hn) hs
theorem vr_graph_Back {kp : Bool} {args : List A} {H : List Blk} {R : A → List Blk → Prop} (hlen : args.length ≤ 11) (hk : kp = false ∨ H = []) (hw : (∀ B ∈ H, A.bdL H.length B.cells = true) → A.bdL H.length args = true → s_graph_Back.aw P H.length (postA H.length f_graph_Back R) (envA v_graph_Back args) H) : VR P kp n_graph_Back args H R := VR.of (F := f_graph_Back) (V := v_graph_Back) of_graph_Back hlen hk fun h1 h2 => aw_sound (hw h1 h2)
theorem r_graph_Back : Fun.res f_graph_Back = [(.var 2), (.var 3)] := rfl

/-- recycling/recyclingref09.Back -/
abbrev n_ref09_Back : Nat := 24
def s_ref09_Back : S :=
 (.eff false (some 4) (.box 24 (.var 0))
 (.set 2 (.lit (.slice none 0 0))
 (.set 3 (.lit (.int .i64 0))
 (.call false (some 6) 15 (.cn (.u (.lda 2) (.var 4)) .nl)
 (.set 5 (.var 6)
 (.seq
  (.ite (.b (.bin .neq) (.var 5) (.lit (.int .i64 0)))
   (.set 2 (.lit (.slice none 0 0))
   (.set 3 (.var 5)
   .ret))
   .nxt)
 (.call false (some 7) 30 (.cn (.u (.lda 2) (.var 4)) .nl)
 (.call false (some 8) 22 (.cn (.var 7) (.cn (.var 1) .nl))
 (.chk (.u (.ext 0) (.var 8))
 (.chk (.u (.ext 1) (.var 8))
 (.set 2 (.u (.ext 0) (.var 8))
 (.set 3 (.u (.ext 1) (.var 8))
 .ret))))))))))))
def f_ref09_Back : Fun := ⟨s_ref09_Back, [(.var 2), (.var 3)]⟩
abbrev v_ref09_Back : List Nat := [0, 1, 4, 5, 2, 6, 8, 13, 15]
theorem c_ref09_Back : compF P Go.Proofs.Try.f24 v_ref09_Back = some f_ref09_Back := by kernel_rfl
theorem of_ref09_Back {args : List Value} (hn : args.length ≤ 18) {h : Heap} {R : Value → Heap → Prop} (hs : s_ref09_Back.wp P (f_ref09_Back.post R) (env0 v_ref09_Back args) h) : Runs P n_ref09_Back args h R := fn_of P_mixed Go.Proofs.Try.func24 c_ref09_Back (by rw [Go.Proofs.Try.ntmps24]; exact hn) hs
theorem vr_ref09_Back {kp : Bool} {args : List A} {H : List Blk} {R : A → List Blk → Prop} (hlen : args.length ≤ 18) (hk : kp = false ∨ H = []) (hw : (∀ B ∈ H, A.bdL H.length B.cells = true) → A.bdL H.length args = true → s_ref09_Back.aw P H.length (postA H.length f_ref09_Back R) (envA v_ref09_Back args) H) : VR P kp n_ref09_Back args H R := VR.of (F := f_ref09_Back) (V := v_ref09_Back) of_ref09_Back hlen hk fun h1 h2 => aw_sound (hw h1 h2)
theorem r_ref09_Back : Fun.res f_ref09_Back = [(.var 2), (.var 3)] := rfl

/-- recycling/recyclingref09.Bools -/
abbrev n_ref09_Bools : Nat := 25
def s_ref09_Bools : S :=
 (.set 2 (.lit (.bool false))
 (.seq
  (.ite (.b (.bin .neq) (.u .len (.var 0)) (.u .len (.var 1)))
   (.set 2 (.lit (.bool false))
   .ret)
   .nxt)
 (.set 4 (.u .len (.var 0))
 (.set 3 (.lit (.int .i64 0))
 (.seq
  (.blk 0
   (.loop
    (.set 5 (.b (.bin .lss) (.var 3) (.var 4))
    (.seq
     (.ite (.var 5)
      .nxt
      (.exit 0))
    (.seq
     (.blk 1
      (.set 6 (.var 3)
      (.ite (.b (.eqb true) (.u .ld1 (.b (.idx 1) (.var 0) (.var 6))) (.u .ld1 (.b (.idx 1) (.var 1) (.var 6))))
       (.set 2 (.lit (.bool false))
       .ret)
       .nxt)))
    (.set 3 (.b (.bin .add) (.var 3) (.lit (.int .i64 1)))
    .nxt))))))
 (.set 2 (.lit (.bool true))
 .ret))))))
def f_ref09_Bools : Fun := ⟨s_ref09_Bools, [(.var 2)]⟩
abbrev v_ref09_Bools : List Nat := [0, 1, 4, 13, 12, 14, 5]
theorem c_ref09_Bools : compF P Go.Proofs.Try.f25 v_ref09_Bools = some f_ref09_Bools := by kernel_rfl
theorem of_ref09_Bools {args : List Value} (hn : args.length ≤ 26) {h : Heap} {R : Value → Heap → Prop} (hs : s_ref09_Bools.wp P (f_ref09_Bools.post R) (env0 v_ref09_Bools args) h) : Runs P n_ref09_Bools args h R := fn_of P_mixed Go.Proofs.Try.func25 c_ref09_Bools (by rw [Go.Proofs.Try.ntmps25]; exact hn) hs
theorem vr_ref09_Bools {kp : Bool} {args : List A} {H : List Blk} {R : A → List Blk → Prop} (hlen : args.length ≤ 26) (hk : kp = false ∨ H = []) (hw : (∀ B ∈ H, A.bdL H.length B.cells = true) → A.bdL H.length args = true → s_ref09_Bools.aw P H.length (postA H.length f_ref09_Bools R) (envA v_ref09_Bools args) H) : VR P kp n_ref09_Bools args H R := VR.of (F := f_ref09_Bools) (V := v_ref09_Bools) of_ref09_Bools hlen hk fun h1 h2 => aw_sound (hw h1 h2)
theorem r_ref09_Bools : Fun.res f_ref09_Bools = [(.var 2)] := rfl
abbrev g_ref09_Bools_0 : List Nat := [2, 3, 5, 6]

/-- recycling/graph.Groups -/
abbrev n_graph_Groups : Nat := 26
def s_graph_Groups : S :=
 (.eff false (some 3) (.box 24 (.var 0))
 (.set 1 (.lit (.slice none 0 0))
 (.set 2 (.lit (.int .i64 0))
 (.call false (some 20) 14 (.cn (.u (.lda 2) (.var 3)) .nl)
 (.set 4 (.var 20)
 (.seq
  (.ite (.b (.bin .neq) (.var 4) (.lit (.int .i64 0)))
   (.set 1 (.lit (.slice none 0 0))
   (.set 2 (.var 4)
   .ret))
   .nxt)
 (.set 5 (.lit (.slice none 0 0))
 (.eff false (some 21) (.mk 4 1 1 [(.bool false)] (.u .ld1 (.u (.fld 0) (.var 3))) (.u .ld1 (.u (.fld 0) (.var 3))))
 (.set 6 (.var 21)
 (.set 8 (.u .ld1 (.u (.fld 0) (.var 3)))
 (.set 7 (.lit (.int .i64 0))
 (.seq
  (.blk 0
   (.loop
    (.set 9 (.b (.bin .lss) (.var 7) (.var 8))
    (.seq
     (.ite (.var 9)
      .nxt
      (.exit 0))
    (.seq
     (.blk 1
      (.set 10 (.var 7)
      (.seq
       (.ite (.u .ld1 (.b (.idx 1) (.var 6) (.var 10)))
        (.exit 1)
        .nxt)
      (.call false (some 22) 21 (.cn (.u (.lda 2) (.var 3)) (.cn (.var 10) .nl))
      (.chk (.u (.ext 0) (.var 22))
      (.chk (.u (.ext 1) (.var 22))
      (.set 11 (.u (.ext 0) (.var 22))
      (.set 12 (.u (.ext 1) (.var 22))
      (.call false (some 23) 23 (.cn (.u (.lda 2) (.var 3)) (.cn (.var 10) .nl))
      (.chk (.u (.ext 0) (.var 23))
      (.chk (.u (.ext 1) (.var 23))
      (.set 13 (.u (.ext 0) (.var 23))
      (.set 14 (.u (.ext 1) (.var 23))
      (.set 15 (.lit (.slice none 0 0))
      (.set 17 (.u .ld1 (.u (.fld 0) (.var 3)))
      (.set 16 (.lit (.int .i64 0))
      (.seq
       (.blk 2
        (.loop
         (.set 18 (.b (.bin .lss) (.var 16) (.var 17))
         (.seq
          (.ite (.var 18)
           .nxt
           (.exit 2))
         (.seq
          (.blk 3
           (.set 19 (.var 16)
           (.ite (.ite (.u .ld1 (.b (.idx 1) (.var 11) (.var 19))) (.u .ld1 (.b (.idx 1) (.var 13) (.var 19))) (.lit (.bool false)))
            (.eff false none (.st 1 (.b (.idx 1) (.var 6) (.var 19)) (.lit (.bool true)))
            (.eff false (some 24) (.lit 3 1 1 [(.int .i64 0)] (.pl 0 1 (.var 19) .nl))
            (.eff false (some 26) (.app 3 1 8 [(.int .i64 0)] (.var 15) (.var 24))
            (.set 15 (.var 26)
            .nxt))))
            .nxt)))
         (.set 16 (.b (.bin .add) (.var 16) (.lit (.int .i64 1)))
         .nxt))))))
      (.eff false (some 25) (.lit 29 1 1 [(.slice none 0 0)] (.pl 0 1 (.var 15) .nl))
      (.eff false (some 27) (.app 29 1 24 [(.slice none 0 0)] (.var 5) (.var 25))
      (.set 5 (.var 27)
      .nxt))))))))))))))))))))
    (.set 7 (.b (.bin .add) (.var 7) (.lit (.int .i64 1)))
    .nxt))))))
 (.set 1 (.var 5)
 (.set 2 (.lit (.int .i64 0))
 .ret))))))))))))))
def f_graph_Groups : Fun := ⟨s_graph_Groups, [(.var 1), (.var 2)]⟩
abbrev v_graph_Groups : List Nat := [0, 2, 3, 1, 4, 5, 6, 24, 23, 25, 7, 8, 9, 10, 11, 12, 45, 44, 46, 13, 15, 21, 34, 40, 63, 68, 64, 69]
theorem c_graph_Groups : compF P Go.Proofs.Try.f26 v_graph_Groups = some f_graph_Groups := by kernel_rfl
theorem of_graph_Groups {args : List Value} (hn : args.length ≤ 72) {h : Heap} {R : Value → Heap → Prop} (hs : s_graph_Groups.wp P (f_graph_Groups.post R) (env0 v_graph_Groups args) h) : Runs P n_graph_Groups args h R := fn_of P_mixed Go.Proofs.Try.func26 c_graph_Groups (by rw [Go.Proofs.Try.ntmps26]; exact hn) hs
theorem vr_graph_Groups {kp : Bool} {args : List A} {H : List Blk} {R : A → List Blk → Prop} (hlen : args.length ≤ 72) (hk : kp = false ∨ H = []) (hw : (∀ B ∈ H, A.bdL H.length B.cells = true) → A.bdL H.length args = true → s_graph_Groups.aw P H.length (postA H.length f_graph_Groups R) (envA v_graph_Groups args) H) : VR P kp n_graph_Groups args H R := VR.of (F := f_graph_Groups) (V := v_graph_Groups) of_graph_Groups hlen hk fun h1 h2 => aw_sound (hw h1 h2)
theorem r_graph_Groups : Fun.res f_graph_Groups = [(.var 1), (.var 2)] := rfl
abbrev g_graph_Groups_0 : List Nat := [5, 7, 9, 10, 11, 12, 13, 14, 15, 16, 17, 18, 19, 22, 23, 24, 25, 26, 27]
abbrev g_graph_Groups_1 : List Nat := [15, 16, 18, 19, 24, 26]

/-- recycling/recyclingref09.Groups -/
abbrev n_ref09_Groups : Nat := 27
def s_ref09_Groups : S :=
 (.eff false (some 3) (.box 24 (.var 0))
 (.set 1 (.lit (.slice none 0 0))
 (.set 2 (.lit (.int .i64 0))
 (.call false (some 14) 15 (.cn (.u (.lda 2) (.var 3)) .nl)
 (.set 4 (.var 14)
 (.seq
  (.ite (.b (.bin .neq) (.var 4) (.lit (.int .i64 0)))
   (.set 1 (.lit (.slice none 0 0))
   (.set 2 (.var 4)
   .ret))
   .nxt)
 (.set 5 (.lit (.slice none 0 0))
 (.eff false (some 15) (.mk 4 1 1 [(.bool false)] (.u .ld1 (.u (.fld 0) (.var 3))) (.u .ld1 (.u (.fld 0) (.var 3))))
 (.set 6 (.var 15)
 (.set 7 (.lit (.int .i64 0))
 (.seq
  (.blk 0
   (.loop
    (.seq
     (.ite (.b (.bin .lss) (.var 7) (.u .ld1 (.u (.fld 0) (.var 3))))
      .nxt
      (.exit 0))
    (.seq
     (.blk 1
      (.seq
       (.ite (.u .ld1 (.b (.idx 1) (.var 6) (.var 7)))
        (.exit 1)
        .nxt)
      (.call false (some 16) 22 (.cn (.u (.lda 2) (.var 3)) (.cn (.var 7) .nl))
      (.chk (.u (.ext 0) (.var 16))
      (.chk (.u (.ext 1) (.var 16))
      (.set 8 (.u (.ext 0) (.var 16))
      (.set 9 (.u (.ext 1) (.var 16))
      (.call false (some 17) 24 (.cn (.u (.lda 2) (.var 3)) (.cn (.var 7) .nl))
      (.chk (.u (.ext 0) (.var 17))
      (.chk (.u (.ext 1) (.var 17))
      (.set 10 (.u (.ext 0) (.var 17))
      (.set 11 (.u (.ext 1) (.var 17))
      (.set 12 (.lit (.slice none 0 0))
      (.set 13 (.var 7)
      (.seq
       (.blk 2
        (.loop
         (.seq
          (.ite (.b (.bin .lss) (.var 13) (.u .ld1 (.u (.fld 0) (.var 3))))
           .nxt
           (.exit 2))
         (.seq
          (.blk 3
           (.ite (.ite (.u .ld1 (.b (.idx 1) (.var 8) (.var 13))) (.u .ld1 (.b (.idx 1) (.var 10) (.var 13))) (.lit (.bool false)))
            (.eff false (some 18) (.lit 3 1 1 [(.int .i64 0)] (.pl 0 1 (.var 13) .nl))
            (.eff false (some 20) (.app 3 1 8 [(.int .i64 0)] (.var 12) (.var 18))
            (.set 12 (.var 20)
            (.eff false none (.st 1 (.b (.idx 1) (.var 6) (.var 13)) (.lit (.bool true)))
            .nxt))))
            .nxt))
         (.set 13 (.b (.bin .add) (.var 13) (.lit (.int .i64 1)))
         .nxt)))))
      (.eff false (some 19) (.lit 29 1 1 [(.slice none 0 0)] (.pl 0 1 (.var 12) .nl))
      (.eff false (some 21) (.app 29 1 24 [(.slice none 0 0)] (.var 5) (.var 19))
      (.set 5 (.var 21)
      .nxt))))))))))))))))))
    (.set 7 (.b (.bin .add) (.var 7) (.lit (.int .i64 1)))
    .nxt)))))
 (.set 1 (.var 5)
 (.set 2 (.lit (.int .i64 0))
 .ret)))))))))))))
def f_ref09_Groups : Fun := ⟨s_ref09_Groups, [(.var 1), (.var 2)]⟩
abbrev v_ref09_Groups : List Nat := [0, 2, 3, 1, 4, 5, 6, 7, 8, 9, 10, 11, 12, 13, 15, 21, 35, 41, 63, 70, 64, 71]
theorem c_ref09_Groups : compF P Go.Proofs.Try.f27 v_ref09_Groups = some f_ref09_Groups := by kernel_rfl
theorem of_ref09_Groups {args : List Value} (hn : args.length ≤ 73) {h : Heap} {R : Value → Heap → Prop} (hs : s_ref09_Groups.wp P (f_ref09_Groups.post R) (env0 v_ref09_Groups args) h) : Runs P n_ref09_Groups args h R := fn_of P_mixed Go.Proofs.Try.func27 c_ref09_Groups (by rw [Go.Proofs.Try.ntmps27]; exact hn) hs
theorem vr_ref09_Groups {kp : Bool} {args : List A} {H : List Blk} {R : A → List Blk → Prop} (hlen : args.length ≤ 73) (hk : kp = false ∨ H = []) (hw : (∀ B ∈ H, A.bdL H.length B.cells = true) → A.bdL H.length args = true → s_ref09_Groups.aw P H.length (postA H.length f_ref09_Groups R) (envA v_ref09_Groups args) H) : VR P kp n_ref09_Groups args H R := VR.of (F := f_ref09_Groups) (V := v_ref09_Groups) of_ref09_Groups hlen hk fun h1 h2 => aw_sound (hw h1 h2)
theorem r_ref09_Groups : Fun.res f_ref09_Groups = [(.var 1), (.var 2)] := rfl
abbrev g_ref09_Groups_0 : List Nat := [5, 7, 8, 9, 10, 11, 12, 13, 16, 17, 18, 19, 20, 21]
abbrev g_ref09_Groups_1 : List Nat := [12, 13, 18, 20]

/-- recycling/recyclingref09.Lists -/
abbrev n_ref09_Lists : Nat := 28
def s_ref09_Lists : S :=
 (.set 2 (.lit (.bool false))
 (.seq
  (.ite (.b (.bin .neq) (.u .len (.var 0)) (.u .len (.var 1)))
   (.set 2 (.lit (.bool false))
   .ret)
   .nxt)
 (.set 4 (.u .len (.var 0))
 (.set 3 (.lit (.int .i64 0))
 (.seq
  (.blk 0
   (.loop
    (.set 5 (.b (.bin .lss) (.var 3) (.var 4))
    (.seq
     (.ite (.var 5)
      .nxt
      (.exit 0))
    (.seq
     (.blk 1
      (.set 6 (.var 3)
      (.call false (some 7) 18 (.cn (.u .ld1 (.b (.idx 1) (.var 0) (.var 6))) (.cn (.u .ld1 (.b (.idx 1) (.var 1) (.var 6))) .nl))
      (.ite (.u (.un .not) (.var 7))
       (.set 2 (.lit (.bool false))
       .ret)
       .nxt))))
    (.set 3 (.b (.bin .add) (.var 3) (.lit (.int .i64 1)))
    .nxt))))))
 (.set 2 (.lit (.bool true))
 .ret))))))
def f_ref09_Lists : Fun := ⟨s_ref09_Lists, [(.var 2)]⟩
abbrev v_ref09_Lists : List Nat := [0, 1, 4, 13, 12, 14, 5, 24]
theorem c_ref09_Lists : compF P Go.Proofs.Try.f28 v_ref09_Lists = some f_ref09_Lists := by kernel_rfl
theorem of_ref09_Lists {args : List Value} (hn : args.length ≤ 27) {h : Heap} {R : Value → Heap → Prop} (hs : s_ref09_Lists.wp P (f_ref09_Lists.post R) (env0 v_ref09_Lists args) h) : Runs P n_ref09_Lists args h R := fn_of P_mixed Go.Proofs.Try.func28 c_ref09_Lists (by rw [Go.Proofs.Try.ntmps28]; exact hn) hs
theorem vr_ref09_Lists {kp : Bool} {args : List A} {H : List Blk} {R : A → List Blk → Prop} (hlen : args.length ≤ 27) (hk : kp = false ∨ H = []) (hw : (∀ B ∈ H, A.bdL H.length B.cells = true) → A.bdL H.length args = true → s_ref09_Lists.aw P H.length (postA H.length f_ref09_Lists R) (envA v_ref09_Lists args) H) : VR P kp n_ref09_Lists args H R := VR.of (F := f_ref09_Lists) (V := v_ref09_Lists) of_ref09_Lists hlen hk fun h1 h2 => aw_sound (hw h1 h2)
theorem r_ref09_Lists : Fun.res f_ref09_Lists = [(.var 2)] := rfl
abbrev g_ref09_Lists_0 : List Nat := [2, 3, 5, 6, 7]

/-- recycling/recyclinglaw09.cycle -/
abbrev n_law09_cycle : Nat := 29
def s_law09_cycle : S :=
 (.eff false (some 9) (.box 24 (.var 0))
 (.set 2 (.lit (.bool false))
 (.set 6 (.var 1)
 (.set 4 (.u .len (.var 6))
 (.set 3 (.lit (.int .i64 0))
 (.seq
  (.blk 0
   (.loop
    (.set 5 (.b (.bin .lss) (.var 3) (.var 4))
    (.seq
     (.ite (.var 5)
      .nxt
      (.exit 0))
    (.seq
     (.blk 1
      (.chk (.u .ld1 (.b (.idx 1) (.var 6) (.var 3)))
      (.set 7 (.var 3)
      (.set 8 (.u .ld1 (.b (.idx 1) (.var 6) (.var 3)))
      (.call false (some 15) 42 (.cn (.u (.lda 2) (.var 9)) (.cn (.var 8) (.cn (.u .ld1 (.b (.idx 1) (.var 1) (.b (.bin .rem) (.b (.bin .add) (.var 7) (.lit (.int .i64 1))) (.u .len (.var 1))))) .nl)))
      (.seq
       (.ite (.ite (.u (.un .not) (.var 15)) (.lit (.bool true)) (.b (.bin .lss) (.var 8) (.u .ld1 (.b (.idx 1) (.var 1) (.lit (.int .i64 0))))))
        (.set 2 (.lit (.bool false))
        .ret)
        .nxt)
      (.set 13 (.slc none 1 (.var 1) (.lit (.int .i64 0)) (.var 7) .nl)
      (.set 11 (.u .len (.var 13))
      (.set 10 (.lit (.int .i64 0))
      (.blk 2
       (.loop
        (.set 12 (.b (.bin .lss) (.var 10) (.var 11))
        (.seq
         (.ite (.var 12)
          .nxt
          (.exit 2))
        (.seq
         (.blk 3
          (.set 14 (.u .ld1 (.b (.idx 1) (.var 13) (.var 10)))
          (.ite (.b (.bin .eql) (.var 8) (.var 14))
           (.set 2 (.lit (.bool false))
           .ret)
           .nxt)))
        (.set 10 (.b (.bin .add) (.var 10) (.lit (.int .i64 1)))
        .nxt)))))))))))))))
    (.set 3 (.b (.bin .add) (.var 3) (.lit (.int .i64 1)))
    .nxt))))))
 (.set 2 (.b (.bin .gtr) (.u .len (.var 1)) (.lit (.int .i64 0)))
 .ret)))))))
def f_law09_cycle : Fun := ⟨s_law09_cycle, [(.var 2)]⟩
abbrev v_law09_cycle : List Nat := [0, 1, 4, 11, 10, 12, 9, 5, 6, 2, 39, 38, 40, 37, 8, 26]
theorem c_law09_cycle : compF P Go.Proofs.Try.f29 v_law09_cycle = some f_law09_cycle := by kernel_rfl
theorem of_law09_cycle {args : List Value} (hn : args.length ≤ 51) {h : Heap} {R : Value → Heap → Prop} (hs : s_law09_cycle.wp P (f_law09_cycle.post R) (env0 v_law09_cycle args) h) : Runs P n_law09_cycle args h R := fn_of P_mixed Go.Proofs.Try.func29 c_law09_cycle (by rw [Go.Proofs.Try.ntmps29]; exact hn) hs
theorem vr_law09_cycle {kp : Bool} {args : List A} {H : List Blk} {R : A → List Blk → Prop} (hlen : args.length ≤ 51) (hk : kp = false ∨ H = []) (hw : (∀ B ∈ H, A.bdL H.length B.cells = true) → A.bdL H.length args = true → s_law09_cycle.aw P H.length (postA H.length f_law09_cycle R) (envA v_law09_cycle args) H) : VR P kp n_law09_cycle args H R := VR.of (F := f_law09_cycle) (V := v_law09_cycle) of_law09_cycle hlen hk fun h1 h2 => aw_sound (hw h1 h2)
theorem r_law09_cycle : Fun.res f_law09_cycle = [(.var 2)] := rfl
abbrev g_law09_cycle_0 : List Nat := [2, 3, 5, 7, 8, 10, 11, 12, 13, 14, 15]
abbrev g_law09_cycle_1 : List Nat := [2, 10, 12, 14]

/-- recycling/recyclingref09.Reversed -/
abbrev n_ref09_Reversed : Nat := 30
def s_ref09_Reversed : S :=
 (.eff false (some 2) (.box 24 (.var 0))
 (.eff false (some 1) (.alloc 24 [(.int .i64 0), (.slice none 0 0)])
 (.chk (.bld [(.int .i64 0), (.slice none 0 0)] (.pl 0 1 (.u .ld1 (.u (.fld 0) (.var 2))) .nl))
 (.eff false (some 7) (.alloc 24 [(.int .i64 0), (.slice none 0 0)])
 (.eff false none (.st 2 (.var 7) (.bld [(.int .i64 0), (.slice none 0 0)] (.pl 0 1 (.u .ld1 (.u (.fld 0) (.var 2))) .nl)))
 (.set 6 (.u .ld1 (.u (.fld 1) (.var 2)))
 (.set 4 (.u .len (.var 6))
 (.set 3 (.lit (.int .i64 0))
 (.seq
  (.blk 0
   (.loop
    (.set 5 (.b (.bin .lss) (.var 3) (.var 4))
    (.seq
     (.ite (.var 5)
      .nxt
      (.exit 0))
    (.seq
     (.blk 1
      (.chk (.u (.lda 2) (.b (.idx 2) (.var 6) (.var 3)))
      (.eff false (some 8) (.alloc 44 [(.int .i64 0), (.int .i64 0)])
      (.eff false none (.st 2 (.var 8) (.u (.lda 2) (.b (.idx 2) (.var 6) (.var 3))))
      (.chk (.u .ld1 (.u (.fld 1) (.var 7)))
      (.chk (.bld [(.int .i64 0), (.int .i64 0)] (.pl 0 1 (.u .ld1 (.u (.fld 1) (.var 8))) (.pl 1 1 (.u .ld1 (.u (.fld 0) (.var 8))) .nl)))
      (.eff false (some 9) (.lit 44 2 1 [(.int .i64 0), (.int .i64 0)] (.pl 0 2 (.bld [(.int .i64 0), (.int .i64 0)] (.pl 0 1 (.u .ld1 (.u (.fld 1) (.var 8))) (.pl 1 1 (.u .ld1 (.u (.fld 0) (.var 8))) .nl))) .nl))
      (.eff false (some 10) (.app 44 2 16 [(.int .i64 0), (.int .i64 0)] (.u .ld1 (.u (.fld 1) (.var 7))) (.var 9))
      (.eff false none (.st 1 (.u (.fld 1) (.var 7)) (.var 10))
      .nxt)))))))))
    (.set 3 (.b (.bin .add) (.var 3) (.lit (.int .i64 1)))
    .nxt))))))
 (.eff false none (.st 2 (.var 1) (.u (.lda 2) (.var 7)))
 .ret))))))))))
def f_ref09_Reversed : Fun := ⟨s_ref09_Reversed, [(.u (.lda 2) (.var 1))]⟩
abbrev v_ref09_Reversed : List Nat := [0, 2, 1, 12, 11, 13, 10, 3, 5, 23, 24]
theorem c_ref09_Reversed : compF P Go.Proofs.Try.f30 v_ref09_Reversed = some f_ref09_Reversed := by kernel_rfl
theorem of_ref09_Reversed {args : List Value} (hn : args.length ≤ 28) {h : Heap} {R : Value → Heap → Prop} (hs : s_ref09_Reversed.wp P (f_ref09_Reversed.post R) (env0 v_ref09_Reversed args) h) : Runs P n_ref09_Reversed args h R := fn_of P_mixed Go.Proofs.Try.func30 c_ref09_Reversed (by rw [Go.Proofs.Try.ntmps30]; exact hn) hs
theorem vr_ref09_Reversed {kp : Bool} {args : List A} {H : List Blk} {R : A → List Blk → Prop} (hlen : args.length ≤ 28) (hk : kp = false ∨ H = []) (hw : (∀ B ∈ H, A.bdL H.length B.cells = true) → A.bdL H.length args = true → s_ref09_Reversed.aw P H.length (postA H.length f_ref09_Reversed R) (envA v_ref09_Reversed args) H) : VR P kp n_ref09_Reversed args H R := VR.of (F := f_ref09_Reversed) (V := v_ref09_Reversed) of_ref09_Reversed hlen hk fun h1 h2 => aw_sound (hw h1 h2)
theorem r_ref09_Reversed : Fun.res f_ref09_Reversed = [(.u (.lda 2) (.var 1))] := rfl
abbrev g_ref09_Reversed_0 : List Nat := [3, 5, 8, 9, 10]

/-- recycling/pqueue.New[int] -/
abbrev n_pqueue_New : Nat := 31
def s_pqueue_New : S :=
 (.set 1 (.lit (.pointer none))
 (.chk (.b (.eqf false) (.var 0) (.lit .nilFunc))
 (.seq
  (.ite (.b (.eqf false) (.var 0) (.lit .nilFunc))
   (.set 1 (.lit (.pointer none))
   .ret)
   .nxt)
 (.chk (.bld [.nilFunc, (.slice none 0 0), (.int .i64 0)] (.pl 0 1 (.var 0) .nl))
 (.eff false (some 2) (.box 64 (.bld [.nilFunc, (.slice none 0 0), (.int .i64 0)] (.pl 0 1 (.var 0) .nl)))
 (.set 1 (.var 2)
 .ret))))))
def f_pqueue_New : Fun := ⟨s_pqueue_New, [(.var 1)]⟩
abbrev v_pqueue_New : List Nat := [0, 2, 7]
theorem c_pqueue_New : compF P Go.Proofs.Try.f31 v_pqueue_New = some f_pqueue_New := by kernel_rfl
theorem of_pqueue_New {args : List Value} (hn : args.length ≤ 8) {h : Heap} {R : Value → Heap → Prop} (hs : s_pqueue_New.wp P (f_pqueue_New.post R) (env0 v_pqueue_New args) h) : Runs P n_pqueue_New args h R := fn_of P_mixed Go.Proofs.Try.func31 c_pqueue_New (by rw [Go.Proofs.Try.ntmps31]; exact hn) hs
theorem vr_pqueue_New {kp : Bool} {args : List A} {H : List Blk} {R : A → List Blk → Prop} (hlen : args.length ≤ 8) (hk : kp = false ∨ H = []) (hw : (∀ B ∈ H, A.bdL H.length B.cells = true) → A.bdL H.length args = true → s_pqueue_New.aw P H.length (postA H.length f_pqueue_New R) (envA v_pqueue_New args) H) : VR P kp n_pqueue_New args H R := VR.of (F := f_pqueue_New) (V := v_pqueue_New) of_pqueue_New hlen hk fun h1 h2 => aw_sound (hw h1 h2)
theorem r_pqueue_New : Fun.res f_pqueue_New = [(.var 1)] := rfl

/-- recycling/graph.Order$1 -/
abbrev n_graph_Order_1 : Nat := 32
def s_graph_Order_1 : S :=
 (.set 2 (.lit (.bool false))
 (.set 2 (.b (.bin .lss) (.var 0) (.var 1))
 .ret))
def f_graph_Order_1 : Fun := ⟨s_graph_Order_1, [(.var 2)]⟩
abbrev v_graph_Order_1 : List Nat := [0, 1, 4]
theorem c_graph_Order_1 : compF P Go.Proofs.Try.f32 v_graph_Order_1 = some f_graph_Order_1 := by kernel_rfl
theorem of_graph_Order_1 {args : List Value} (hn : args.length ≤ 8) {h : Heap} {R : Value → Heap → Prop} (hs : s_graph_Order_1.wp P (f_graph_Order_1.post R) (env0 v_graph_Order_1 args) h) : Runs P n_graph_Order_1 args h R := fn_of P_mixed Go.Proofs.Try.func32 c_graph_Order_1 (by rw [Go.Proofs.Try.ntmps32]; exact hn) hs
theorem vr_graph_Order_1 {kp : Bool} {args : List A} {H : List Blk} {R : A → List Blk → Prop} (hlen : args.length ≤ 8) (hk : kp = false ∨ H = []) (hw : (∀ B ∈ H, A.bdL H.length B.cells = true) → A.bdL H.length args = true → s_graph_Order_1.aw P H.length (postA H.length f_graph_Order_1 R) (envA v_graph_Order_1 args) H) : VR P kp n_graph_Order_1 args H R := VR.of (F := f_graph_Order_1) (V := v_graph_Order_1) of_graph_Order_1 hlen hk fun h1 h2 => aw_sound (hw h1 h2)
theorem r_graph_Order_1 : Fun.res f_graph_Order_1 = [(.var 2)] := rfl

/-- (*recycling/pqueue.Queue[int]).Push -/
abbrev n_pqueue_Queue_Push : Nat := 33
def s_pqueue_Queue_Push : S :=
 (.seq
  (.ite (.b (.eqp false) (.var 0) (.lit (.pointer none)))
   .ret
   .nxt)
 (.chk (.u .ld1 (.u (.fld 1) (.u .nilc (.var 0))))
 (.chk (.bld [(.int .i64 0), (.int .i64 0)] (.pl 0 1 (.var 1) (.pl 1 1 (.u .ld1 (.u (.fld 2) (.u .nilc (.var 0)))) .nl)))
 (.eff false (some 4) (.lit 66 2 1 [(.int .i64 0), (.int .i64 0)] (.pl 0 2 (.bld [(.int .i64 0), (.int .i64 0)] (.pl 0 1 (.var 1) (.pl 1 1 (.u .ld1 (.u (.fld 2) (.u .nilc (.var 0)))) .nl))) .nl))
 (.eff false (some 6) (.app 66 2 16 [(.int .i64 0), (.int .i64 0)] (.u .ld1 (.u (.fld 1) (.u .nilc (.var 0)))) (.var 4))
 (.eff false none (.st 1 (.u (.fld 1) (.u .nilc (.var 0))) (.var 6))
 (.eff false none (.st 1 (.u (.fld 2) (.u .nilc (.var 0))) (.b (.bin .add) (.u .ld1 (.u (.fld 2) (.u .nilc (.var 0)))) (.lit (.int .i64 1))))
 (.set 2 (.b (.bin .sub) (.u .len (.u .ld1 (.u (.fld 1) (.u .nilc (.var 0))))) (.lit (.int .i64 1)))
 (.blk 0
  (.loop
   (.seq
    (.ite (.b (.bin .gtr) (.var 2) (.lit (.int .i64 0)))
     .nxt
     (.exit 0))
   (.blk 1
    (.set 3 (.b (.bin .quo) (.b (.bin .sub) (.var 2) (.lit (.int .i64 1))) (.lit (.int .i64 2)))
    (.call false (some 5) 43 (.cn (.var 0) (.cn (.var 2) (.cn (.var 3) .nl)))
    (.seq
     (.ite (.u (.un .not) (.var 5))
      .ret
      .nxt)
    (.call false none 44 (.cn (.var 0) (.cn (.var 2) (.cn (.var 3) .nl)))
    (.set 2 (.var 3)
    .nxt)))))))))))))))))
def f_pqueue_Queue_Push : Fun := ⟨s_pqueue_Queue_Push, []⟩
abbrev v_pqueue_Queue_Push : List Nat := [0, 1, 4, 5, 19, 44, 20]
theorem c_pqueue_Queue_Push : compF P Go.Proofs.Try.f33 v_pqueue_Queue_Push = some f_pqueue_Queue_Push := by kernel_rfl
theorem of_pqueue_Queue_Push {args : List Value} (hn : args.length ≤ 51) {h : Heap} {R : Value → Heap → Prop} (hs : s_pqueue_Queue_Push.wp P (f_pqueue_Queue_Push.post R) (env0 v_pqueue_Queue_Push args) h) : Runs P n_pqueue_Queue_Push args h R := fn_of P_mixed Go.Proofs.Try.func33 c_pqueue_Queue_Push (by rw [Go.Proofs.Try.ntmps33]; exact hn) hs
theorem vr_pqueue_Queue_Push {kp : Bool} {args : List A} {H : List Blk} {R : A → List Blk → Prop} (hlen : args.length ≤ 51) (hk : kp = false ∨ H = []) (hw : (∀ B ∈ H, A.bdL H.length B.cells = true) → A.bdL H.length args = true → s_pqueue_Queue_Push.aw P H.length (postA H.length f_pqueue_Queue_Push R) (envA v_pqueue_Queue_Push args) H) : VR P kp n_pqueue_Queue_Push args H R := VR.of (F := f_pqueue_Queue_Push) (V := v_pqueue_Queue_Push) of_pqueue_Queue_Push hlen hk fun h1 h2 => aw_sound (hw h1 h2)
theorem r_pqueue_Queue_Push : Fun.res f_pqueue_Queue_Push = [] := rfl
abbrev g_pqueue_Queue_Push_0 : List Nat := [2, 3, 5]

/-- (*recycling/pqueue.Queue[int]).Pop -/
abbrev n_pqueue_Queue_Pop : Nat := 34
def s_pqueue_Queue_Pop : S :=
 (.set 1 (.lit (.int .i64 0))
 (.set 2 (.lit (.bool false))
 (.call false (some 6) 45 (.cn (.var 0) .nl)
 (.chk (.u (.ext 0) (.var 6))
 (.chk (.u (.ext 1) (.var 6))
 (.set 3 (.u (.ext 0) (.var 6))
 (.set 4 (.u (.ext 1) (.var 6))
 (.seq
  (.ite (.u (.un .not) (.var 4))
   (.set 1 (.var 3)
   (.set 2 (.lit (.bool false))
   .ret))
   .nxt)
 (.set 5 (.b (.bin .sub) (.u .len (.u .ld1 (.u (.fld 1) (.u .nilc (.var 0))))) (.lit (.int .i64 1)))
 (.call false none 44 (.cn (.var 0) (.cn (.lit (.int .i64 0)) (.cn (.var 5) .nl)))
 (.chk (.slc none 2 (.u .ld1 (.u (.fld 1) (.u .nilc (.var 0)))) (.var 5) (.u .len (.u .ld1 (.u (.fld 1) (.u .nilc (.var 0))))) .nl)
 (.eff false none (.clr [(.int .i64 0), (.int .i64 0)] (.slc none 2 (.u .ld1 (.u (.fld 1) (.u .nilc (.var 0)))) (.var 5) (.u .len (.u .ld1 (.u (.fld 1) (.u .nilc (.var 0))))) .nl))
 (.chk (.slc none 2 (.u .ld1 (.u (.fld 1) (.u .nilc (.var 0)))) (.lit (.int .i64 0)) (.var 5) .nl)
 (.eff false none (.st 1 (.u (.fld 1) (.u .nilc (.var 0))) (.slc none 2 (.u .ld1 (.u (.fld 1) (.u .nilc (.var 0)))) (.lit (.int .i64 0)) (.var 5) .nl))
 (.call false none 46 (.cn (.var 0) .nl)
 (.set 1 (.var 3)
 (.set 2 (.lit (.bool true))
 .ret)))))))))))))))))
def f_pqueue_Queue_Pop : Fun := ⟨s_pqueue_Queue_Pop, [(.var 1), (.var 2)]⟩
abbrev v_pqueue_Queue_Pop : List Nat := [0, 2, 3, 4, 5, 6, 9]
theorem c_pqueue_Queue_Pop : compF P Go.Proofs.Try.f34 v_pqueue_Queue_Pop = some f_pqueue_Queue_Pop := by kernel_rfl
theorem of_pqueue_Queue_Pop {args : List Value} (hn : args.length ≤ 42) {h : Heap} {R : Value → Heap → Prop} (hs : s_pqueue_Queue_Pop.wp P (f_pqueue_Queue_Pop.post R) (env0 v_pqueue_Queue_Pop args) h) : Runs P n_pqueue_Queue_Pop args h R := fn_of P_mixed Go.Proofs.Try.func34 c_pqueue_Queue_Pop (by rw [Go.Proofs.Try.ntmps34]; exact hn) hs
theorem vr_pqueue_Queue_Pop {kp : Bool} {args : List A} {H : List Blk} {R : A → List Blk → Prop} (hlen : args.length ≤ 42) (hk : kp = false ∨ H = []) (hw : (∀ B ∈ H, A.bdL H.length B.cells = true) → A.bdL H.length args = true → s_pqueue_Queue_Pop.aw P H.length (postA H.length f_pqueue_Queue_Pop R) (envA v_pqueue_Queue_Pop args) H) : VR P kp n_pqueue_Queue_Pop args H R := VR.of (F := f_pqueue_Queue_Pop) (V := v_pqueue_Queue_Pop) of_pqueue_Queue_Pop hlen hk fun h1 h2 => aw_sound (hw h1 h2)
theorem r_pqueue_Queue_Pop : Fun.res f_pqueue_Queue_Pop = [(.var 1), (.var 2)] := rfl

/-- recycling/recyclingref09.free -/
abbrev n_ref09_free : Nat := 35
def s_ref09_free : S :=
 (.eff false (some 4) (.box 24 (.var 0))
 (.set 3 (.lit (.bool false))
 (.seq
  (.ite (.u .ld1 (.b (.idx 1) (.var 1) (.var 2)))
   (.set 3 (.lit (.bool false))
   .ret)
   .nxt)
 (.set 8 (.u .ld1 (.u (.fld 1) (.var 4)))
 (.set 6 (.u .len (.var 8))
 (.set 5 (.lit (.int .i64 0))
 (.seq
  (.blk 0
   (.loop
    (.set 7 (.b (.bin .lss) (.var 5) (.var 6))
    (.seq
     (.ite (.var 7)
      .nxt
      (.exit 0))
    (.seq
     (.blk 1
      (.chk (.u (.lda 2) (.b (.idx 2) (.var 8) (.var 5)))
      (.eff false (some 9) (.alloc 44 [(.int .i64 0), (.int .i64 0)])
      (.eff false none (.st 2 (.var 9) (.u (.lda 2) (.b (.idx 2) (.var 8) (.var 5))))
      (.ite (.ite (.b (.bin .eql) (.u .ld1 (.u (.fld 1) (.var 9))) (.var 2)) (.u (.un .not) (.u .ld1 (.b (.idx 1) (.var 1) (.u .ld1 (.u (.fld 0) (.var 9)))))) (.lit (.bool false)))
       (.set 3 (.lit (.bool false))
       .ret)
       .nxt)))))
    (.set 5 (.b (.bin .add) (.var 5) (.lit (.int .i64 1)))
    .nxt))))))
 (.set 3 (.lit (.bool true))
 .ret))))))))
def f_ref09_free : Fun := ⟨s_ref09_free, [(.var 3)]⟩
abbrev v_ref09_free : List Nat := [0, 1, 2, 6, 3, 16, 15, 17, 14, 8]
theorem c_ref09_free : compF P Go.Proofs.Try.f35 v_ref09_free = some f_ref09_free := by kernel_rfl
theorem of_ref09_free {args : List Value} (hn : args.length ≤ 33) {h : Heap} {R : Value → Heap → Prop} (hs : s_ref09_free.wp P (f_ref09_free.post R) (env0 v_ref09_free args) h) : Runs P n_ref09_free args h R := fn_of P_mixed Go.Proofs.Try.func35 c_ref09_free (by rw [Go.Proofs.Try.ntmps35]; exact hn) hs
theorem vr_ref09_free {kp : Bool} {args : List A} {H : List Blk} {R : A → List Blk → Prop} (hlen : args.length ≤ 33) (hk : kp = false ∨ H = []) (hw : (∀ B ∈ H, A.bdL H.length B.cells = true) → A.bdL H.length args = true → s_ref09_free.aw P H.length (postA H.length f_ref09_free R) (envA v_ref09_free args) H) : VR P kp n_ref09_free args H R := VR.of (F := f_ref09_free) (V := v_ref09_free) of_ref09_free hlen hk fun h1 h2 => aw_sound (hw h1 h2)
theorem r_ref09_free : Fun.res f_ref09_free = [(.var 3)] := rfl
abbrev g_ref09_free_0 : List Nat := [3, 5, 7, 9]

/-- recycling/graph.distances -/
abbrev n_graph_distances : Nat := 36
def s_graph_distances : S :=
 (.eff false (some 9) (.box 24 (.var 0))
 (.eff false (some 2) (.alloc 48 (List.replicate 64 (.int .i64 0)))
 (.eff false (some 6) (.alloc 48 (List.replicate 64 (.int .i64 0)))
 (.set 3 (.lit (.int .i64 0))
 (.seq
  (.blk 0
   (.loop
    (.set 4 (.b (.bin .lss) (.var 3) (.lit (.int .i64 64)))
    (.seq
     (.ite (.var 4)
      .nxt
      (.exit 0))
    (.seq
     (.blk 1
      (.set 5 (.var 3)
      (.eff false none (.st 1 (.b (.idxa 64 1) (.var 6) (.var 5)) (.lit (.int .i64 (-1))))
      .nxt)))
    (.set 3 (.b (.bin .add) (.var 3) (.lit (.int .i64 1)))
    .nxt))))))
 (.eff false none (.st 1 (.b (.idxa 64 1) (.var 6) (.var 1)) (.lit (.int .i64 0)))
 (.eff false (some 15) (.lit 3 1 1 [(.int .i64 0)] (.pl 0 1 (.var 1) .nl))
 (.set 7 (.var 15)
 (.seq
  (.blk 2
   (.loop
    (.seq
     (.ite (.b (.bin .gtr) (.u .len (.var 7)) (.lit (.int .i64 0)))
      .nxt
      (.exit 2))
    (.blk 3
     (.set 8 (.lit (.slice none 0 0))
     (.set 13 (.u .ld1 (.u (.fld 1) (.var 9)))
     (.set 11 (.u .len (.var 13))
     (.set 10 (.lit (.int .i64 0))
     (.seq
      (.blk 4
       (.loop
        (.set 12 (.b (.bin .lss) (.var 10) (.var 11))
        (.seq
         (.ite (.var 12)
          .nxt
          (.exit 4))
        (.seq
         (.blk 5
          (.chk (.u (.lda 2) (.b (.idx 2) (.var 13) (.var 10)))
          (.eff false (some 14) (.alloc 44 [(.int .i64 0), (.int .i64 0)])
          (.eff false none (.st 2 (.var 14) (.u (.lda 2) (.b (.idx 2) (.var 13) (.var 10))))
          (.chk (.ite (.ite (.b (.bin .geq) (.u .ld1 (.u (.fld 0) (.var 14))) (.var 1)) (.b (.bin .lss) (.u .ld1 (.b (.idxa 64 1) (.var 6) (.u .ld1 (.u (.fld 0) (.var 14))))) (.lit (.int .i64 0))) (.lit (.bool false))) (.u .ld1 (.u (.fld 1) (.var 14))) (.lit undef))
          (.ite (.ite (.b (.bin .geq) (.u .ld1 (.u (.fld 0) (.var 14))) (.var 1)) (.b (.bin .lss) (.u .ld1 (.b (.idxa 64 1) (.var 6) (.u .ld1 (.u (.fld 0) (.var 14))))) (.lit (.int .i64 0))) (.lit (.bool false)))
           (.call false (some 16) 47 (.cn (.var 7) (.cn (.u .ld1 (.u (.fld 1) (.var 14))) .nl))
           (.ite (.var 16)
            (.eff false none (.st 1 (.b (.idxa 64 1) (.var 6) (.u .ld1 (.u (.fld 0) (.var 14)))) (.b (.bin .add) (.u .ld1 (.b (.idxa 64 1) (.var 6) (.u .ld1 (.u (.fld 1) (.var 14))))) (.lit (.int .i64 1))))
            (.eff false (some 17) (.lit 3 1 1 [(.int .i64 0)] (.pl 0 1 (.u .ld1 (.u (.fld 0) (.var 14))) .nl))
            (.eff false (some 18) (.app 3 1 8 [(.int .i64 0)] (.var 8) (.var 17))
            (.set 8 (.var 18)
            .nxt))))
            .nxt))
           (.set 16 (.lit undef)
           (.ite (.lit (.bool false))
            (.eff false none (.st 1 (.b (.idxa 64 1) (.var 6) (.u .ld1 (.u (.fld 0) (.var 14)))) (.b (.bin .add) (.u .ld1 (.b (.idxa 64 1) (.var 6) (.u .ld1 (.u (.fld 1) (.var 14))))) (.lit (.int .i64 1))))
            (.eff false (some 17) (.lit 3 1 1 [(.int .i64 0)] (.pl 0 1 (.u .ld1 (.u (.fld 0) (.var 14))) .nl))
            (.eff false (some 18) (.app 3 1 8 [(.int .i64 0)] (.var 8) (.var 17))
            (.set 8 (.var 18)
            .nxt))))
            .nxt))))))))
        (.set 10 (.b (.bin .add) (.var 10) (.lit (.int .i64 1)))
        .nxt))))))
     (.set 7 (.var 8)
     .nxt))))))))))
 (.eff false none (.st 64 (.var 2) (.u (.lda 64) (.var 6)))
 .ret))))))))))
def f_graph_distances : Fun := ⟨s_graph_distances, [(.u (.lda 64) (.var 2))]⟩
abbrev v_graph_distances : List Nat := [0, 1, 4, 11, 12, 6, 5, 7, 8, 2, 27, 26, 28, 25, 10, 20, 46, 59, 60]
theorem c_graph_distances : compF P Go.Proofs.Try.f36 v_graph_distances = some f_graph_distances := by kernel_rfl
theorem of_graph_distances {args : List Value} (hn : args.length ≤ 64) {h : Heap} {R : Value → Heap → Prop} (hs : s_graph_distances.wp P (f_graph_distances.post R) (env0 v_graph_distances args) h) : Runs P n_graph_distances args h R := fn_of P_mixed Go.Proofs.Try.func36 c_graph_distances (by rw [Go.Proofs.Try.ntmps36]; exact hn) hs
theorem vr_graph_distances {kp : Bool} {args : List A} {H : List Blk} {R : A → List Blk → Prop} (hlen : args.length ≤ 64) (hk : kp = false ∨ H = []) (hw : (∀ B ∈ H, A.bdL H.length B.cells = true) → A.bdL H.length args = true → s_graph_distances.aw P H.length (postA H.length f_graph_distances R) (envA v_graph_distances args) H) : VR P kp n_graph_distances args H R := VR.of (F := f_graph_distances) (V := v_graph_distances) of_graph_distances hlen hk fun h1 h2 => aw_sound (hw h1 h2)
theorem r_graph_distances : Fun.res f_graph_distances = [(.u (.lda 64) (.var 2))] := rfl
abbrev g_graph_distances_0 : List Nat := [3, 4, 5]
abbrev g_graph_distances_1 : List Nat := [7, 8, 10, 11, 12, 13, 14, 16, 17, 18]
abbrev g_graph_distances_2 : List Nat := [8, 10, 12, 14, 16, 17, 18]

/-- recycling/graph.follow -/
abbrev n_graph_follow : Nat := 37
def s_graph_follow : S :=
 (.eff false (some 6) (.box 24 (.var 0))
 (.eff false (some 12) (.box 48 (.var 3))
 (.set 4 (.lit (.int .i64 0))
 (.set 5 (.lit (.int .i64 (-1)))
 (.set 10 (.u .ld1 (.u (.fld 1) (.var 6)))
 (.set 8 (.u .len (.var 10))
 (.set 7 (.lit (.int .i64 0))
 (.seq
  (.blk 0
   (.loop
    (.set 9 (.b (.bin .lss) (.var 7) (.var 8))
    (.seq
     (.ite (.var 9)
      .nxt
      (.exit 0))
    (.seq
     (.blk 1
      (.chk (.u (.lda 2) (.b (.idx 2) (.var 10) (.var 7)))
      (.eff false (some 11) (.alloc 44 [(.int .i64 0), (.int .i64 0)])
      (.eff false none (.st 2 (.var 11) (.u (.lda 2) (.b (.idx 2) (.var 10) (.var 7))))
      (.ite (.ite (.ite (.b (.bin .eql) (.u .ld1 (.u (.fld 0) (.var 11))) (.var 1)) (.b (.bin .eql) (.u .ld1 (.b (.idxa 64 1) (.var 12) (.u .ld1 (.u (.fld 1) (.var 11))))) (.var 2)) (.lit (.bool false))) (.ite (.b (.bin .lss) (.var 5) (.lit (.int .i64 0))) (.lit (.bool true)) (.b (.bin .lss) (.u .ld1 (.u (.fld 1) (.var 11))) (.var 5))) (.lit (.bool false)))
       (.set 5 (.u .ld1 (.u (.fld 1) (.var 11)))
       .nxt)
       .nxt)))))
    (.set 7 (.b (.bin .add) (.var 7) (.lit (.int .i64 1)))
    .nxt))))))
 (.set 4 (.var 5)
 .ret)))))))))
def f_graph_follow : Fun := ⟨s_graph_follow, [(.var 4)]⟩
abbrev v_graph_follow : List Nat := [0, 1, 2, 3, 8, 9, 4, 15, 14, 16, 13, 11, 7]
theorem c_graph_follow : compF P Go.Proofs.Try.f37 v_graph_follow = some f_graph_follow := by kernel_rfl
theorem of_graph_follow {args : List Value} (hn : args.length ≤ 45) {h : Heap} {R : Value → Heap → Prop} (hs : s_graph_follow.wp P (f_graph_follow.post R) (env0 v_graph_follow args) h) : Runs P n_graph_follow args h R := fn_of P_mixed Go.Proofs.Try.func37 c_graph_follow (by rw [Go.Proofs.Try.ntmps37]; exact hn) hs
theorem vr_graph_follow {kp : Bool} {args : List A} {H : List Blk} {R : A → List Blk → Prop} (hlen : args.length ≤ 45) (hk : kp = false ∨ H = []) (hw : (∀ B ∈ H, A.bdL H.length B.cells = true) → A.bdL H.length args = true → s_graph_follow.aw P H.length (postA H.length f_graph_follow R) (envA v_graph_follow args) H) : VR P kp n_graph_follow args H R := VR.of (F := f_graph_follow) (V := v_graph_follow) of_graph_follow hlen hk fun h1 h2 => aw_sound (hw h1 h2)
theorem r_graph_follow : Fun.res f_graph_follow = [(.var 4)] := rfl
abbrev g_graph_follow_0 : List Nat := [5, 7, 9, 11]

/-- recycling/recyclingref09.distances -/
abbrev n_ref09_distances : Nat := 38
def s_ref09_distances : S :=
 (.eff false (some 3) (.box 24 (.var 0))
 (.set 2 (.lit (.slice none 0 0))
 (.eff false (some 21) (.mk 3 1 8 [(.int .i64 0)] (.u .ld1 (.u (.fld 0) (.var 3))) (.u .ld1 (.u (.fld 0) (.var 3))))
 (.set 4 (.var 21)
 (.set 6 (.u .len (.var 4))
 (.set 5 (.lit (.int .i64 0))
 (.seq
  (.blk 0
   (.loop
    (.set 7 (.b (.bin .lss) (.var 5) (.var 6))
    (.seq
     (.ite (.var 7)
      .nxt
      (.exit 0))
    (.seq
     (.blk 1
      (.set 8 (.var 5)
      (.eff false none (.st 1 (.b (.idx 1) (.var 4) (.var 8)) (.lit (.int .i64 (-1))))
      .nxt)))
    (.set 5 (.b (.bin .add) (.var 5) (.lit (.int .i64 1)))
    .nxt))))))
 (.set 9 (.lit (.int .i64 1))
 (.seq
  (.blk 2
   (.loop
    (.seq
     (.ite (.b (.bin .leq) (.var 9) (.u .ld1 (.u (.fld 0) (.var 3))))
      .nxt
      (.exit 2))
    (.seq
     (.blk 3
      (.set 10 (.lit (.slice none 0 0))
      (.set 14 (.u .ld1 (.u (.fld 1) (.var 3)))
      (.set 12 (.u .len (.var 14))
      (.set 11 (.lit (.int .i64 0))
      (.seq
       (.blk 4
        (.loop
         (.set 13 (.b (.bin .lss) (.var 11) (.var 12))
         (.seq
          (.ite (.var 13)
           .nxt
           (.exit 4))
         (.seq
          (.blk 5
           (.chk (.u (.lda 2) (.b (.idx 2) (.var 14) (.var 11)))
           (.eff false (some 15) (.alloc 44 [(.int .i64 0), (.int .i64 0)])
           (.eff false none (.st 2 (.var 15) (.u (.lda 2) (.b (.idx 2) (.var 14) (.var 11))))
           (.ite (.ite (.b (.bin .lss) (.u .ld1 (.b (.idx 1) (.var 4) (.u .ld1 (.u (.fld 0) (.var 15))))) (.lit (.int .i64 0))) (.ite (.ite (.b (.bin .eql) (.var 9) (.lit (.int .i64 1))) (.b (.bin .eql) (.u .ld1 (.u (.fld 1) (.var 15))) (.var 1)) (.lit (.bool false))) (.lit (.bool true)) (.ite (.b (.bin .gtr) (.var 9) (.lit (.int .i64 1))) (.b (.bin .eql) (.u .ld1 (.b (.idx 1) (.var 4) (.u .ld1 (.u (.fld 1) (.var 15))))) (.b (.bin .sub) (.var 9) (.lit (.int .i64 1)))) (.lit (.bool false)))) (.lit (.bool false)))
            (.eff false (some 22) (.lit 3 1 1 [(.int .i64 0)] (.pl 0 1 (.u .ld1 (.u (.fld 0) (.var 15))) .nl))
            (.eff false (some 23) (.app 3 1 8 [(.int .i64 0)] (.var 10) (.var 22))
            (.set 10 (.var 23)
            .nxt)))
            .nxt)))))
         (.set 11 (.b (.bin .add) (.var 11) (.lit (.int .i64 1)))
         .nxt))))))
      (.set 19 (.var 10)
      (.set 17 (.u .len (.var 19))
      (.set 16 (.lit (.int .i64 0))
      (.blk 6
       (.loop
        (.set 18 (.b (.bin .lss) (.var 16) (.var 17))
        (.seq
         (.ite (.var 18)
          .nxt
          (.exit 6))
        (.seq
         (.blk 7
          (.set 20 (.u .ld1 (.b (.idx 1) (.var 19) (.var 16)))
          (.eff false none (.st 1 (.b (.idx 1) (.var 4) (.var 20)) (.var 9))
          .nxt)))
        (.set 16 (.b (.bin .add) (.var 16) (.lit (.int .i64 1)))
        .nxt)))))))))))))))
    (.set 9 (.b (.bin .add) (.var 9) (.lit (.int .i64 1)))
    .nxt)))))
 (.set 2 (.var 4)
 .ret))))))))))
def f_ref09_distances : Fun := ⟨s_ref09_distances, [(.var 2)]⟩
abbrev v_ref09_distances : List Nat := [0, 1, 4, 2, 5, 18, 17, 19, 6, 7, 8, 34, 33, 35, 32, 10, 76, 75, 77, 74, 12, 15, 71, 72]
theorem c_ref09_distances : compF P Go.Proofs.Try.f38 v_ref09_distances = some f_ref09_distances := by kernel_rfl
theorem of_ref09_distances {args : List Value} (hn : args.length ≤ 86) {h : Heap} {R : Value → Heap → Prop} (hs : s_ref09_distances.wp P (f_ref09_distances.post R) (env0 v_ref09_distances args) h) : Runs P n_ref09_distances args h R := fn_of P_mixed Go.Proofs.Try.func38 c_ref09_distances (by rw [Go.Proofs.Try.ntmps38]; exact hn) hs
theorem vr_ref09_distances {kp : Bool} {args : List A} {H : List Blk} {R : A → List Blk → Prop} (hlen : args.length ≤ 86) (hk : kp = false ∨ H = []) (hw : (∀ B ∈ H, A.bdL H.length B.cells = true) → A.bdL H.length args = true → s_ref09_distances.aw P H.length (postA H.length f_ref09_distances R) (envA v_ref09_distances args) H) : VR P kp n_ref09_distances args H R := VR.of (F := f_ref09_distances) (V := v_ref09_distances) of_ref09_distances hlen hk fun h1 h2 => aw_sound (hw h1 h2)
theorem r_ref09_distances : Fun.res f_ref09_distances = [(.var 2)] := rfl
abbrev g_ref09_distances_0 : List Nat := [5, 7, 8]
abbrev g_ref09_distances_1 : List Nat := [9, 10, 11, 12, 13, 14, 15, 16, 17, 18, 19, 20, 22, 23]
abbrev g_ref09_distances_2 : List Nat := [10, 11, 13, 15, 22, 23]
abbrev g_ref09_distances_3 : List Nat := [16, 18, 20]

/-- recycling/graph.visit -/
abbrev n_graph_visit : Nat := 39
def s_graph_visit : S :=
 (.eff false (some 5) (.box 24 (.var 0))
 (.eff false (some 8) (.box 60 (.var 2))
 (.set 3 (.lit (.slice none 0 0))
 (.set 4 (.lit (.int .i64 0))
 (.call false (some 10) 14 (.cn (.u (.lda 2) (.var 5)) .nl)
 (.set 6 (.var 10)
 (.seq
  (.ite (.b (.bin .neq) (.var 6) (.lit (.int .i64 0)))
   (.set 3 (.lit (.slice none 0 0))
   (.set 4 (.var 6)
   .ret))
   .nxt)
 (.seq
  (.ite (.ite (.b (.bin .lss) (.var 1) (.lit (.int .i64 0))) (.lit (.bool true)) (.b (.bin .geq) (.var 1) (.u .ld1 (.u (.fld 0) (.var 5)))))
   (.set 3 (.lit (.slice none 0 0))
   (.set 4 (.lit (.int .i64 7))
   .ret))
   .nxt)
 (.eff false (some 11) (.mk 4 1 1 [(.bool false)] (.u .ld1 (.u (.fld 0) (.var 5))) (.u .ld1 (.u (.fld 0) (.var 5))))
 (.eff false (some 7) (.alloc 33 [(.slice none 0 0)])
 (.eff false none (.st 1 (.var 7) (.var 11))
 (.eff false (some 9) (.alloc 52 [.nilFunc])
 (.chk (.fn 48 (.cn (.var 7) (.cn (.var 5) (.cn (.var 8) (.cn (.var 9) .nl)))))
 (.eff false none (.st 1 (.var 9) (.fn 48 (.cn (.var 7) (.cn (.var 5) (.cn (.var 8) (.cn (.var 9) .nl))))))
 (.callv false none (.u .ld1 (.var 9)) (.cn (.var 1) .nl)
 (.set 3 (.u .ld1 (.var 7))
 (.set 4 (.lit (.int .i64 0))
 .ret)))))))))))))))))
def f_graph_visit : Fun := ⟨s_graph_visit, [(.var 3), (.var 4)]⟩
abbrev v_graph_visit : List Nat := [0, 1, 2, 6, 7, 3, 8, 9, 5, 10, 12, 26]
theorem c_graph_visit : compF P Go.Proofs.Try.f39 v_graph_visit = some f_graph_visit := by kernel_rfl
theorem of_graph_visit {args : List Value} (hn : args.length ≤ 32) {h : Heap} {R : Value → Heap → Prop} (hs : s_graph_visit.wp P (f_graph_visit.post R) (env0 v_graph_visit args) h) : Runs P n_graph_visit args h R := fn_of P_mixed Go.Proofs.Try.func39 c_graph_visit (by rw [Go.Proofs.Try.ntmps39]; exact hn) hs
theorem vr_graph_visit {kp : Bool} {args : List A} {H : List Blk} {R : A → List Blk → Prop} (hlen : args.length ≤ 32) (hk : kp = false ∨ H = []) (hw : (∀ B ∈ H, A.bdL H.length B.cells = true) → A.bdL H.length args = true → s_graph_visit.aw P H.length (postA H.length f_graph_visit R) (envA v_graph_visit args) H) : VR P kp n_graph_visit args H R := VR.of (F := f_graph_visit) (V := v_graph_visit) of_graph_visit hlen hk fun h1 h2 => aw_sound (hw h1 h2)
theorem r_graph_visit : Fun.res f_graph_visit = [(.var 3), (.var 4)] := rfl

/-- recycling/graph.Reach$1 -/
abbrev n_graph_Reach_1 : Nat := 40
def s_graph_Reach_1 : S :=
 (.eff false (some 3) (.box 44 (.var 0))
 (.set 1 (.lit (.int .i64 0))
 (.set 2 (.lit (.int .i64 0))
 (.chk (.u .ld1 (.u (.fld 0) (.var 3)))
 (.chk (.u .ld1 (.u (.fld 1) (.var 3)))
 (.set 1 (.u .ld1 (.u (.fld 0) (.var 3)))
 (.set 2 (.u .ld1 (.u (.fld 1) (.var 3)))
 .ret)))))))
def f_graph_Reach_1 : Fun := ⟨s_graph_Reach_1, [(.var 1), (.var 2)]⟩
abbrev v_graph_Reach_1 : List Nat := [0, 2, 3, 1]
theorem c_graph_Reach_1 : compF P Go.Proofs.Try.f40 v_graph_Reach_1 = some f_graph_Reach_1 := by kernel_rfl
theorem of_graph_Reach_1 {args : List Value} (hn : args.length ≤ 8) {h : Heap} {R : Value → Heap → Prop} (hs : s_graph_Reach_1.wp P (f_graph_Reach_1.post R) (env0 v_graph_Reach_1 args) h) : Runs P n_graph_Reach_1 args h R := fn_of P_mixed Go.Proofs.Try.func40 c_graph_Reach_1 (by rw [Go.Proofs.Try.ntmps40]; exact hn) hs
theorem vr_graph_Reach_1 {kp : Bool} {args : List A} {H : List Blk} {R : A → List Blk → Prop} (hlen : args.length ≤ 8) (hk : kp = false ∨ H = []) (hw : (∀ B ∈ H, A.bdL H.length B.cells = true) → A.bdL H.length args = true → s_graph_Reach_1.aw P H.length (postA H.length f_graph_Reach_1 R) (envA v_graph_Reach_1 args) H) : VR P kp n_graph_Reach_1 args H R := VR.of (F := f_graph_Reach_1) (V := v_graph_Reach_1) of_graph_Reach_1 hlen hk fun h1 h2 => aw_sound (hw h1 h2)
theorem r_graph_Reach_1 : Fun.res f_graph_Reach_1 = [(.var 1), (.var 2)] := rfl

/-- recycling/graph.Back$1 -/
abbrev n_graph_Back_1 : Nat := 41
def s_graph_Back_1 : S :=
 (.eff false (some 3) (.box 44 (.var 0))
 (.set 1 (.lit (.int .i64 0))
 (.set 2 (.lit (.int .i64 0))
 (.chk (.u .ld1 (.u (.fld 1) (.var 3)))
 (.chk (.u .ld1 (.u (.fld 0) (.var 3)))
 (.set 1 (.u .ld1 (.u (.fld 1) (.var 3)))
 (.set 2 (.u .ld1 (.u (.fld 0) (.var 3)))
 .ret)))))))
def f_graph_Back_1 : Fun := ⟨s_graph_Back_1, [(.var 1), (.var 2)]⟩
abbrev v_graph_Back_1 : List Nat := [0, 2, 3, 1]
theorem c_graph_Back_1 : compF P Go.Proofs.Try.f41 v_graph_Back_1 = some f_graph_Back_1 := by kernel_rfl
theorem of_graph_Back_1 {args : List Value} (hn : args.length ≤ 8) {h : Heap} {R : Value → Heap → Prop} (hs : s_graph_Back_1.wp P (f_graph_Back_1.post R) (env0 v_graph_Back_1 args) h) : Runs P n_graph_Back_1 args h R := fn_of P_mixed Go.Proofs.Try.func41 c_graph_Back_1 (by rw [Go.Proofs.Try.ntmps41]; exact hn) hs
theorem vr_graph_Back_1 {kp : Bool} {args : List A} {H : List Blk} {R : A → List Blk → Prop} (hlen : args.length ≤ 8) (hk : kp = false ∨ H = []) (hw : (∀ B ∈ H, A.bdL H.length B.cells = true) → A.bdL H.length args = true → s_graph_Back_1.aw P H.length (postA H.length f_graph_Back_1 R) (envA v_graph_Back_1 args) H) : VR P kp n_graph_Back_1 args H R := VR.of (F := f_graph_Back_1) (V := v_graph_Back_1) of_graph_Back_1 hlen hk fun h1 h2 => aw_sound (hw h1 h2)
theorem r_graph_Back_1 : Fun.res f_graph_Back_1 = [(.var 1), (.var 2)] := rfl

/-- recycling/recyclinglaw09.arc -/
abbrev n_law09_arc : Nat := 42
def s_law09_arc : S :=
 (.eff false (some 4) (.box 24 (.var 0))
 (.set 3 (.lit (.bool false))
 (.set 8 (.u .ld1 (.u (.fld 1) (.var 4)))
 (.set 6 (.u .len (.var 8))
 (.set 5 (.lit (.int .i64 0))
 (.seq
  (.blk 0
   (.loop
    (.set 7 (.b (.bin .lss) (.var 5) (.var 6))
    (.seq
     (.ite (.var 7)
      .nxt
      (.exit 0))
    (.seq
     (.blk 1
      (.chk (.u (.lda 2) (.b (.idx 2) (.var 8) (.var 5)))
      (.eff false (some 9) (.alloc 44 [(.int .i64 0), (.int .i64 0)])
      (.eff false none (.st 2 (.var 9) (.u (.lda 2) (.b (.idx 2) (.var 8) (.var 5))))
      (.ite (.ite (.b (.bin .eql) (.u .ld1 (.u (.fld 0) (.var 9))) (.var 1)) (.b (.bin .eql) (.u .ld1 (.u (.fld 1) (.var 9))) (.var 2)) (.lit (.bool false)))
       (.set 3 (.lit (.bool true))
       .ret)
       .nxt)))))
    (.set 5 (.b (.bin .add) (.var 5) (.lit (.int .i64 1)))
    .nxt))))))
 (.set 3 (.lit (.bool false))
 .ret)))))))
def f_law09_arc : Fun := ⟨s_law09_arc, [(.var 3)]⟩
abbrev v_law09_arc : List Nat := [0, 1, 2, 6, 3, 12, 11, 13, 10, 8]
theorem c_law09_arc : compF P Go.Proofs.Try.f42 v_law09_arc = some f_law09_arc := by kernel_rfl
theorem of_law09_arc {args : List Value} (hn : args.length ≤ 27) {h : Heap} {R : Value → Heap → Prop} (hs : s_law09_arc.wp P (f_law09_arc.post R) (env0 v_law09_arc args) h) : Runs P n_law09_arc args h R := fn_of P_mixed Go.Proofs.Try.func42 c_law09_arc (by rw [Go.Proofs.Try.ntmps42]; exact hn) hs
theorem vr_law09_arc {kp : Bool} {args : List A} {H : List Blk} {R : A → List Blk → Prop} (hlen : args.length ≤ 27) (hk : kp = false ∨ H = []) (hw : (∀ B ∈ H, A.bdL H.length B.cells = true) → A.bdL H.length args = true → s_law09_arc.aw P H.length (postA H.length f_law09_arc R) (envA v_law09_arc args) H) : VR P kp n_law09_arc args H R := VR.of (F := f_law09_arc) (V := v_law09_arc) of_law09_arc hlen hk fun h1 h2 => aw_sound (hw h1 h2)
theorem r_law09_arc : Fun.res f_law09_arc = [(.var 3)] := rfl
abbrev g_law09_arc_0 : List Nat := [3, 5, 7, 9]

/-- (*recycling/pqueue.Queue[int]).before -/
abbrev n_pqueue_Queue_before : Nat := 43
def s_pqueue_Queue_before : S :=
 (.set 3 (.lit (.bool false))
 (.seq
  (.both
   (.both
    (.chk (.u (.lda 2) (.b (.idx 2) (.u .ld1 (.u (.fld 1) (.u .nilc (.var 0)))) (.var 1)))
    (.set 7 (.b (.idx 2) (.u .ld1 (.u (.fld 1) (.u .nilc (.var 0)))) (.var 2))
    (.set 6 (.u (.lda 2) (.var 7))
    (.eff false (some 4) (.alloc 66 [(.int .i64 0), (.int .i64 0)])
    (.eff false (some 5) (.alloc 66 [(.int .i64 0), (.int .i64 0)])
    (.eff false none (.st 2 (.var 4) (.u (.lda 2) (.b (.idx 2) (.u .ld1 (.u (.fld 1) (.u .nilc (.var 0)))) (.var 1))))
    (.eff false none (.st 2 (.var 5) (.var 6))
    .nxt)))))))
    (.chk (.u (.lda 2) (.b (.idx 2) (.u .ld1 (.u (.fld 1) (.u .nilc (.var 0)))) (.var 1)))
    (.set 7 (.b (.idx 2) (.u .ld1 (.u (.fld 1) (.u .nilc (.var 0)))) (.var 2))
    (.eff false (some 4) (.alloc 66 [(.int .i64 0), (.int .i64 0)])
    (.eff false (some 5) (.alloc 66 [(.int .i64 0), (.int .i64 0)])
    (.eff false none (.st 2 (.var 4) (.u (.lda 2) (.b (.idx 2) (.u .ld1 (.u (.fld 1) (.u .nilc (.var 0)))) (.var 1))))
    (.set 6 (.u (.lda 2) (.var 7))
    (.eff false none (.st 2 (.var 5) (.var 6))
    .nxt))))))))
   (.chk (.u (.lda 2) (.b (.idx 2) (.u .ld1 (.u (.fld 1) (.u .nilc (.var 0)))) (.var 1)))
   (.chk (.u (.fld 1) (.u .nilc (.var 0)))
   (.chk (.var 2)
   (.eff false (some 4) (.alloc 66 [(.int .i64 0), (.int .i64 0)])
   (.eff false (some 5) (.alloc 66 [(.int .i64 0), (.int .i64 0)])
   (.eff false none (.st 2 (.var 4) (.u (.lda 2) (.b (.idx 2) (.u .ld1 (.u (.fld 1) (.u .nilc (.var 0)))) (.var 1))))
   (.set 7 (.b (.idx 2) (.u .ld1 (.u (.fld 1) (.u .nilc (.var 0)))) (.var 2))
   (.set 6 (.u (.lda 2) (.var 7))
   (.eff false none (.st 2 (.var 5) (.var 6))
   .nxt))))))))))
 (.callv false (some 8) (.u .ld1 (.u (.fld 0) (.u .nilc (.var 0)))) (.cn (.u .ld1 (.u (.fld 0) (.var 4))) (.cn (.u .ld1 (.u (.fld 0) (.var 5))) .nl))
 (.seq
  (.ite (.var 8)
   (.set 3 (.lit (.bool true))
   .ret)
   .nxt)
 (.chk (.ite (.b (.bin .lss) (.u .ld1 (.u (.fld 1) (.var 4))) (.u .ld1 (.u (.fld 1) (.var 5)))) (.u .ld1 (.u (.fld 0) (.u .nilc (.var 0)))) (.lit undef))
 (.chk (.ite (.b (.bin .lss) (.u .ld1 (.u (.fld 1) (.var 4))) (.u .ld1 (.u (.fld 1) (.var 5)))) (.u .ld1 (.u (.fld 0) (.var 5))) (.lit undef))
 (.chk (.ite (.b (.bin .lss) (.u .ld1 (.u (.fld 1) (.var 4))) (.u .ld1 (.u (.fld 1) (.var 5)))) (.u .ld1 (.u (.fld 0) (.var 4))) (.lit undef))
 (.seq
  (.ite (.b (.bin .lss) (.u .ld1 (.u (.fld 1) (.var 4))) (.u .ld1 (.u (.fld 1) (.var 5))))
   (.callv false (some 9) (.u .ld1 (.u (.fld 0) (.u .nilc (.var 0)))) (.cn (.u .ld1 (.u (.fld 0) (.var 5))) (.cn (.u .ld1 (.u (.fld 0) (.var 4))) .nl))
   (.set 3 (.u (.un .not) (.var 9))
   .nxt))
   (.set 9 (.lit undef)
   (.set 3 (.lit (.bool false))
   .nxt)))
 .ret))))))))
def f_pqueue_Queue_before : Fun := ⟨s_pqueue_Queue_before, [(.var 3)]⟩
abbrev v_pqueue_Queue_before : List Nat := [0, 1, 2, 6, 7, 8, 22, 21, 31, 46]
theorem c_pqueue_Queue_before : compF P Go.Proofs.Try.f43 v_pqueue_Queue_before = some f_pqueue_Queue_before := by kernel_rfl
theorem of_pqueue_Queue_before {args : List Value} (hn : args.length ≤ 49) {h : Heap} {R : Value → Heap → Prop} (hs : s_pqueue_Queue_before.wp P (f_pqueue_Queue_before.post R) (env0 v_pqueue_Queue_before args) h) : Runs P n_pqueue_Queue_before args h R := fn_of P_mixed Go.Proofs.Try.func43 c_pqueue_Queue_before (by rw [Go.Proofs.Try.ntmps43]; exact hn) hs
theorem vr_pqueue_Queue_before {kp : Bool} {args : List A} {H : List Blk} {R : A → List Blk → Prop} (hlen : args.length ≤ 49) (hk : kp = false ∨ H = []) (hw : (∀ B ∈ H, A.bdL H.length B.cells = true) → A.bdL H.length args = true → s_pqueue_Queue_before.aw P H.length (postA H.length f_pqueue_Queue_before R) (envA v_pqueue_Queue_before args) H) : VR P kp n_pqueue_Queue_before args H R := VR.of (F := f_pqueue_Queue_before) (V := v_pqueue_Queue_before) of_pqueue_Queue_before hlen hk fun h1 h2 => aw_sound (hw h1 h2)
theorem r_pqueue_Queue_before : Fun.res f_pqueue_Queue_before = [(.var 3)] := rfl

/-- (*recycling/pqueue.Queue[int]).swap -/
abbrev n_pqueue_Queue_swap : Nat := 44
def s_pqueue_Queue_swap : S :=
 (.set 3 (.u .ld1 (.u (.fld 1) (.u .nilc (.var 0))))
 (.chk (.u (.lda 2) (.b (.idx 2) (.u .ld1 (.u (.fld 1) (.u .nilc (.var 0)))) (.var 2)))
 (.set 4 (.u (.lda 2) (.b (.idx 2) (.u .ld1 (.u (.fld 1) (.u .nilc (.var 0)))) (.var 1)))
 (.eff false none (.st 2 (.b (.idx 2) (.u .ld1 (.u (.fld 1) (.u .nilc (.var 0)))) (.var 1)) (.u (.lda 2) (.b (.idx 2) (.u .ld1 (.u (.fld 1) (.u .nilc (.var 0)))) (.var 2))))
 (.eff false none (.st 2 (.b (.idx 2) (.var 3) (.var 2)) (.var 4))
 .nxt)))))
def f_pqueue_Queue_swap : Fun := ⟨s_pqueue_Queue_swap, []⟩
abbrev v_pqueue_Queue_swap : List Nat := [0, 1, 2, 14, 29]
theorem c_pqueue_Queue_swap : compF P Go.Proofs.Try.f44 v_pqueue_Queue_swap = some f_pqueue_Queue_swap := by kernel_rfl
theorem of_pqueue_Queue_swap {args : List Value} (hn : args.length ≤ 32) {h : Heap} {R : Value → Heap → Prop} (hs : s_pqueue_Queue_swap.wp P (f_pqueue_Queue_swap.post R) (env0 v_pqueue_Queue_swap args) h) : Runs P n_pqueue_Queue_swap args h R := fn_of P_mixed Go.Proofs.Try.func44 c_pqueue_Queue_swap (by rw [Go.Proofs.Try.ntmps44]; exact hn) hs
theorem vr_pqueue_Queue_swap {kp : Bool} {args : List A} {H : List Blk} {R : A → List Blk → Prop} (hlen : args.length ≤ 32) (hk : kp = false ∨ H = []) (hw : (∀ B ∈ H, A.bdL H.length B.cells = true) → A.bdL H.length args = true → s_pqueue_Queue_swap.aw P H.length (postA H.length f_pqueue_Queue_swap R) (envA v_pqueue_Queue_swap args) H) : VR P kp n_pqueue_Queue_swap args H R := VR.of (F := f_pqueue_Queue_swap) (V := v_pqueue_Queue_swap) of_pqueue_Queue_swap hlen hk fun h1 h2 => aw_sound (hw h1 h2)
theorem r_pqueue_Queue_swap : Fun.res f_pqueue_Queue_swap = [] := rfl

/-- (*recycling/pqueue.Queue[int]).Peek -/
abbrev n_pqueue_Queue_Peek : Nat := 45
def s_pqueue_Queue_Peek : S :=
 (.set 1 (.lit (.int .i64 0))
 (.set 2 (.lit (.bool false))
 (.call false (some 4) 49 (.cn (.var 0) .nl)
 (.seq
  (.ite (.b (.bin .eql) (.var 4) (.lit (.int .i64 0)))
   (.set 3 (.lit (.int .i64 0))
   (.set 1 (.var 3)
   (.set 2 (.lit (.bool false))
   .ret)))
   .nxt)
 (.set 1 (.u .ld1 (.u (.fld 0) (.b (.idx 2) (.u .ld1 (.u (.fld 1) (.u .nilc (.var 0)))) (.lit (.int .i64 0)))))
 (.set 2 (.lit (.bool true))
 .ret))))))
def f_pqueue_Queue_Peek : Fun := ⟨s_pqueue_Queue_Peek, [(.var 1), (.var 2)]⟩
abbrev v_pqueue_Queue_Peek : List Nat := [0, 2, 3, 4, 6]
theorem c_pqueue_Queue_Peek : compF P Go.Proofs.Try.f45 v_pqueue_Queue_Peek = some f_pqueue_Queue_Peek := by kernel_rfl
theorem of_pqueue_Queue_Peek {args : List Value} (hn : args.length ≤ 16) {h : Heap} {R : Value → Heap → Prop} (hs : s_pqueue_Queue_Peek.wp P (f_pqueue_Queue_Peek.post R) (env0 v_pqueue_Queue_Peek args) h) : Runs P n_pqueue_Queue_Peek args h R := fn_of P_mixed Go.Proofs.Try.func45 c_pqueue_Queue_Peek (by rw [Go.Proofs.Try.ntmps45]; exact hn) hs
theorem vr_pqueue_Queue_Peek {kp : Bool} {args : List A} {H : List Blk} {R : A → List Blk → Prop} (hlen : args.length ≤ 16) (hk : kp = false ∨ H = []) (hw : (∀ B ∈ H, A.bdL H.length B.cells = true) → A.bdL H.length args = true → s_pqueue_Queue_Peek.aw P H.length (postA H.length f_pqueue_Queue_Peek R) (envA v_pqueue_Queue_Peek args) H) : VR P kp n_pqueue_Queue_Peek args H R := VR.of (F := f_pqueue_Queue_Peek) (V := v_pqueue_Queue_Peek) of_pqueue_Queue_Peek hlen hk fun h1 h2 => aw_sound (hw h1 h2)
theorem r_pqueue_Queue_Peek : Fun.res f_pqueue_Queue_Peek = [(.var 1), (.var 2)] := rfl

/-- (*recycling/pqueue.Queue[int]).sink -/
abbrev n_pqueue_Queue_sink : Nat := 46
def s_pqueue_Queue_sink : S :=
 (.set 1 (.lit (.int .i64 0))
 (.blk 0
  (.loop
   (.blk 1
    (.set 2 (.var 1)
    (.set 3 (.b (.bin .add) (.b (.bin .mul) (.lit (.int .i64 2)) (.var 1)) (.lit (.int .i64 1)))
    (.seq
     (.blk 2
      (.loop
       (.seq
        (.ite (.ite (.b (.bin .leq) (.var 3) (.b (.bin .add) (.b (.bin .mul) (.lit (.int .i64 2)) (.var 1)) (.lit (.int .i64 2)))) (.b (.bin .lss) (.var 3) (.u .len (.u .ld1 (.u (.fld 1) (.u .nilc (.var 0)))))) (.lit (.bool false)))
         .nxt
         (.exit 2))
       (.seq
        (.blk 3
         (.call false (some 4) 43 (.cn (.var 0) (.cn (.var 3) (.cn (.var 2) .nl)))
         (.ite (.var 4)
          (.set 2 (.var 3)
          .nxt)
          .nxt)))
       (.set 3 (.b (.bin .add) (.var 3) (.lit (.int .i64 1)))
       .nxt)))))
    (.seq
     (.ite (.b (.bin .eql) (.var 2) (.var 1))
      .ret
      .nxt)
    (.call false none 44 (.cn (.var 0) (.cn (.var 1) (.cn (.var 2) .nl)))
    (.set 1 (.var 2)
    .nxt))))))))))
def f_pqueue_Queue_sink : Fun := ⟨s_pqueue_Queue_sink, []⟩
abbrev v_pqueue_Queue_sink : List Nat := [0, 2, 3, 4, 28]
theorem c_pqueue_Queue_sink : compF P Go.Proofs.Try.f46 v_pqueue_Queue_sink = some f_pqueue_Queue_sink := by kernel_rfl
theorem of_pqueue_Queue_sink {args : List Value} (hn : args.length ≤ 38) {h : Heap} {R : Value → Heap → Prop} (hs : s_pqueue_Queue_sink.wp P (f_pqueue_Queue_sink.post R) (env0 v_pqueue_Queue_sink args) h) : Runs P n_pqueue_Queue_sink args h R := fn_of P_mixed Go.Proofs.Try.func46 c_pqueue_Queue_sink (by rw [Go.Proofs.Try.ntmps46]; exact hn) hs
theorem vr_pqueue_Queue_sink {kp : Bool} {args : List A} {H : List Blk} {R : A → List Blk → Prop} (hlen : args.length ≤ 38) (hk : kp = false ∨ H = []) (hw : (∀ B ∈ H, A.bdL H.length B.cells = true) → A.bdL H.length args = true → s_pqueue_Queue_sink.aw P H.length (postA H.length f_pqueue_Queue_sink R) (envA v_pqueue_Queue_sink args) H) : VR P kp n_pqueue_Queue_sink args H R := VR.of (F := f_pqueue_Queue_sink) (V := v_pqueue_Queue_sink) of_pqueue_Queue_sink hlen hk fun h1 h2 => aw_sound (hw h1 h2)
theorem r_pqueue_Queue_sink : Fun.res f_pqueue_Queue_sink = [] := rfl
abbrev g_pqueue_Queue_sink_0 : List Nat := [1, 2, 3, 4]
abbrev g_pqueue_Queue_sink_1 : List Nat := [2, 3, 4]

/-- slices.Contains[[]int,int] -/
abbrev n_slices_Containsint_int : Nat := 47
def s_slices_Containsint_int : S :=
 (.set 2 (.lit (.bool false))
 (.call false (some 3) 50 (.cn (.var 0) (.cn (.var 1) .nl))
 (.set 2 (.b (.bin .geq) (.var 3) (.lit (.int .i64 0)))
 .ret)))
def f_slices_Containsint_int : Fun := ⟨s_slices_Containsint_int, [(.var 2)]⟩
abbrev v_slices_Containsint_int : List Nat := [0, 1, 4, 7]
theorem c_slices_Containsint_int : compF P Go.Proofs.Try.f47 v_slices_Containsint_int = some f_slices_Containsint_int := by kernel_rfl
theorem of_slices_Containsint_int {args : List Value} (hn : args.length ≤ 9) {h : Heap} {R : Value → Heap → Prop} (hs : s_slices_Containsint_int.wp P (f_slices_Containsint_int.post R) (env0 v_slices_Containsint_int args) h) : Runs P n_slices_Containsint_int args h R := fn_of P_mixed Go.Proofs.Try.func47 c_slices_Containsint_int (by rw [Go.Proofs.Try.ntmps47]; exact hn) hs
theorem vr_slices_Containsint_int {kp : Bool} {args : List A} {H : List Blk} {R : A → List Blk → Prop} (hlen : args.length ≤ 9) (hk : kp = false ∨ H = []) (hw : (∀ B ∈ H, A.bdL H.length B.cells = true) → A.bdL H.length args = true → s_slices_Containsint_int.aw P H.length (postA H.length f_slices_Containsint_int R) (envA v_slices_Containsint_int args) H) : VR P kp n_slices_Containsint_int args H R := VR.of (F := f_slices_Containsint_int) (V := v_slices_Containsint_int) of_slices_Containsint_int hlen hk fun h1 h2 => aw_sound (hw h1 h2)
theorem r_slices_Containsint_int : Fun.res f_slices_Containsint_int = [(.var 2)] := rfl

/-- recycling/graph.visit$1 -/
abbrev n_graph_visit_1 : Nat := 48
def s_graph_visit_1 : S :=
 (.seq
  (.ite (.u .ld1 (.b (.idx 1) (.u .ld1 (.var 1)) (.var 0)))
   .ret
   .nxt)
 (.eff false none (.st 1 (.b (.idx 1) (.u .ld1 (.var 1)) (.var 0)) (.lit (.bool true)))
 (.set 8 (.u .ld1 (.u (.fld 1) (.var 2)))
 (.set 6 (.u .len (.var 8))
 (.set 5 (.lit (.int .i64 0))
 (.blk 0
  (.loop
   (.set 7 (.b (.bin .lss) (.var 5) (.var 6))
   (.seq
    (.ite (.var 7)
     .nxt
     (.exit 0))
   (.seq
    (.blk 1
     (.chk (.u (.lda 2) (.b (.idx 2) (.var 8) (.var 5)))
     (.eff false (some 9) (.alloc 44 [(.int .i64 0), (.int .i64 0)])
     (.eff false none (.st 2 (.var 9) (.u (.lda 2) (.b (.idx 2) (.var 8) (.var 5))))
     (.callv false (some 12) (.u .ld1 (.var 3)) (.cn (.u (.lda 2) (.var 9)) .nl)
     (.chk (.u (.ext 0) (.var 12))
     (.chk (.u (.ext 1) (.var 12))
     (.set 10 (.u (.ext 0) (.var 12))
     (.set 11 (.u (.ext 1) (.var 12))
     (.ite (.b (.bin .eql) (.var 10) (.var 0))
      (.callv false none (.u .ld1 (.var 4)) (.cn (.var 11) .nl)
      .nxt)
      .nxt))))))))))
   (.set 5 (.b (.bin .add) (.var 5) (.lit (.int .i64 1)))
   .nxt)))))))))))
def f_graph_visit_1 : Fun := ⟨s_graph_visit_1, []⟩
abbrev v_graph_visit_1 : List Nat := [0, 1, 2, 3, 4, 20, 19, 21, 18, 7, 8, 9, 27]
theorem c_graph_visit_1 : compF P Go.Proofs.Try.f48 v_graph_visit_1 = some f_graph_visit_1 := by kernel_rfl
theorem of_graph_visit_1 {args : List Value} (hn : args.length ≤ 37) {h : Heap} {R : Value → Heap → Prop} (hs : s_graph_visit_1.wp P (f_graph_visit_1.post R) (env0 v_graph_visit_1 args) h) : Runs P n_graph_visit_1 args h R := fn_of P_mixed Go.Proofs.Try.func48 c_graph_visit_1 (by rw [Go.Proofs.Try.ntmps48]; exact hn) hs
theorem vr_graph_visit_1 {kp : Bool} {args : List A} {H : List Blk} {R : A → List Blk → Prop} (hlen : args.length ≤ 37) (hk : kp = false ∨ H = []) (hw : (∀ B ∈ H, A.bdL H.length B.cells = true) → A.bdL H.length args = true → s_graph_visit_1.aw P H.length (postA H.length f_graph_visit_1 R) (envA v_graph_visit_1 args) H) : VR P kp n_graph_visit_1 args H R := VR.of (F := f_graph_visit_1) (V := v_graph_visit_1) of_graph_visit_1 hlen hk fun h1 h2 => aw_sound (hw h1 h2)
theorem r_graph_visit_1 : Fun.res f_graph_visit_1 = [] := rfl
abbrev g_graph_visit_1_0 : List Nat := [5, 7, 9, 10, 11, 12]

/-- (*recycling/pqueue.Queue[int]).Len -/
abbrev n_pqueue_Queue_Len : Nat := 49
def s_pqueue_Queue_Len : S :=
 (.set 1 (.lit (.int .i64 0))
 (.seq
  (.ite (.b (.eqp false) (.var 0) (.lit (.pointer none)))
   (.set 1 (.lit (.int .i64 0))
   .ret)
   .nxt)
 (.set 1 (.u .len (.u .ld1 (.u (.fld 1) (.u .nilc (.var 0)))))
 .ret)))
def f_pqueue_Queue_Len : Fun := ⟨s_pqueue_Queue_Len, [(.var 1)]⟩
abbrev v_pqueue_Queue_Len : List Nat := [0, 2]
theorem c_pqueue_Queue_Len : compF P Go.Proofs.Try.f49 v_pqueue_Queue_Len = some f_pqueue_Queue_Len := by kernel_rfl
theorem of_pqueue_Queue_Len {args : List Value} (hn : args.length ≤ 10) {h : Heap} {R : Value → Heap → Prop} (hs : s_pqueue_Queue_Len.wp P (f_pqueue_Queue_Len.post R) (env0 v_pqueue_Queue_Len args) h) : Runs P n_pqueue_Queue_Len args h R := fn_of P_mixed Go.Proofs.Try.func49 c_pqueue_Queue_Len (by rw [Go.Proofs.Try.ntmps49]; exact hn) hs
theorem vr_pqueue_Queue_Len {kp : Bool} {args : List A} {H : List Blk} {R : A → List Blk → Prop} (hlen : args.length ≤ 10) (hk : kp = false ∨ H = []) (hw : (∀ B ∈ H, A.bdL H.length B.cells = true) → A.bdL H.length args = true → s_pqueue_Queue_Len.aw P H.length (postA H.length f_pqueue_Queue_Len R) (envA v_pqueue_Queue_Len args) H) : VR P kp n_pqueue_Queue_Len args H R := VR.of (F := f_pqueue_Queue_Len) (V := v_pqueue_Queue_Len) of_pqueue_Queue_Len hlen hk fun h1 h2 => aw_sound (hw h1 h2)
theorem r_pqueue_Queue_Len : Fun.res f_pqueue_Queue_Len = [(.var 1)] := rfl

/-- slices.Index[[]int,int] -/
abbrev n_slices_Indexint_int : Nat := 50
def s_slices_Indexint_int : S :=
 (.set 2 (.lit (.int .i64 0))
 (.set 4 (.u .len (.var 0))
 (.set 3 (.lit (.int .i64 0))
 (.seq
  (.blk 0
   (.loop
    (.set 5 (.b (.bin .lss) (.var 3) (.var 4))
    (.seq
     (.ite (.var 5)
      .nxt
      (.exit 0))
    (.seq
     (.blk 1
      (.set 6 (.var 3)
      (.ite (.b (.bin .eql) (.var 1) (.u .ld1 (.b (.idx 1) (.var 0) (.var 6))))
       (.set 2 (.var 6)
       .ret)
       .nxt)))
    (.set 3 (.b (.bin .add) (.var 3) (.lit (.int .i64 1)))
    .nxt))))))
 (.set 2 (.lit (.int .i64 (-1)))
 .ret)))))
def f_slices_Indexint_int : Fun := ⟨s_slices_Indexint_int, [(.var 2)]⟩
abbrev v_slices_Indexint_int : List Nat := [0, 1, 4, 8, 7, 9, 5]
theorem c_slices_Indexint_int : compF P Go.Proofs.Try.f50 v_slices_Indexint_int = some f_slices_Indexint_int := by kernel_rfl
theorem of_slices_Indexint_int {args : List Value} (hn : args.length ≤ 19) {h : Heap} {R : Value → Heap → Prop} (hs : s_slices_Indexint_int.wp P (f_slices_Indexint_int.post R) (env0 v_slices_Indexint_int args) h) : Runs P n_slices_Indexint_int args h R := fn_of P_mixed Go.Proofs.Try.func50 c_slices_Indexint_int (by rw [Go.Proofs.Try.ntmps50]; exact hn) hs
theorem vr_slices_Indexint_int {kp : Bool} {args : List A} {H : List Blk} {R : A → List Blk → Prop} (hlen : args.length ≤ 19) (hk : kp = false ∨ H = []) (hw : (∀ B ∈ H, A.bdL H.length B.cells = true) → A.bdL H.length args = true → s_slices_Indexint_int.aw P H.length (postA H.length f_slices_Indexint_int R) (envA v_slices_Indexint_int args) H) : VR P kp n_slices_Indexint_int args H R := VR.of (F := f_slices_Indexint_int) (V := v_slices_Indexint_int) of_slices_Indexint_int hlen hk fun h1 h2 => aw_sound (hw h1 h2)
theorem r_slices_Indexint_int : Fun.res f_slices_Indexint_int = [(.var 2)] := rfl
abbrev g_slices_Indexint_int_0 : List Nat := [2, 3, 5, 6]

end Go.Proofs.Ytaiidcelopfjlaa
